/-
  Texts merged by a program of this claim's: EndUse, Law6B, Aw6, RecN.
-/
import Derived.Test.YtkhcdbafcigeoaaGreatDoorM14
import Derived.Test.YtkhcdbafcigeoaaGreatDoorM38
import Derived.Test.YtkhcdbafcigeoaaGreatDoorM20
import Derived.Test.YtkhcdbafcigeoaaGreatDoorM7
import Derived.Test.YtkhcdbafcigeoaaGreatDoorM34
import Derived.Test.YtkhcdbafcigeoaaGreatDoorM13
import Derived.Lib.SlBytesConst
import Derived.Test.YtkhcdbafcigeoaaGreatDoorM29
import Derived.Test.YtkhcdbafcigeoaaGreatDoorM36
namespace Go.Proofs.YtkhcdbafcigeoaaGreatDoor
open Go Go.RowKit Go.Sort
set_option maxRecDepth 100000
set_option maxHeartbeats 1600000
section
variable {X Y : Nat → Prop} {w0 w w' : World} {p b : Nat} {d d' : Dsk} {L : Lg}
theorem Bk.call {z : Int} {c : Nat} (h : HasL X w0 w p b d L) (hs : Bk z c L) (hz : in64 z) (hc : c ≤ 1000) (hl : L.l.length ≤ 1000) (ht : Tab w0) {v : Value} {es : List Ev} (hv : Evs w v es) :
    Calls Tryz.prog 45 #[.pointer (some ⟨p, 0, none⟩), v] w (DidL X w0 w p b (L.add d es).d (L.add d es).L (.int .i64 (L.add d es).e)) := by
  have h1 := hs.n
  have h2 := hs.bytes
  exact LAppend_ok h ht ⟨by omega, by omega⟩ hs.last hl (by rw [hs.size]; exact hz) hv h.pok
theorem HasL.armed (h : HasL X w0 w p b d L) (k : Int) (hk : k ≤ 9223372036854775807) : Calls Tryz.prog 29 #[.pointer (some ⟨b, 0, none⟩), .int .i64 k] w (DidL X w0 w p b (d.armed k) L (.tuple #[])) :=
  h.step fun _ _ hY => hY.arm k hk rfl
end
end Go.Proofs.YtkhcdbafcigeoaaGreatDoor

namespace Go.Proofs.YtkhcdbafcigeoaaGreatDoor
open Go Go.RowKit Go.Sort
set_option maxRecDepth 100000
set_option maxHeartbeats 1600000
section
variable {X : Nat → Prop} {w0 w1 w : World} {b : Nat} {d : Dsk}
theorem HasX.rebase (h : HasX X w1 w b d) (hn : Nw w0 w1) : HasX X w0 w b d := by
  obtain ⟨S, h1, h2, h3, h4⟩ := h
  exact ⟨S, h1, hn.trans h2, fun k hk => Nat.le_trans hn.size (h3 k hk), h4⟩
end
theorem den_new (m : Int) : DenFor (fun _ => (0, [], 0)) (newDsk m) := .inr (fun q hq => by
  have : ((newDsk m).read manifestS).1 = [] := rfl
  rw [this] at hq
  cases hq)
end Go.Proofs.YtkhcdbafcigeoaaGreatDoor

namespace Go.Proofs.YtkhcdbafcigeoaaGreatDoor
open Go Go.RowKit Go.Sort
set_option maxRecDepth 100000
set_option maxHeartbeats 1600000
section
variable {X : Nat → Prop} {w0 w w' : World} {p b : Nat} {d d' : Dsk} {L : Lg} {fs : List (List Ev)} {m : Nat}
theorem Sx.call (h : HasL X w0 w p b d L) (hs : Sx d L fs m) (hk : fs.length ≤ 5) (ht : Tab w0) {v : Value} {es : List Ev} (hv : Evs w v es) :
    Calls Tryz.prog 45 #[.pointer (some ⟨p, 0, none⟩), v] w (DidL X w0 w p b (L.add d es).d (L.add d es).L (.int .i64 (L.add d es).e)) := by
  have hl : L.l = [pc0] := hs.inv.l
  refine LAppend_ok h ht ⟨by rw [hs.n]; omega, by rw [hs.bytes]; omega⟩ (by rw [hl]; decide) (by rw [hl]; decide) (by rw [hs.size]; unfold in64; omega) hv h.pok
theorem den_pc0 {U : List UInt8 → Int × List Ev × Int} {s : ScanR} (hs : scanD U d = s) (h0 : s.e = 0) (hp : ∀ q ∈ s.ps, q.dense = false) (hm : (d.read manifestS).2 = 0) : DenFor U d := by
  refine .inr ?_
  subst hs
  unfold scanD at h0 hp
  rw [if_neg (by rw [hm]; decide), if_neg (by rw [hm]; simp)] at h0 hp
  split at h0
  · simp at h0
  · rename_i h1
    rw [if_neg h1] at hp
    split at h0
    · rename_i h2; exact absurd h0 h2
    · rename_i h2
      rw [if_neg h2] at hp
      exact hp
end
theorem ev_lit2 (w : World) (e f : Ev) (he : e.Ok) (hf : f.Ok) : Evs (w.alloc (.cells ((evV e ++ evV f)).toArray 104 (0, 0))) (.slice (some ⟨w.heap.size, 0, none⟩) 2 2) [e, f] :=
  ⟨by have := src_lit w 104 (0, 0) 5 2 2 (evV e ++ evV f) rfl (by omega) (by decide); simpa using this, fun x hx => by simp only [List.mem_cons, List.not_mem_nil, or_false] at hx; rcases hx with rfl | rfl; exact he; exact hf⟩
theorem Evs.kept {Y : Nat → Prop} {w w' : World} {v : Value} {l : List Ev} (h : Evs w v l) (hk : Kept Y w w') (hy : ∀ g, v.ownBlock = some g → Y g) : Evs w' v l := by
  refine ⟨?_, h.ok⟩
  obtain ⟨e, ⟨a, hv, hn⟩ | ⟨g, o, cap, hv, h1, h2, h3, h4⟩⟩ := h.src
  · exact ⟨e, .inl ⟨a, hv, hn⟩⟩
  · subst hv
    exact ⟨e, .inr ⟨g, o, cap, rfl, h1, h2, Nat.lt_of_lt_of_le h3 hk.1, fun j hj => hk.cell (h4 j hj) (hy g rfl)⟩⟩
theorem in64_123 {n : Int} (h : n = 1 ∨ n = 2 ∨ n = 3) : (evA n).Ok := evA_ok (by unfold in64; omega)
theorem awake6_ok (w : World) (ht : Tab w) : Calls Tryz.prog 32 #[] w fun e w' => e = .returned (.bool true) ∧ Nw w w' := by
  have HT := Lib.hid ht
  clear ht
  obtain ⟨d0, cr0, st0⟩ := Sx.new
  have HOP : Hid (openD (fun _ => (0, [], 0)) (newDsk 1000) 64 = ⟨d0, newLg 64, [], 0⟩) := Lib.hid (open_new (by omega) (by omega) cr0)
  have ST0 := Lib.hid st0
  clear cr0 st0
  go_enter Tryz.func32, Tryz.ntmps32
  go_wp2_with fail
  refine (HasX.new 1000 w (by omega) (by omega)).mono ?_
  rintro e w1 ⟨b, rfl, H1⟩
  have H1 := Lib.hid H1
  go_wp2_with fail
  refine (Scan_ok H1.out (den_new 1000) (scan_new 1000)).mono ?_
  rintro e w2 ⟨v2, p2, rfl, o1, o2⟩
  obtain ⟨va, vc, rfl, -⟩ := o1.1.len
  obtain ⟨pa, pc, rfl, -⟩ := o2.1.len
  have H2 := Lib.hid (H1.out.nw o1.2.1)
  simp only [List.length_nil]
  have C := Open_ok H2.out HT.out (den_new 1000) 64
  rw [HOP.out] at C
  have C := Lib.hid C
  clear o1 o2 H1 HOP
  go_wp2_with fail
  refine C.out.mono ?_
  rintro e w3 ⟨k3, ⟨-, p, v3, rfl, hl3, V3, -⟩ | ⟨hx, -⟩⟩
  case inr => exact absurd rfl hx
  obtain ⟨ea, ec, rfl, -⟩ := V3.len
  have L3 := Lib.hid (hl3.less (Y := fun _ => False) fun k hk => hk.elim)
  clear C H2 k3 V3 hl3
  go_wp2_with fail
  have E6 := ev_lit w3 (evA 1) (in64_123 (.inl rfl)) 1 (by omega) (by decide)
  have L6 := Lib.hid (L3.out.nw ((Nw.refl w3).alloc (.cells (evV (evA 1)).toArray 104 (0, 0))))
  obtain ⟨d1, K1, ad1, st1⟩ := ST0.out.add (by simp) (by simp) (frmA (n := 1) (.inl rfl))
  have C6 := Sx.call L6.out ST0.out (by simp) HT.out E6
  rw [ad1] at C6
  refine C6.mono ?_
  rintro e w7 ⟨rfl, L7, -⟩
  have L7 := Lib.hid L7
  have ST1 := Lib.hid st1
  clear E6 L6 ad1 st1 C6 ST0 L3
  go_wp2_with fail
  have E8 := ev_lit w7 (evA 2) (in64_123 (.inr (.inl rfl))) 1 (by omega) (by decide)
  have L8 := Lib.hid (L7.out.nw ((Nw.refl w7).alloc (.cells (evV (evA 2)).toArray 104 (0, 0))))
  obtain ⟨d2, K2, ad2, st2⟩ := ST1.out.add (by simp) (by simp) (frmA (n := 2) (.inr (.inl rfl)))
  have C8 := Sx.call L8.out ST1.out (by simp) HT.out E8
  rw [ad2] at C8
  refine C8.mono ?_
  rintro e w9 ⟨rfl, L9, -⟩
  have L9 := Lib.hid L9
  have ST2 := Lib.hid st2
  clear E8 L8 ad2 st2 C8 ST1 L7
  obtain ⟨d3, K3, sy3, st3⟩ := ST2.out.sync
  have C10 := LSync_ok L9.out
  rw [sy3] at C10
  have C10 := Lib.hid C10
  have ST3 := Lib.hid st3
  clear sy3 st3
  go_wp2_with fail
  refine C10.out.mono ?_
  rintro e w11 ⟨rfl, L11, -⟩
  have L11 := Lib.hid L11
  clear C10 L9 ST2
  go_wp2_with fail
  have E12 := ev_lit w11 (evA 3) (in64_123 (.inr (.inr rfl))) 1 (by omega) (by decide)
  have L12 := Lib.hid (L11.out.nw ((Nw.refl w11).alloc (.cells (evV (evA 3)).toArray 104 (0, 0))))
  obtain ⟨d4, K4, ad4, st4⟩ := ST3.out.add (by simp) (by simp) (frmA (n := 3) (.inr (.inr rfl)))
  have C12 := Sx.call L12.out ST3.out (by simp) HT.out E12
  rw [ad4] at C12
  refine C12.mono ?_
  rintro e w13 ⟨rfl, L13, -⟩
  have H13 := Lib.hid L13.has
  have ST4 := Lib.hid st4
  clear E12 L12 ad4 st4 C12 ST3 L11 L13
  have R14 : Rd i64v (w13.alloc (.cells #[.int .i64 0, .int .i64 10] 3)) (.slice (some ⟨w13.heap.size, 0, none⟩) 2 2) [0, 10] := rd_lit (f := i64v) w13 3 (0, 0) [0, 10] _ 2 rfl (by decide) (by decide)
  have C14 := Lib.hid (((H13.out).alloc (.cells #[.int .i64 0, .int .i64 10] 3)).crash (d' := d4.crash [0, 10]) _ [0, 10] R14 (fun _ g hg => .inl (.inr (by cases hg; rfl))) rfl)
  obtain ⟨cf, h31⟩ := Sx.crash (e1 := evA 1) (e2 := evA 2) (e3 := evA 3) (by simpa using ST4.out) (frmA (n := 3) (.inr (.inr rfl)))
  obtain ⟨d5, hd5⟩ : ∃ x, d4.crash [0, 10] = x := ⟨_, rfl⟩
  rw [hd5] at C14 cf
  have hc5 : Calm d5 := by rw [← hd5]; exact crash_calm ST4.out.inv.calm.names _
  have hm5 : d5.most = 1000 := by rw [← hd5]; exact ST4.out.most
  have CF := Lib.hid (And.intro cf (And.intro h31 (And.intro hc5 hm5)))
  clear R14 cf h31 hd5 hc5 hm5
  go_wp2_with fail
  refine C14.out.mono ?_
  rintro e w15 ⟨rfl, H15, -⟩
  have H15 := Lib.hid H15
  clear C14 H13 ST4
  have hx : ¬ segName 0 = [120] := by rw [seg0_eq]; decide
  have hy : ¬ manifestS = [120] := by decide
  have hap : d5.append [120] [] = ({ d5 with files := xF (evA 1) (evA 2) (evA 3) }, 0) := by
    have hu := man_len
    have h41 : (segB 0 [[evA 1], [evA 2]] ++ (frmB [evA 3]).take 10).length ≤ 41 := by rw [List.length_append, CF.out.2.1, List.length_take]; omega
    rw [append_calm CF.out.2.2.1 (by decide) (by
      rw [CF.out.2.2.2, CF.out.1]
      simp only [usedF, f2, manF, List.map_cons, List.map_nil, List.sum_cons, List.sum_nil, List.length_nil]
      omega) (.inr (by rw [CF.out.1]; simp [f2]))]
    rw [CF.out.1]
    simp [f2, xF, setF, fileOf, getF, hx, hy]
  obtain ⟨d6, hd6⟩ : ∃ x : Dsk, ({ d5 with files := xF (evA 1) (evA 2) (evA 3) } : Dsk) = x := ⟨_, rfl⟩
  rw [hd6] at hap
  have hf6 : d6.files = xF (evA 1) (evA 2) (evA 3) := by rw [← hd6]
  have hc6 : Calm d6 := by
    rw [← hd6]
    exact CF.out.2.2.1.same _ (by simp [xF, f2, namesF, seg_man, hx, hy])
  have C16 := Lib.hid (H15.out.append [120] [] (.slice none 0 0) (.inl ⟨none, rfl, rfl⟩) (fun h => absurd rfl h) (by decide) (by decide) hap)
  obtain ⟨sc6, me6⟩ := x_mend (U := fun _ => (0, [], 0)) hc6 hf6 CF.out.2.1 (frmA (n := 3) (.inr (.inr rfl))) (in64_123 (.inl rfl)) (in64_123 (.inr (.inl rfl))) (in64_123 (.inr (.inr rfl)))
  have hr6 : (d6.read manifestS).2 = 0 := by
    have := read_of (d := d6) hc6.up (n := manifestS) (b := manifestB [pc0]) (by rw [hf6]; simp [xF, f2, fileOf, getF, seg_man, manF]) (manifestB_ne _)
    rw [this]
  have DN := Lib.hid (den_pc0 sc6 rfl (fun q hq => by rw [List.mem_singleton] at hq; subst hq; rfl) hr6)
  have hs6 : (fileOf d6.files [115, 48]).bytes.length = 41 := by
    rw [hf6, ← seg0_eq]
    simp only [xF, f2, fileOf, getF, List.cons_append, if_pos, Option.getD_some]
    rw [List.length_append, CF.out.2.1, List.length_take, frmA (n := 3) (.inr (.inr rfl))]
    rfl
  have SC6 := Lib.hid sc6
  have ME6 := Lib.hid me6
  have HS6 := Lib.hid hs6
  have HC6 := Lib.hid hc6
  have H31 := Lib.hid CF.out.2.1
  clear hx hy hap hd6 hf6 hc6 sc6 me6 hr6 hs6 CF
  go_wp2_with fail
  refine C16.out.mono ?_
  rintro e w17 ⟨rfl, H17, -⟩
  have H17 := Lib.hid H17
  clear C16 H15
  go_wp2_with fail
  refine (Scan_ok H17.out DN.out SC6.out).mono ?_
  rintro e w18 ⟨v18, p18, rfl, o1, o2⟩
  obtain ⟨xa, xc, rfl, -⟩ := o1.1.len
  obtain ⟨ya, yc, rfl, -⟩ := o2.1.len
  obtain ⟨Y, hY⟩ : ∃ Y : Nat → Prop, Y = fun k => (Value.slice xa [evA 1, evA 2].length xc).ownBlock = some k := ⟨_, rfl⟩
  have H18 : Hid (HasX Y w w18 b d6) := Lib.hid (H17.out.nwY o1.2.1 fun k hk => by rw [hY] at hk; exact .inr ⟨o1.2.2 k hk, o1.1.lt k hk⟩)
  have HY : Hid (∀ g, (Value.slice xa [evA 1, evA 2].length xc).ownBlock = some g → Y g) := Lib.hid (by rw [hY]; exact fun g h => h)
  have EOK : Hid (∀ e ∈ [evA 1, evA 2], e.Ok) := Lib.hid (fun e he => by simp only [List.mem_cons, List.not_mem_nil, or_false] at he; rcases he with rfl | rfl; exact in64_123 (.inl rfl); exact in64_123 (.inr (.inl rfl)))
  have A18 : Hid (Evs w18 (.slice xa [evA 1, evA 2].length xc) [evA 1, evA 2]) := Lib.hid ⟨o1.1.src, EOK.out⟩
  have S18 := Lib.hid (H18.out.size [115, 48] HS6.out)
  clear o1 o2 H17 hY
  go_wp2_with fail
  refine S18.out.mono ?_
  rintro e w19 ⟨rfl, n19⟩
  have H19 := Lib.hid (H18.out.nw n19)
  have A19 := Lib.hid (A18.out.nw n19)
  have M19 := Lib.hid (Mend_ok H19.out DN.out ME6.out)
  clear n19 H18 A18 S18
  go_wp2_with fail
  refine M19.out.mono ?_
  rintro e w20 ⟨v20, p20, rfl, t20⟩
  obtain ⟨ma, mc, rfl, -⟩ := t20.evs.len
  obtain ⟨na, nc, rfl, -⟩ := t20.pcs.len
  have H20 := Lib.hid t20.disk
  have A20 := Lib.hid (A19.out.kept t20.kept HY.out)
  have B20 : Hid (Evs w20 (.slice ma [evA 1, evA 2].length mc) [evA 1, evA 2]) := Lib.hid ⟨t20.evs.src, EOK.out⟩
  obtain ⟨d7, hd7⟩ : ∃ x : Dsk, ({ d6 with files := f2 ⟨segB 0 [[evA 1], [evA 2]], 31⟩ manF } : Dsk) = x := ⟨_, rfl⟩
  rw [hd7] at H20
  have hs7 : (fileOf d7.files [115, 48]).bytes.length = 31 := by
    rw [← hd7, ← seg0_eq]
    simp only
    rw [f2_file]
    exact H31.out
  have hl7 : d7.list = [manifestS, [115, 48]] := by
    rw [list_eq, ← hd7]
    simp only [namesF, f2, List.map_cons, List.map_nil, seg0_eq]
    decide
  have HS7 := Lib.hid hs7
  have HL7 := Lib.hid hl7
  clear t20 A19 H19 M19 hd7 hs7 hl7 HC6 ME6 SC6 DN HS6 H31
  have n21 := (Nw.refl w20).alloc (.cells ((evV (evA 1) ++ evV (evA 2))).toArray 104 (0, 0))
  have W21 := Lib.hid (ev_lit2 w20 (evA 1) (evA 2) (in64_123 (.inl rfl)) (in64_123 (.inr (.inl rfl))))
  have A21 := Lib.hid (A20.out.nw n21)
  have B21 := Lib.hid (B20.out.nw n21)
  have H21 := Lib.hid (H20.out.nw n21)
  have SE21 := SameEvents_ok A21.out W21.out
  clear n21 A20 B20 H20
  go_wp2_with fail
  refine SE21.mono ?_
  rintro e w22 ⟨rfl, n22⟩
  have W22 := Lib.hid (W21.out.nw n22)
  have B22 := Lib.hid (B21.out.nw n22)
  have H22 := Lib.hid (H21.out.nw n22)
  clear n22 W21 B21 H21 SE21 A21
  go_wp2_with fail
  refine (SameEvents_ok B22.out W22.out).mono ?_
  rintro e w23 ⟨rfl, n23⟩
  have H23 := Lib.hid (H22.out.nw n23)
  clear n23 W22 B22 H22
  go_wp2_with fail
  refine (H23.out.size [115, 48] HS7.out).mono ?_
  rintro e w24 ⟨rfl, n24⟩
  have H24 := Lib.hid (H23.out.nw n24)
  clear n24 H23
  go_wp2_with fail
  refine (H24.out.list HL7.out).mono ?_
  rintro e w25 ⟨v25, rfl, s25, n25, -⟩
  obtain ⟨la, lc, rfl, -⟩ := s25.len
  have H25 := Lib.hid (H24.out.nw n25)
  have n26 := (Nw.refl w25).alloc (.cells #[.string ⟨#[109, 97, 110, 105, 102, 101, 115, 116]⟩, .string ⟨#[115, 48]⟩] 9 (0, 0))
  have s26 : Ss (w25.alloc (.cells #[.string ⟨#[109, 97, 110, 105, 102, 101, 115, 116]⟩, .string ⟨#[115, 48]⟩] 9 (0, 0))) (.slice (some ⟨w25.heap.size, 0, none⟩) 2 2) [manifestS, [115, 48]] := rd_lit (f := encStr) w25 9 (0, 0) [manifestS, [115, 48]] _ 2 rfl (by decide) (by decide)
  have ST26 := Lib.hid (SameTexts_ok (s25.nw n26) s26)
  have N26 := Lib.hid n26
  clear n25 n26 s25 s26 H24
  go_wp2_with fail
  refine ST26.out.mono ?_
  rintro e w27 ⟨rfl, n27⟩
  have H27 := Lib.hid (H25.out.nw (N26.out.trans n27))
  have hsame : ((([manifestS, [115, 48]] : List Str) == [manifestS, [115, 48]]) : Bool) = true := by decide
  rw [hsame]
  clear n27 H25 N26 ST26 hsame
  have N27 := Lib.hid H27.out.base
  clear H27
  obtain ⟨d8, ap8, sc8, li8⟩ := bad_scan (U := fun _ => (0, [], 0))
  go_wp2_with fail
  refine (HasX.new 100 w27 (by omega) (by omega)).mono ?_
  rintro e w28 ⟨b2, rfl, H28⟩
  have H28 := Lib.hid H28
  have R29 : Bs (w28.alloc (.cells #[.int .u8 119, .int .u8 104, .int .u8 97, .int .u8 116] 5 (4, 5))) (.slice (some ⟨w28.heap.size, 0, none⟩) 4 4) [119, 104, 97, 116] := rd_lit (f := u8) w28 5 (4, 5) [119, 104, 97, 116] _ 4 rfl (by decide) (by decide)
  have C29 := Lib.hid ((H28.out.alloc (.cells #[.int .u8 119, .int .u8 104, .int .u8 97, .int .u8 116] 5 (4, 5))).append manifestS [119, 104, 97, 116] _ R29 (fun _ g hg => .inl (.inr (by cases hg; rfl))) (by decide) (by decide) ap8)
  have SC8 := Lib.hid sc8
  have DN8 : Hid (DenFor (fun _ => (0, [], 0)) d8) := Lib.hid (.inr (fun q hq => by rw [li8] at hq; cases hq))
  have kc := fun (w : World) (C : Array Value) (n c : Nat) => Go.Lib.run_convert_bytes_const (P := Tryz.prog) w 23 5 C n c Tryz.underlying23 Tryz.underlying5
  clear R29 ap8 sc8 li8
  go_wp2_with fail
  refine C29.out.mono ?_
  rintro e w30 ⟨rfl, H30, -⟩
  have H30 := Lib.hid H30
  clear C29 H28
  go_wp2_with fail
  refine (Scan_ok H30.out DN8.out SC8.out).mono ?_
  rintro e w31 ⟨v31, p31, rfl, o1, o2⟩
  have N31 := Lib.hid (N27.out.trans (H30.out.base.trans o1.2.1))
  clear o1 o2 H30
  go_wp2
  go_ret
  exact ⟨rfl, N31.out⟩
end Go.Proofs.YtkhcdbafcigeoaaGreatDoor

namespace Go.Proofs.YtkhcdbafcigeoaaGreatDoor
open Go Go.RowKit Go.Sort
set_option maxRecDepth 100000
set_option maxHeartbeats 1600000
theorem scanD_bad {U : List UInt8 → Int × List Ev × Int} {d : Dsk} (h : (scanD U d).e = 14) : scanD U d = ⟨[], [], 0, 14⟩ := by
  unfold scanD at h ⊢
  split
  · rename_i h1; rw [if_pos h1] at h; cases h
  · rename_i h1; rw [if_neg h1] at h
    split
    · rename_i h2; rw [if_pos h2] at h; simp only at h; rw [h]
    · rename_i h2; rw [if_neg h2] at h
      split
      · rfl
      · rename_i h3; rw [if_neg h3] at h
        split
        · rename_i h4; rw [if_pos h4] at h; simp only at h; rw [h]
        · rename_i h4; rw [if_neg h4] at h; cases h
theorem noLog_ok {w : World} {v : Value} {l : List (Str × List UInt8)} (ht : Tab w) (hv : FilesAt w v l) (h1 : l.length ≤ 1000) (h2 : ∀ x ∈ l, x.1.length ≤ 100) (h3 : ∀ x ∈ l, x.2.length ≤ 1000000)
    (hs : (scanD unpackB (madeD l)).e = 14) (hl : (madeD l).list.length = l.length) :
    Calls Tryz.prog 28 #[v] w fun e w' => e = .returned (.bool true) ∧ Nw w w' := by
  have hsc := scanD_bad hs
  have hme : mendD unpackB (madeD l) = ⟨madeD l, [], [], 14⟩ := by unfold mendD mendWith; rw [hsc]; simp
  have hop : openD unpackB (madeD l) 64 = ⟨madeD l, newLg 64, [], 14⟩ := by unfold openD; rw [hme]; simp
  obtain ⟨D, hD⟩ : ∃ x, madeD l = x := ⟨_, rfl⟩
  have HM := Lib.hid (made_ok hv h1 h2 h3)
  rw [hD] at hsc hme hop hl HM
  obtain ⟨n, hn⟩ : ∃ x, l.length = x := ⟨_, rfl⟩
  rw [hn] at hl
  obtain ⟨va, vc, rfl, -⟩ := hv
  rw [hn] at HM ⊢
  have HS := Lib.hid hsc
  have HE := Lib.hid hme
  have HO := Lib.hid hop
  have HL := Lib.hid hl
  have HT := Lib.hid ht
  clear hsc hme hop hl hs ht hD hn h1 h2 h3
  go_enter Tryz.func28, Tryz.ntmps28
  go_wp2_with fail
  refine HM.out.mono ?_
  rintro e w1 ⟨b, m, a, nn, c, la, dn, rfl, t1⟩
  have H1 := Lib.hid (t1.has.nw ((Nw.refl w1).alloc (DB (.int .i64 m) (.slice a nn c) (.int .i64 la) (.bool dn))))
  clear t1 HM
  go_upto_region 2 with fail
  rw [show (Obj.cells #[.int .i64 m, .slice a nn c, .int .i64 la, .bool dn] 43) = DB (.int .i64 m) (.slice a nn c) (.int .i64 la) (.bool dn) from rfl]
  generalize w1.alloc (DB (.int .i64 m) (.slice a nn c) (.int .i64 la) (.bool dn)) = w2 at H1 ⊢
  go_wp2_with fail
  refine (Scan_ok H1.out (.inl den_unpack) HS.out).mono ?_
  rintro z w3 ⟨v3, p3, rfl, o1, o2⟩
  obtain ⟨a3, c3, rfl, -⟩ := o1.1.len
  obtain ⟨a4, c4, rfl, -⟩ := o2.1.len
  have H3 := Lib.hid (H1.out.nw o1.2.1)
  clear o1 o2 H1
  go_wp2_with fail
  refine (Mend_ok H3.out (.inl den_unpack) HE.out).mono ?_
  rintro z w4 ⟨v5, p5, rfl, mt⟩
  obtain ⟨a5, c5, rfl, -⟩ := mt.evs.len
  obtain ⟨a6, c6, rfl, -⟩ := mt.pcs.len
  have H4 := Lib.hid (mt.disk.weak (Y := fun _ => False) (fun k hk => hk.elim))
  clear mt H3
  go_wp2_with fail
  have OP := Open_ok H4.out HT.out (.inl den_unpack) 64
  rw [HO.out] at OP
  refine OP.mono ?_
  rintro z w5 ⟨-, ⟨h0, -⟩ | ⟨-, rfl, h5⟩⟩
  · exact absurd (show (14 : Int) = 0 from h0) (by decide)
  have H5 := Lib.hid h5
  clear OP h5 H4
  have LI := Lib.hid (H5.out.list (l := D.list) rfl)
  go_wp2_with fail
  refine LI.out.mono ?_
  rintro z w6 ⟨v6, rfl, s6, n6, -⟩
  obtain ⟨a6, c6, rfl, -⟩ := s6.len
  rw [HL.out]
  have N6 := Lib.hid (H5.out.base.trans n6)
  clear s6 n6 LI
  have q : ((n : Int) == (n : Int)) = true := by simp
  go_wp2
  go_ret
  exact ⟨rfl, N6.out⟩
end Go.Proofs.YtkhcdbafcigeoaaGreatDoor
