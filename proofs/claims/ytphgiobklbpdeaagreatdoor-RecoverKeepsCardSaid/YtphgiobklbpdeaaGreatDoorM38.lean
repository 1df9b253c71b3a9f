/-
  Texts merged by a program of this claim's: Aw6, EvCut, Law6A.
-/
import Derived.Test.YtphgiobklbpdeaaGreatDoorM36
import Derived.Test.YtphgiobklbpdeaaGreatDoorM29
import Derived.Test.YtphgiobklbpdeaaGreatDoorM37
import Derived.Lib.SlBytesConst
import Derived.Test.YtphgiobklbpdeaaGreatDoorM16
/-
  The chapter's examples on recovery, as every statement of chapter 06 asks them.
-/
namespace Go.Proofs.YtphgiobklbpdeaaGreatDoor
open Go Go.RowKit Go.Sort
set_option maxRecDepth 100000
set_option maxHeartbeats 1600000
section
variable {X : Nat → Prop} {w0 w w' : World} {p b : Nat} {d d' : Dsk} {L : Lg} {fs : List (List Ev)} {m : Nat}
theorem Sx.call (h : HasL X w0 w p b d L) (hs : Sx d L fs m) (hk : fs.length ≤ 5) (ht : Tab w0) {v : Value} {es : List Ev} (hv : Evs w v es) :
    Calls Tryz.prog 54 #[.pointer (some ⟨p, 0, none⟩), v] w (DidL X w0 w p b (L.add d es).d (L.add d es).L (.int .i64 (L.add d es).e)) := by
  have hl : L.l = [pc0] := hs.inv.l
  refine LAppend_ok h ht ⟨by rw [hs.n]; omega, by rw [hs.bytes]; omega⟩ (by rw [hl]; decide) (by rw [hl]; decide) (by rw [hs.size]; unfold in64; omega) hv h.pok
/-- No piece of the denser coding. -/
theorem den_pc0 {U : List UInt8 → Int × List Ev × Int} {s : ScanR} (hs : scanD U d = s) (h0 : s.e = 0) (hp : ∀ q ∈ s.ps, q.dense = false) (hm : (d.read manifestS).2 = 0) : DenFor U d := by
  refine .inr ?_
  subst hs
  unfold scanD at h0 hp
  rw [if_neg (by rw [hm]; decide), if_neg (by rw [hm]; simp)] at h0 hp
  split at h0
  · simp at h0
  · rename_i h1
    rw [if_neg h1] at hp
    split at h0
    · rename_i h2; exact absurd h0 h2
    · rename_i h2
      rw [if_neg h2] at hp
      exact hp
end
theorem ev_lit2 (w : World) (e f : Ev) (he : e.Ok) (hf : f.Ok) : Evs (w.alloc (.cells ((evV e ++ evV f)).toArray 80 (0, 0))) (.slice (some ⟨w.heap.size, 0, none⟩) 2 2) [e, f] :=
  ⟨by have := src_lit w 80 (0, 0) 5 2 2 (evV e ++ evV f) rfl (by omega) (by decide); simpa using this, fun x hx => by simp only [List.mem_cons, List.not_mem_nil, or_false] at hx; rcases hx with rfl | rfl; exact he; exact hf⟩
theorem Evs.kept {Y : Nat → Prop} {w w' : World} {v : Value} {l : List Ev} (h : Evs w v l) (hk : Kept Y w w') (hy : ∀ g, v.ownBlock = some g → Y g) : Evs w' v l := by
  refine ⟨?_, h.ok⟩
  obtain ⟨e, ⟨a, hv, hn⟩ | ⟨g, o, cap, hv, h1, h2, h3, h4⟩⟩ := h.src
  · exact ⟨e, .inl ⟨a, hv, hn⟩⟩
  · subst hv
    exact ⟨e, .inr ⟨g, o, cap, rfl, h1, h2, Nat.lt_of_lt_of_le h3 hk.1, fun j hj => hk.cell (h4 j hj) (hy g rfl)⟩⟩
theorem in64_123 {n : Int} (h : n = 1 ∨ n = 2 ∨ n = 3) : (evA n).Ok := evA_ok (by unfold in64; omega)
theorem awake6_ok (w : World) (ht : Tab w) : Calls Tryz.prog 36 #[] w fun e w' => e = .returned (.bool true) ∧ Nw w w' := by
  have HT := Lib.hid ht
  clear ht
  obtain ⟨d0, cr0, st0⟩ := Sx.new
  have HOP : Hid (openD (fun _ => (0, [], 0)) (newDsk 1000) 64 = ⟨d0, newLg 64, [], 0⟩) := Lib.hid (open_new (by omega) (by omega) cr0)
  have ST0 := Lib.hid st0
  clear cr0 st0
  go_enter Tryz.func36, Tryz.ntmps36
  go_wp2_with fail
  refine (HasX.new 1000 w (by omega) (by omega)).mono ?_
  rintro e w1 ⟨b, rfl, H1⟩
  have H1 := Lib.hid H1
  go_wp2_with fail
  refine (Scan_ok H1.out (den_new 1000) (scan_new 1000)).mono ?_
  rintro e w2 ⟨v2, p2, rfl, o1, o2⟩
  obtain ⟨va, vc, rfl, -⟩ := o1.1.len
  obtain ⟨pa, pc, rfl, -⟩ := o2.1.len
  have H2 := Lib.hid (H1.out.nw o1.2.1)
  simp only [List.length_nil]
  have C := Open_ok H2.out HT.out (den_new 1000) 64
  rw [HOP.out] at C
  have C := Lib.hid C
  clear o1 o2 H1 HOP
  go_wp2_with fail
  refine C.out.mono ?_
  rintro e w3 ⟨k3, ⟨-, p, v3, rfl, hl3, V3, -⟩ | ⟨hx, -⟩⟩
  case inr => exact absurd rfl hx
  obtain ⟨ea, ec, rfl, -⟩ := V3.len
  have L3 := Lib.hid (hl3.less (Y := fun _ => False) fun k hk => hk.elim)
  clear C H2 k3 V3 hl3
  go_wp2_with fail
  have E6 := ev_lit w3 (evA 1) (in64_123 (.inl rfl)) 1 (by omega) (by decide)
  have L6 := Lib.hid (L3.out.nw ((Nw.refl w3).alloc (.cells (evV (evA 1)).toArray 80 (0, 0))))
  obtain ⟨d1, K1, ad1, st1⟩ := ST0.out.add (by simp) (by simp) (frmA (n := 1) (.inl rfl))
  have C6 := Sx.call L6.out ST0.out (by simp) HT.out E6
  rw [ad1] at C6
  refine C6.mono ?_
  rintro e w7 ⟨rfl, L7, -⟩
  have L7 := Lib.hid L7
  have ST1 := Lib.hid st1
  clear E6 L6 ad1 st1 C6 ST0 L3
  go_wp2_with fail
  have E8 := ev_lit w7 (evA 2) (in64_123 (.inr (.inl rfl))) 1 (by omega) (by decide)
  have L8 := Lib.hid (L7.out.nw ((Nw.refl w7).alloc (.cells (evV (evA 2)).toArray 80 (0, 0))))
  obtain ⟨d2, K2, ad2, st2⟩ := ST1.out.add (by simp) (by simp) (frmA (n := 2) (.inr (.inl rfl)))
  have C8 := Sx.call L8.out ST1.out (by simp) HT.out E8
  rw [ad2] at C8
  refine C8.mono ?_
  rintro e w9 ⟨rfl, L9, -⟩
  have L9 := Lib.hid L9
  have ST2 := Lib.hid st2
  clear E8 L8 ad2 st2 C8 ST1 L7
  obtain ⟨d3, K3, sy3, st3⟩ := ST2.out.sync
  have C10 := LSync_ok L9.out
  rw [sy3] at C10
  have C10 := Lib.hid C10
  have ST3 := Lib.hid st3
  clear sy3 st3
  go_wp2_with fail
  refine C10.out.mono ?_
  rintro e w11 ⟨rfl, L11, -⟩
  have L11 := Lib.hid L11
  clear C10 L9 ST2
  go_wp2_with fail
  have E12 := ev_lit w11 (evA 3) (in64_123 (.inr (.inr rfl))) 1 (by omega) (by decide)
  have L12 := Lib.hid (L11.out.nw ((Nw.refl w11).alloc (.cells (evV (evA 3)).toArray 80 (0, 0))))
  obtain ⟨d4, K4, ad4, st4⟩ := ST3.out.add (by simp) (by simp) (frmA (n := 3) (.inr (.inr rfl)))
  have C12 := Sx.call L12.out ST3.out (by simp) HT.out E12
  rw [ad4] at C12
  refine C12.mono ?_
  rintro e w13 ⟨rfl, L13, -⟩
  have H13 := Lib.hid L13.has
  have ST4 := Lib.hid st4
  clear E12 L12 ad4 st4 C12 ST3 L11 L13
  -- the crash
  have R14 : Rd i64v (w13.alloc (.cells #[.int .i64 0, .int .i64 10] 3)) (.slice (some ⟨w13.heap.size, 0, none⟩) 2 2) [0, 10] := rd_lit (f := i64v) w13 3 (0, 0) [0, 10] _ 2 rfl (by decide) (by decide)
  have C14 := Lib.hid (((H13.out).alloc (.cells #[.int .i64 0, .int .i64 10] 3)).crash (d' := d4.crash [0, 10]) _ [0, 10] R14 (fun _ g hg => .inl (.inr (by cases hg; rfl))) rfl)
  obtain ⟨cf, h31⟩ := Sx.crash (e1 := evA 1) (e2 := evA 2) (e3 := evA 3) (by simpa using ST4.out) (frmA (n := 3) (.inr (.inr rfl)))
  obtain ⟨d5, hd5⟩ : ∃ x, d4.crash [0, 10] = x := ⟨_, rfl⟩
  rw [hd5] at C14 cf
  have hc5 : Calm d5 := by rw [← hd5]; exact crash_calm ST4.out.inv.calm.names _
  have hm5 : d5.most = 1000 := by rw [← hd5]; exact ST4.out.most
  have CF := Lib.hid (And.intro cf (And.intro h31 (And.intro hc5 hm5)))
  clear R14 cf h31 hd5 hc5 hm5
  go_wp2_with fail
  refine C14.out.mono ?_
  rintro e w15 ⟨rfl, H15, -⟩
  have H15 := Lib.hid H15
  clear C14 H13 ST4
  -- the stray file
  have hx : ¬ segName 0 = [120] := by rw [seg0_eq]; decide
  have hy : ¬ manifestS = [120] := by decide
  have hap : d5.append [120] [] = ({ d5 with files := xF (evA 1) (evA 2) (evA 3) }, 0) := by
    have hu := man_len
    have h41 : (segB 0 [[evA 1], [evA 2]] ++ (frmB [evA 3]).take 10).length ≤ 41 := by rw [List.length_append, CF.out.2.1, List.length_take]; omega
    rw [append_calm CF.out.2.2.1 (by decide) (by
      rw [CF.out.2.2.2, CF.out.1]
      simp only [usedF, f2, manF, List.map_cons, List.map_nil, List.sum_cons, List.sum_nil, List.length_nil]
      omega) (.inr (by rw [CF.out.1]; simp [f2]))]
    rw [CF.out.1]
    simp [f2, xF, setF, fileOf, getF, hx, hy]
  obtain ⟨d6, hd6⟩ : ∃ x : Dsk, ({ d5 with files := xF (evA 1) (evA 2) (evA 3) } : Dsk) = x := ⟨_, rfl⟩
  rw [hd6] at hap
  have hf6 : d6.files = xF (evA 1) (evA 2) (evA 3) := by rw [← hd6]
  have hc6 : Calm d6 := by
    rw [← hd6]
    exact CF.out.2.2.1.same _ (by simp [xF, f2, namesF, seg_man, hx, hy])
  have C16 := Lib.hid (H15.out.append [120] [] (.slice none 0 0) (.inl ⟨none, rfl, rfl⟩) (fun h => absurd rfl h) (by decide) (by decide) hap)
  obtain ⟨sc6, me6⟩ := x_mend (U := fun _ => (0, [], 0)) hc6 hf6 CF.out.2.1 (frmA (n := 3) (.inr (.inr rfl))) (in64_123 (.inl rfl)) (in64_123 (.inr (.inl rfl))) (in64_123 (.inr (.inr rfl)))
  have hr6 : (d6.read manifestS).2 = 0 := by
    have := read_of (d := d6) hc6.up (n := manifestS) (b := manifestB [pc0]) (by rw [hf6]; simp [xF, f2, fileOf, getF, seg_man, manF]) (manifestB_ne _)
    rw [this]
  have DN := Lib.hid (den_pc0 sc6 rfl (fun q hq => by rw [List.mem_singleton] at hq; subst hq; rfl) hr6)
  have hs6 : (fileOf d6.files [115, 48]).bytes.length = 41 := by
    rw [hf6, ← seg0_eq]
    simp only [xF, f2, fileOf, getF, List.cons_append, if_pos, Option.getD_some]
    rw [List.length_append, CF.out.2.1, List.length_take, frmA (n := 3) (.inr (.inr rfl))]
    rfl
  have SC6 := Lib.hid sc6
  have ME6 := Lib.hid me6
  have HS6 := Lib.hid hs6
  have HC6 := Lib.hid hc6
  have H31 := Lib.hid CF.out.2.1
  clear hx hy hap hd6 hf6 hc6 sc6 me6 hr6 hs6 CF
  go_wp2_with fail
  refine C16.out.mono ?_
  rintro e w17 ⟨rfl, H17, -⟩
  have H17 := Lib.hid H17
  clear C16 H15
  go_wp2_with fail
  refine (Scan_ok H17.out DN.out SC6.out).mono ?_
  rintro e w18 ⟨v18, p18, rfl, o1, o2⟩
  obtain ⟨xa, xc, rfl, -⟩ := o1.1.len
  obtain ⟨ya, yc, rfl, -⟩ := o2.1.len
  obtain ⟨Y, hY⟩ : ∃ Y : Nat → Prop, Y = fun k => (Value.slice xa [evA 1, evA 2].length xc).ownBlock = some k := ⟨_, rfl⟩
  have H18 : Hid (HasX Y w w18 b d6) := Lib.hid (H17.out.nwY o1.2.1 fun k hk => by rw [hY] at hk; exact .inr ⟨o1.2.2 k hk, o1.1.lt k hk⟩)
  have HY : Hid (∀ g, (Value.slice xa [evA 1, evA 2].length xc).ownBlock = some g → Y g) := Lib.hid (by rw [hY]; exact fun g h => h)
  have EOK : Hid (∀ e ∈ [evA 1, evA 2], e.Ok) := Lib.hid (fun e he => by simp only [List.mem_cons, List.not_mem_nil, or_false] at he; rcases he with rfl | rfl; exact in64_123 (.inl rfl); exact in64_123 (.inr (.inl rfl)))
  have A18 : Hid (Evs w18 (.slice xa [evA 1, evA 2].length xc) [evA 1, evA 2]) := Lib.hid ⟨o1.1.src, EOK.out⟩
  have S18 := Lib.hid (H18.out.size [115, 48] HS6.out)
  clear o1 o2 H17 hY
  go_wp2_with fail
  refine S18.out.mono ?_
  rintro e w19 ⟨rfl, n19⟩
  have H19 := Lib.hid (H18.out.nw n19)
  have A19 := Lib.hid (A18.out.nw n19)
  have M19 := Lib.hid (Mend_ok H19.out DN.out ME6.out)
  clear n19 H18 A18 S18
  go_wp2_with fail
  refine M19.out.mono ?_
  rintro e w20 ⟨v20, p20, rfl, t20⟩
  obtain ⟨ma, mc, rfl, -⟩ := t20.evs.len
  obtain ⟨na, nc, rfl, -⟩ := t20.pcs.len
  have H20 := Lib.hid t20.disk
  have A20 := Lib.hid (A19.out.kept t20.kept HY.out)
  have B20 : Hid (Evs w20 (.slice ma [evA 1, evA 2].length mc) [evA 1, evA 2]) := Lib.hid ⟨t20.evs.src, EOK.out⟩
  obtain ⟨d7, hd7⟩ : ∃ x : Dsk, ({ d6 with files := f2 ⟨segB 0 [[evA 1], [evA 2]], 31⟩ manF } : Dsk) = x := ⟨_, rfl⟩
  rw [hd7] at H20
  have hs7 : (fileOf d7.files [115, 48]).bytes.length = 31 := by
    rw [← hd7, ← seg0_eq]
    simp only
    rw [f2_file]
    exact H31.out
  have hl7 : d7.list = [manifestS, [115, 48]] := by
    rw [list_eq, ← hd7]
    simp only [namesF, f2, List.map_cons, List.map_nil, seg0_eq]
    decide
  have HS7 := Lib.hid hs7
  have HL7 := Lib.hid hl7
  clear t20 A19 H19 M19 hd7 hs7 hl7 HC6 ME6 SC6 DN HS6 H31
  have n21 := (Nw.refl w20).alloc (.cells ((evV (evA 1) ++ evV (evA 2))).toArray 80 (0, 0))
  have W21 := Lib.hid (ev_lit2 w20 (evA 1) (evA 2) (in64_123 (.inl rfl)) (in64_123 (.inr (.inl rfl))))
  have A21 := Lib.hid (A20.out.nw n21)
  have B21 := Lib.hid (B20.out.nw n21)
  have H21 := Lib.hid (H20.out.nw n21)
  have SE21 := SameEvents_ok A21.out W21.out
  clear n21 A20 B20 H20
  go_wp2_with fail
  refine SE21.mono ?_
  rintro e w22 ⟨rfl, n22⟩
  have W22 := Lib.hid (W21.out.nw n22)
  have B22 := Lib.hid (B21.out.nw n22)
  have H22 := Lib.hid (H21.out.nw n22)
  clear n22 W21 B21 H21 SE21 A21
  go_wp2_with fail
  refine (SameEvents_ok B22.out W22.out).mono ?_
  rintro e w23 ⟨rfl, n23⟩
  have H23 := Lib.hid (H22.out.nw n23)
  clear n23 W22 B22 H22
  go_wp2_with fail
  refine (H23.out.size [115, 48] HS7.out).mono ?_
  rintro e w24 ⟨rfl, n24⟩
  have H24 := Lib.hid (H23.out.nw n24)
  clear n24 H23
  go_wp2_with fail
  refine (H24.out.list HL7.out).mono ?_
  rintro e w25 ⟨v25, rfl, s25, n25, -⟩
  obtain ⟨la, lc, rfl, -⟩ := s25.len
  have H25 := Lib.hid (H24.out.nw n25)
  have n26 := (Nw.refl w25).alloc (.cells #[.string ⟨#[109, 97, 110, 105, 102, 101, 115, 116]⟩, .string ⟨#[115, 48]⟩] 9 (0, 0))
  have s26 : Ss (w25.alloc (.cells #[.string ⟨#[109, 97, 110, 105, 102, 101, 115, 116]⟩, .string ⟨#[115, 48]⟩] 9 (0, 0))) (.slice (some ⟨w25.heap.size, 0, none⟩) 2 2) [manifestS, [115, 48]] := rd_lit (f := encStr) w25 9 (0, 0) [manifestS, [115, 48]] _ 2 rfl (by decide) (by decide)
  have ST26 := Lib.hid (SameTexts_ok (s25.nw n26) s26)
  have N26 := Lib.hid n26
  clear n25 n26 s25 s26 H24
  go_wp2_with fail
  refine ST26.out.mono ?_
  rintro e w27 ⟨rfl, n27⟩
  have H27 := Lib.hid (H25.out.nw (N26.out.trans n27))
  have hsame : ((([manifestS, [115, 48]] : List Str) == [manifestS, [115, 48]]) : Bool) = true := by decide
  rw [hsame]
  clear n27 H25 N26 ST26 hsame
  -- a disk that has no log
  have N27 := Lib.hid H27.out.base
  clear H27
  obtain ⟨d8, ap8, sc8, li8⟩ := bad_scan (U := fun _ => (0, [], 0))
  go_wp2_with fail
  refine (HasX.new 100 w27 (by omega) (by omega)).mono ?_
  rintro e w28 ⟨b2, rfl, H28⟩
  have H28 := Lib.hid H28
  have R29 : Bs (w28.alloc (.cells #[.int .u8 119, .int .u8 104, .int .u8 97, .int .u8 116] 5 (4, 5))) (.slice (some ⟨w28.heap.size, 0, none⟩) 4 4) [119, 104, 97, 116] := rd_lit (f := u8) w28 5 (4, 5) [119, 104, 97, 116] _ 4 rfl (by decide) (by decide)
  have C29 := Lib.hid ((H28.out.alloc (.cells #[.int .u8 119, .int .u8 104, .int .u8 97, .int .u8 116] 5 (4, 5))).append manifestS [119, 104, 97, 116] _ R29 (fun _ g hg => .inl (.inr (by cases hg; rfl))) (by decide) (by decide) ap8)
  have SC8 := Lib.hid sc8
  have DN8 : Hid (DenFor (fun _ => (0, [], 0)) d8) := Lib.hid (.inr (fun q hq => by rw [li8] at hq; cases hq))
  have kc := fun (w : World) (C : Array Value) (n c : Nat) => Go.Lib.run_convert_bytes_const (P := Tryz.prog) w 23 5 C n c Tryz.underlying23 Tryz.underlying5
  clear R29 ap8 sc8 li8
  go_wp2_with fail
  refine C29.out.mono ?_
  rintro e w30 ⟨rfl, H30, -⟩
  have H30 := Lib.hid H30
  clear C29 H28
  go_wp2_with fail
  refine (Scan_ok H30.out DN8.out SC8.out).mono ?_
  rintro e w31 ⟨v31, p31, rfl, o1, o2⟩
  have N31 := Lib.hid (N27.out.trans (H30.out.base.trans o1.2.1))
  clear o1 o2 H30
  go_wp2
  go_ret
  exact ⟨rfl, N31.out⟩
end Go.Proofs.YtphgiobklbpdeaaGreatDoor

/-
  A beginning of a slice of events.
-/
namespace Go.Proofs.YtphgiobklbpdeaaGreatDoor
open Go Go.RowKit Go.Sort
set_option maxRecDepth 100000
theorem sizeEv (W : World) : (sizeOf (Tryz.prog.elem 38)).run Tryz.prog W = .ok 5 W := by kernel_rfl
theorem elemEv : Tryz.prog.underlying 38 = some (.slice (Tryz.prog.elem 38)) := by kernel_rfl
theorem flatMap_take5 : ∀ (l : List Ev) (j : Nat), (l.take j).flatMap evV = (l.flatMap evV).take (j * 5)
  | [], j => by simp
  | e :: l, 0 => by simp
  | e :: l, j + 1 => by
    rw [List.take_succ_cons, List.flatMap_cons, List.flatMap_cons, flatMap_take5 l j, List.take_append]
    have h5 : (evV e).length = 5 := rfl
    rw [List.take_of_length_le (show (evV e).length ≤ (j + 1) * 5 by rw [h5]; omega), h5, show (j + 1) * 5 - 5 = j * 5 by omega]
/-- l[:j] -/
theorem evs_h {w : World} {a : Option Addr} {n cap : Nat} {l : List Ev} (h : SrcV 5 w (.slice a n cap) n (l.flatMap evV)) (hn : l.length = n) (hok : ∀ e ∈ l, e.Ok) (j : Nat) (hj : j ≤ n) : ∃ a' c',
    (∀ W, (Instr.slice 38 (.slice a n cap) none (some (.int .i64 j)) none).run Tryz.prog W = .ok (.slice a' j c') W) ∧ Evs w (.slice a' j c') (l.take j) := by
  obtain ⟨hlen, ⟨a0, hv, h0⟩ | ⟨g, o, c, hv, h1, h2, h3, h4⟩⟩ := h
  · injection hv with e1 e2 e3
    subst e1 e2 e3
    obtain rfl : j = 0 := by omega
    refine ⟨a, 0, fun W => ?_, ⟨⟨by simp, .inl ⟨a, by simp, by simp⟩⟩, fun e he => hok e (List.mem_of_mem_take he)⟩⟩
    rw [run_slice_h W 38 a 0 0 elemEv .i64 ((0 : Nat) : Int) (by omega) (by omega), sizeEv]
    simp [Result.andThen, sliced]
  · injection hv with e1 e2 e3
    subst e1 e3
    have hs : ∀ W, (Instr.slice 38 (.slice (some ⟨g, o, none⟩) n cap) none (some (.int .i64 j)) none).run Tryz.prog W = .ok (sliced (some ⟨g, o, none⟩) 0 j cap 5) W := fun W => by
      rw [run_slice_h W 38 (some ⟨g, o, none⟩) n cap elemEv .i64 j (by omega) (by omega), sizeEv]
      simp only [Result.andThen, Int.toNat_natCast]
    by_cases hc : cap = 0
    · subst hc
      obtain rfl : j = 0 := by omega
      refine ⟨some ⟨g, o, none⟩, 0, fun W => by rw [hs]; simp [sliced], ⟨⟨by simp, .inl ⟨some ⟨g, o, none⟩, by simp, by simp⟩⟩, fun e he => hok e (List.mem_of_mem_take he)⟩⟩
    · have hl : (l.take j).length = j := by simp; omega
      refine ⟨some ⟨g, o, none⟩, cap, fun W => by rw [hs]; simp [sliced, hc, addr_add], ⟨⟨by rw [hl, flatMap_take5, List.length_take, hlen]; omega, .inr ⟨g, o, cap, by rw [hl], by omega, h2, h3, fun i hi => ?_⟩⟩, fun e he => hok e (List.mem_of_mem_take he)⟩⟩
      rw [flatMap_take5] at hi
      have hi2 : i < (l.flatMap evV).length := by rw [List.length_take] at hi; omega
      rw [h4 i hi2]
      simp only [flatMap_take5, List.getElem_take]
theorem flatMap_drop5 : ∀ (l : List Ev) (j : Nat), (l.drop j).flatMap evV = (l.flatMap evV).drop (j * 5)
  | [], j => by simp
  | e :: l, 0 => by simp
  | e :: l, j + 1 => by
    have h5 : (evV e).length = 5 := rfl
    rw [List.drop_succ_cons, List.flatMap_cons, flatMap_drop5 l j, List.drop_append, List.drop_of_length_le (show (evV e).length ≤ (j + 1) * 5 by rw [h5]; omega), h5, show (j + 1) * 5 - 5 = j * 5 by omega]
    simp
/-- l[i:j] -/
theorem evs_lh {w : World} {a : Option Addr} {n cap : Nat} {l : List Ev} (h : Evs w (.slice a n cap) l) (hn : l.length = n) (i j : Nat) (hij : i ≤ j) (hj : j ≤ n) : ∃ a' c',
    (∀ W, (Instr.slice 38 (.slice a n cap) (some (.int .i64 i)) (some (.int .i64 j)) none).run Tryz.prog W = .ok (.slice a' (j - i) c') W) ∧ (∀ W, (Instr.sliceAt 38 (.slice a n cap) (some (.int .i64 i)) (some (.int .i64 j)) none).run Tryz.prog W = .ok (.slice a' (j - i) c') W) ∧
    Evs w (.slice a' (j - i) c') ((l.drop i).take (j - i)) := by
  have hok : ∀ e ∈ (l.drop i).take (j - i), e.Ok := fun e he => h.ok e (List.mem_of_mem_drop (List.mem_of_mem_take he))
  have hl : ((l.drop i).take (j - i)).length = j - i := by simp; omega
  have both : ∀ (x : Value) (W : World), (Instr.slice 38 (.slice a n cap) (some (.int .i64 i)) (some (.int .i64 j)) none).run Tryz.prog W = .ok x W → (Instr.sliceAt 38 (.slice a n cap) (some (.int .i64 i)) (some (.int .i64 j)) none).run Tryz.prog W = .ok x W := fun x W hx => by
    rw [run_sliceAt_slice W _ _ _ _ _ elemEv]; exact hx
  have hsrc := h.src
  rw [hn] at hsrc
  obtain ⟨hlen, ⟨a0, hv, h0⟩ | ⟨g, o, c, hv, h1, h2, h3, h4⟩⟩ := hsrc
  · injection hv with e1 e2 e3
    subst e1 e2 e3
    obtain rfl : j = 0 := by omega
    obtain rfl : i = 0 := by omega
    have key : ∀ W, (Instr.slice 38 (.slice a 0 0) (some (.int .i64 ((0 : Nat) : Int))) (some (.int .i64 ((0 : Nat) : Int))) none).run Tryz.prog W = .ok (.slice a (0 - 0) 0) W := fun W => by
      rw [run_slice_lh W 38 a 0 0 elemEv .i64 .i64 ((0 : Nat) : Int) ((0 : Nat) : Int) (by omega) (by omega) (by omega), sizeEv]
      simp [Result.andThen, sliced]
    exact ⟨a, 0, key, fun W => both _ W (key W), ⟨⟨by simp, .inl ⟨a, by simp, by simp⟩⟩, hok⟩⟩
  · injection hv with e1 e2 e3
    subst e1 e3
    have hs : ∀ W, (Instr.slice 38 (.slice (some ⟨g, o, none⟩) n cap) (some (.int .i64 i)) (some (.int .i64 j)) none).run Tryz.prog W = .ok (sliced (some ⟨g, o, none⟩) i j cap 5) W := fun W => by
      rw [run_slice_lh W 38 (some ⟨g, o, none⟩) n cap elemEv .i64 .i64 i j (by omega) (by omega) (by omega), sizeEv]
      simp only [Result.andThen, Int.toNat_natCast]
    by_cases hc : cap = i
    · obtain rfl : j = i := by omega
      subst hc
      have key : ∀ W, (Instr.slice 38 (.slice (some ⟨g, o, none⟩) n cap) (some (.int .i64 cap)) (some (.int .i64 cap)) none).run Tryz.prog W = .ok (.slice (some ⟨g, o, none⟩) (cap - cap) 0) W := fun W => by rw [hs]; simp [sliced]
      refine ⟨some ⟨g, o, none⟩, 0, key, fun W => both _ W (key W), ⟨⟨by rw [hl]; simp, .inl ⟨some ⟨g, o, none⟩, by simp, hl.trans (Nat.sub_self cap)⟩⟩, hok⟩⟩
    · have key : ∀ W, (Instr.slice 38 (.slice (some ⟨g, o, none⟩) n cap) (some (.int .i64 i)) (some (.int .i64 j)) none).run Tryz.prog W = .ok (.slice (some ⟨g, o + i * 5, none⟩) (j - i) (cap - i)) W := fun W => by rw [hs]; simp [sliced, hc, addr_add]
      refine ⟨some ⟨g, o + i * 5, none⟩, cap - i, key, fun W => both _ W (key W), ⟨⟨?_, .inr ⟨g, o + i * 5, cap - i, by rw [hl], by omega, by omega, h3, fun k hk => ?_⟩⟩, hok⟩⟩
      · rw [hl, flatMap_take5, flatMap_drop5, List.length_take, List.length_drop, hlen]
        have : (j - i) * 5 ≤ n * 5 - i * 5 := by omega
        omega
      · have hk2 : i * 5 + k < (l.flatMap evV).length := by
          rw [flatMap_take5, flatMap_drop5, List.length_take, List.length_drop] at hk
          omega
        rw [Nat.add_assoc, h4 (i * 5 + k) hk2]
        simp only [flatMap_take5, flatMap_drop5, List.getElem_take, List.getElem_drop]
theorem SrcV.keep {k : Nat} {S : Nat → Prop} {w w' : World} {v : Value} {n : Nat} {cs : List Value} (h : SrcV k w v n cs) (ho : Only S w w') (hb : ∀ g, v.ownBlock = some g → ¬ S g) : SrcV k w' v n cs := by
  obtain ⟨e, ⟨a, hv, hn⟩ | ⟨g, o, cap, rfl, h1, h2, h3, h4⟩⟩ := h
  · exact ⟨e, .inl ⟨a, hv, hn⟩⟩
  · exact ⟨e, .inr ⟨g, o, cap, rfl, h1, h2, Nat.lt_of_lt_of_le h3 ho.size, fun j hj => ho.cell (h4 j hj) (hb g rfl)⟩⟩
theorem Evs.keep {S : Nat → Prop} {w w' : World} {v : Value} {l : List Ev} (h : Evs w v l) (ho : Only S w w') (hb : ∀ g, v.ownBlock = some g → ¬ S g) : Evs w' v l := ⟨h.src.keep ho hb, h.ok⟩
end Go.Proofs.YtphgiobklbpdeaaGreatDoor

/-
  Helpers of chapter 06's laws, walked: begins, sameInts, sizes.
-/
namespace Go.Proofs.YtphgiobklbpdeaaGreatDoor
open Go Go.RowKit Go.Sort
set_option maxRecDepth 100000
set_option maxHeartbeats 1600000

theorem begins_ok {w : World} {v u : Value} {l m : List Ev} (h : Evs w v l) (h' : Evs w u m) (hp : l <+: m) :
    Calls Tryz.prog 39 #[v, u] w fun e w' => e = .returned (.bool true) ∧ Nw w w' := by
  obtain ⟨a, c, rfl, h1, -⟩ := h.elem
  obtain ⟨a2, c2, rfl, h2, -⟩ := h'.elem
  obtain ⟨n, hn⟩ : ∃ n, l.length = n := ⟨_, rfl⟩
  obtain ⟨k, hk⟩ : ∃ n, m.length = n := ⟨_, rfl⟩
  have hle : n ≤ k := by rw [← hn, ← hk]; exact hp.length_le
  rw [hn] at h h1 ⊢
  rw [hk] at h' h2 ⊢
  obtain ⟨ca, cc, hsl, hE⟩ := evs_h (by have := h'.src; rwa [hk] at this) hk h'.ok n hle
  have hl : m.take n = l := by rw [← hn]; exact (List.prefix_iff_eq_take.1 hp).symm
  rw [hl] at hE
  have HS := Lib.hid (SameEvents_ok h hE)
  have q1 : decide ((n : Int) ≤ (k : Int)) = true := by simp; omega
  have hn63 : n ≤ 9223372036854775807 := by unfold maxLen at h1; omega
  clear h h' hE hl hp hn hk
  go_enter Tryz.func39, Tryz.ntmps39
  go_wp2_with fail
  refine HS.out.mono ?_
  rintro e w1 ⟨rfl, n1⟩
  have N1 := Lib.hid n1
  clear n1
  go_wp2
  go_ret
  exact ⟨rfl, N1.out⟩
theorem sameInts_ok {w : World} {v u : Value} {l : List Int} (h : Rd i64v w v l) (h' : Rd i64v w u l) :
    Calls Tryz.prog 45 #[v, u] w fun e w' => e = .returned (.bool true) ∧ Nw w w' := by
  obtain ⟨la, lc, rfl, hl1, hl2, hle⟩ := h.elems
  obtain ⟨ka, kc, rfl, -, -, hke⟩ := h'.elems
  have HL := Lib.hid hle
  have HK := Lib.hid hke
  obtain ⟨n, hn⟩ : ∃ n, l.length = n := ⟨_, rfl⟩
  have HN := Lib.hid hn
  have hn63 : n ≤ 9223372036854775807 := by unfold maxLen at hl2; omega
  rw [hn]
  clear h h' hle hke hl1 hl2 hn
  go_enter Tryz.func45, Tryz.ntmps45
  go_wp2
  go_loopw [5] (fun i wr => ∃ k : Nat, k ≤ n ∧ i = .int .i64 k ∧ Nw w wr) (fun i _ => n - (intOf i).toNat)
  case atStart => exact ⟨0, Nat.zero_le _, rfl, Nw.refl _⟩
  case round =>
    obtain ⟨k, hk, rfl, hwr⟩ := hrel
    have HW := Lib.hid hwr
    clear hwr
    by_cases hlt : k < n
    · have hkl : k < l.length := by rw [HN.out]; exact hlt
      obtain ⟨g, o, rfl, hg, c0⟩ := HL.out k hkl
      obtain ⟨g2, o2, rfl, hg2, d0⟩ := HK.out k hkl
      generalize l[k] = q at c0 d0
      have c0 := HW.out.cell c0
      have d0 := HW.out.cell d0
      have hg := Nat.lt_of_lt_of_le hg HW.out.size
      have hg2 := Nat.lt_of_lt_of_le hg2 HW.out.size
      clear hkl
      go_upto_region 6 with fail
      have c0 := cellG c0
      have d0 := cellG d0
      refine wp_region_quiet_below (by kernel_rfl) (by kernel_rfl) ?_
      repeat (first | go_big_quiet_step (fail) | quiet_step (fail))
      refine wpQuiet_nil ?_
      intro w2 hw2
      have hw2 := Lib.hid (Nw.of_regrown hw2)
      clear c0 d0
      go_wp2
      go_roundw
      case rel => exact ⟨k + 1, by omega, by go_num, HW.out.trans hw2.out⟩
      case measure => simp [intOf]; omega
    · go_wp2
      go_ret
      exact ⟨rfl, HW.out⟩
/-- How many bytes each file has, and how many are synced. -/
def sizesD (d : Dsk) : List Int := d.list.flatMap fun s => [((fileOf d.files s).bytes.length : Int), ((fileOf d.files s).synced : Int)]
theorem infoInt : (Tryz.prog.info? 3).map (fun i => (i.zero, i.size, i.bytes)) = some (some (.int .i64 0), 1, 8) := by kernel_rfl
section
variable {X : Nat → Prop} {w0 w : World} {b : Nat} {d : Dsk}
theorem sizes_ok (h : HasX X w0 w b d) : Calls Tryz.prog 44 #[.pointer (some ⟨b, 0, none⟩)] w fun e w' => ∃ v, e = .returned v ∧ Vec 1 w' v (sizesD d).length ((sizesD d).map i64v) ∧ Nw w w' ∧ ∀ g, v.ownBlock = some g → w.heap.size ≤ g := by
  have H := Lib.hid h
  obtain ⟨dl, hdl⟩ : ∃ x, d.list = x := ⟨_, rfl⟩
  have HDL := Lib.hid hdl
  obtain ⟨nd, hnd⟩ : ∃ x, dl.length = x := ⟨_, rfl⟩
  have HND := Lib.hid hnd
  have hnd200 : nd ≤ 1000 := by
    have h1 := h.ok.few
    rw [← hnd, ← hdl]
    simp only [Dsk.list, List.length_mergeSort, namesF, List.length_map]
    omega
  obtain ⟨i0, hi, hz0, hz1, hz2⟩ := info_parts infoInt
  have HI := Lib.hid hi
  have HZ0 := Lib.hid hz0
  have HZ1 := Lib.hid hz1
  have HZ2 := Lib.hid hz2
  have HLL := Lib.hid (h.list hdl)
  have HSD : Hid (sizesD d = dl.flatMap fun s => [((fileOf d.files s).bytes.length : Int), ((fileOf d.files s).synced : Int)]) := Lib.hid (by unfold sizesD; rw [hdl])
  clear h hdl hnd hi hz0 hz1 hz2
  go_enter Tryz.func44, Tryz.ntmps44
  go_wp2_with fail
  refine HLL.out.mono ?_
  rintro e w7 ⟨v7, rfl, s7, n7, -⟩
  obtain ⟨da, dc, rfl, -, -, hde⟩ := s7.elems
  rw [HND.out]
  have N7 := Lib.hid n7
  have HDE := Lib.hid hde
  clear s7 n7 hde HLL
  go_wp2
  go_loopw [3, 9] (fun s i wr => ∃ k : Nat, k ≤ nd ∧ i = .int .i64 k ∧ Nw w7 wr ∧ Vec 1 wr s (2 * k) (((dl.take k).flatMap fun s => [((fileOf d.files s).bytes.length : Int), ((fileOf d.files s).synced : Int)]).map i64v) ∧ ∀ g, s.ownBlock = some g → w7.heap.size ≤ g) (fun _ i _ => nd - (intOf i).toNat)
  case atStart => exact ⟨0, by omega, rfl, Nw.refl _, by simpa using Vec.nil, fun g hg => by cases hg⟩
  case round =>
    obtain ⟨k, hk, rfl, hN, hV, hF⟩ := hrel
    have HN := Lib.hid hN
    have HV := Lib.hid hV
    have HF := Lib.hid hF
    obtain ⟨sa, sc, rfl, -⟩ := hV.len
    clear hN hV hF
    by_cases hlt : k < nd
    case neg =>
      obtain rfl : k = nd := by omega
      go_wp2
      go_ret
      have hl : (sizesD d).length = 2 * k := by
        have := HV.out.1
        rw [List.length_map, List.take_of_length_le (by rw [HND.out]; exact Nat.le_refl _), ← HSD.out] at this
        omega
      refine ⟨_, rfl, ?_, N7.out.trans HN.out, fun g hg => Nat.le_trans N7.out.size (HF.out g hg)⟩
      rw [hl]
      have := HV.out
      rw [List.take_of_length_le (by rw [HND.out]; exact Nat.le_refl _), ← HSD.out] at this
      exact this
    have hkl : k < dl.length := by rw [HND.out]; exact hlt
    obtain ⟨g, o, rfl, hg, c0⟩ := HDE.out k hkl
    have c0 := HN.out.cell c0
    have hg := Nat.lt_of_lt_of_le hg HN.out.size
    obtain ⟨n, hn⟩ : ∃ n, dl[k] = n := ⟨_, rfl⟩
    rw [hn] at c0
    have c0 : wr.cell? ⟨g, o + k, none⟩ = some (.string ⟨n.toArray⟩) := c0
    have HNK := Lib.hid hn
    obtain ⟨x, hx⟩ : ∃ x, (fileOf d.files n).bytes.length = x := ⟨_, rfl⟩
    obtain ⟨y, hy⟩ : ∃ x, (fileOf d.files n).synced = x := ⟨_, rfl⟩
    have C1 := Lib.hid ((H.out.nw (N7.out.trans HN.out)).size n hx)
    have C2 := Lib.hid (fun W (hw : Nw wr W) => (H.out.nw ((N7.out.trans HN.out).trans hw)).synced n hy)
    have HX := Lib.hid hx
    have HY := Lib.hid hy
    clear hn hx hy
    go_wp2_with fail
    refine C1.out.mono ?_
    rintro e w8 ⟨rfl, n8⟩
    have N8 := Lib.hid n8
    clear n8
    go_wp2_with fail
    refine (C2.out _ N8.out).mono ?_
    rintro e w9 ⟨rfl, n9⟩
    have N9 := Lib.hid (N8.out.trans n9)
    have na := (Nw.refl w9).alloc (.cells #[.int .i64 x, .int .i64 y] 3)
    have V4 := Lib.hid ((HV.out.nw N9.out).nw na)
    have X4 := Lib.hid (src_lit w9 3 (0, 0) 1 2 2 [.int .i64 x, .int .i64 y] rfl (by omega) (by decide))
    have NA := Lib.hid (N9.out.trans na)
    clear n9 na c0 hg
    go_wp2_with (at_builtin; refine wpList_append_vec rfl _ _ 64 rfl 3 i0 (.int .i64 0) 1 8 Tryz.underlying64 HI.out HZ0.out HZ1.out HZ2.out rfl (by decide) rfl rfl V4.out X4.out ?c1 ?c2 ?c3 ?_)
    case c1 => exact fun u hu => by simp only [List.mem_cons, List.not_mem_nil, or_false] at hu; rcases hu with rfl | rfl <;> rfl
    case c2 => unfold maxLen; omega
    case c3 => omega
    intro v5 w5 q5 q6 q7
    obtain ⟨ta, tc, rfl, -⟩ := q5.len
    have Q := Lib.hid (And.intro q5 (And.intro q6 q7))
    clear q5 q6 q7
    go_wp2
    go_roundw
    case rel =>
      have hnw : Nw w7 w5 := (HN.out.trans NA.out).trans' Q.out.2.1 (fun g hg hc => by have := HF.out g hc; omega)
      refine ⟨k + 1, by omega, by go_num, hnw, ?_, fun g hg => ?_⟩
      · rw [List.take_succ_eq_append_getElem (by rw [HND.out]; exact hlt), HNK.out, List.flatMap_append, List.map_append]
        have := Q.out.1
        simp only [List.flatMap_cons, List.flatMap_nil, List.append_nil, HX.out, HY.out, List.map_cons, List.map_nil]
        rw [show 2 * (k + 1) = 2 * k + 2 by omega]
        exact this
      · rcases Q.out.2.2 with h | h
        · exact HF.out g (h ▸ hg)
        · have h1 := h g hg
          have h2 := (HN.out.trans NA.out).size
          simp only [World.size_alloc] at h2
          exact Nat.le_trans h2 h1
    case measure => simp [intOf]; omega
end
end Go.Proofs.YtphgiobklbpdeaaGreatDoor
