/-
  Texts merged by a program of this claim's: CompactOpens.
-/
import Derived.Test.YtjapijndljknnaaGreatDoorM44
import Derived.Test.YtjapijndljknnaaGreatDoorM43
import Derived.Test.YtjapijndljknnaaGreatDoorM50
import Derived.Test.YtjapijndljknnaaGreatDoorM35
/-
  amanuensislaw07.CompactOpens: the open piece's file is left as it is, and the log goes on.
-/
namespace Go.Proofs.YtjapijndljknnaaGreatDoor.CompactOpens
open Go Go.RowKit Go.Sort
set_option maxRecDepth 100000
set_option maxHeartbeats 1600000
theorem walk (w : World) (ht : Tab w) (v0 v1 : Value) (fs : List (List Ev)) (es : List Ev) (h0 : RdK 1 (isEvs w) w v0 fs) (h1 : Evs w v1 es) :
    Calls Tryz.prog 8 #[v0, v1] w fun e w' => e = .returned (.bool true) ∧ Nw w w' := by
  have HT := Lib.hid ht
  obtain ⟨a0, c0, rfl, -⟩ := h0.len
  have G1 := Lib.hid (grown_ok w ht _ fs 1048576 (by omega) (by omega) h0)
  obtain ⟨ea, ec, rfl, -⟩ := h1.elem
  have HE := Lib.hid h1
  generalize fs.length = nf at *
  clear ht h0 h1
  obtain ⟨ne, hne⟩ : ∃ n, es.length = n := ⟨_, rfl⟩
  have HNE := Lib.hid hne
  rw [hne] at HE ⊢
  go_enter Tryz.func8, Tryz.ntmps8
  go_wp2_with fail
  refine G1.out.mono ?_
  rintro e w1 ⟨b, p, v, d, L, all, c, ok, rfl, g, -⟩
  obtain ⟨rfl, bt, -⟩ := g.big rfl
  obtain ⟨va, vc, rfl, -⟩ := g.vec.len
  obtain ⟨d', L', n, hcd, gc⟩ := comp_two bt g.kin g.evs g.few
  obtain ⟨l1, hl1⟩ : ∃ x, L.l = x := ⟨_, rfl⟩
  obtain ⟨q, hq⟩ : ∃ x, lastP L.l = x := ⟨_, rfl⟩
  obtain ⟨m, hm⟩ : ∃ m, l1.length = m + 1 := ⟨n, by rw [← hl1]; exact gc.n_.symm⟩
  have hm100 : m ≤ 99 := by have := (g.kin.facts).2.1; rw [hl1] at this; omega
  have hfew := g.few
  have hlen := g.len
  have hcalm : Calm d := by obtain ⟨_, _, hi, _⟩ := bt.ak.inv; exact hi.calm
  obtain ⟨f, hf⟩ : ∃ x, fileOf d.files q.name = x := ⟨_, rfl⟩
  have hf' : fileOf d'.files q.name = f := by rw [← hf, ← hq]; exact gc.open_
  have hfne : f.bytes ≠ [] := by
    obtain ⟨_, _, _, _, _, kk⟩ := g.kin
    rw [← hf, ← hq, kk.last, kk.open_]
    unfold segB
    exact fun hc => headB_ne _ (List.append_eq_nil_iff.1 hc).1
  have hr1 := read_of hcalm.up (congrArg DFile.bytes hf) hfne
  have hr2 := read_of gc.calm.up (congrArg DFile.bytes hf') hfne
  obtain ⟨ak, hak⟩ : ∃ x, L.acked = x := ⟨_, rfl⟩
  obtain ⟨ln, hln⟩ : ∃ x, L.n = x := ⟨_, rfl⟩
  obtain ⟨bs, hbs⟩ : ∃ x, f.bytes = x := ⟨_, rfl⟩
  obtain ⟨sy, hsy⟩ : ∃ x, f.synced = x := ⟨_, rfl⟩
  rw [hbs] at hr1 hr2
  have LN : Hid (L.n = ln ∧ L'.n = ln ∧ L.acked = ak ∧ L'.acked = ak) := Lib.hid ⟨hln, gc.n0.trans hln, hak, gc.acked.trans hak⟩
  have SY : Hid ((fileOf d.files q.name).synced = sy ∧ (fileOf d'.files q.name).synced = sy) := Lib.hid ⟨by rw [hf, hsy], by rw [hf', hsy]⟩
  have R1 := Lib.hid hr1
  have R2 := Lib.hid hr2
  have L1 := Lib.hid g.hl
  have A1 : Hid (Evs w1 (.slice va all.length vc) all) := Lib.hid ⟨g.vec.src, g.evs⟩
  have EV := Lib.hid g.evs
  have KI0 := Lib.hid g.kin
  have KI := Lib.hid gc.kin
  have CD := Lib.hid hcd
  have HL1 := Lib.hid hl1
  have HM := Lib.hid hm
  have hall : all.length ≤ 100000 := by omega
  have RK : Hid (Rk 64 c L') := Lib.hid ⟨by rw [gc.bytes]; exact g.rk.bytes, by rw [gc.size]; exact g.rk.size⟩
  have ADD : Hid (es.length ≠ 0 → es.length ≤ 30 → (L'.add d' es).e = 0) := Lib.hid (fun h1 h2 => gc.add g.few bt h1 h2)
  have UP : Hid (d'.Up) := Lib.hid ⟨gc.calm.up, gc.calm.arm⟩
  have HLQ : Hid (lastP l1 = q) := Lib.hid (by rw [← hl1]; exact hq)
  clear g gc bt hcd hl1 hq hf hf' hfne hr1 hr2 hak hln hbs hsy G1 hcalm
  go_wp2_with fail
  refine (L1.out.pieces HL1.out (by rw [HM.out]; omega)).mono ?_
  rintro e w2 ⟨v2, rfl, q1, q2, -⟩
  rw [HM.out] at q1
  obtain ⟨pa, pc, rfl, -⟩ := q1.len
  have L2 := Lib.hid (L1.out.nw q2)
  have A2 := Lib.hid (A1.out.nw q2)
  have N2 := Lib.hid (L1.out.base.trans q2)
  have hz0 : (((m : Int) + 1) == 0) = false := by simp; omega
  clear q1 q2 L1 A1
  go_wp2_with fail
  refine (LDisk_ok L2.out).mono ?_
  rintro e w3 ⟨rfl, rfl⟩
  go_wp2_with fail
  refine (L2.out.pieces HL1.out (by rw [HM.out]; omega)).mono ?_
  rintro e w4 ⟨v4, rfl, q1, q2, q3⟩
  have P4 := q1.pcs (by rw [← HL1.out]; exact L2.out.pok)
  rw [HM.out] at q1
  obtain ⟨ra, rc, rfl, -⟩ := q1.len
  obtain ⟨g, o, rfl, hg, k0, -⟩ := pcs_at P4 HM.out (k := m) (by omega)
  have hlq : l1[m]'(by rw [HM.out]; omega) = q := by
    rw [← HLQ.out, ← lastP_at (by intro hc; have := HM.out; rw [hc] at this; cases this)]
    congr 1
    rw [HM.out]; rfl
  rw [hlq] at k0
  have L4 := Lib.hid (L2.out.nw q2)
  have A4 := Lib.hid (A2.out.nw q2)
  have hw1 : IntKind.i64.wrap ((m : Int) + 1 - 1) = (m : Int) := by rw [show (m : Int) + 1 - 1 = m by omega]; exact IntWalk.i64_in _ (by omega)
  clear q1 q2 q3 L2 A2 P4 hlq
  go_wp2_with fail
  refine (L4.out.has.read q.name R1.out).mono ?_
  rintro e w5 ⟨v5, rfl, o5, n5, f5⟩
  obtain ⟨X5, hX5⟩ : ∃ X : Nat → Prop, X = fun j => (Value.slice va all.length vc).ownBlock = some j ∨ v5.ownBlock = some j := ⟨_, rfl⟩
  have L5 : Hid (HasL X5 w w5 p b d L) := Lib.hid (L4.out.wider n5 fun k hk => by
    rw [hX5] at hk
    rcases hk with hk | hk
    · exact .inl hk
    · exact .inr ⟨f5 k hk, o5.lt k hk⟩)
  have HX5 : Hid ((∀ g, (Value.slice va all.length vc).ownBlock = some g → X5 g) ∧ ∀ g, v5.ownBlock = some g → X5 g) := Lib.hid (by rw [hX5]; exact ⟨fun g h => .inl h, fun g h => .inr h⟩)
  have B5 := Lib.hid o5
  have A5 := Lib.hid (A4.out.nw n5)
  clear n5 f5 o5 L4 A4 hX5 k0 hg
  go_wp2_with fail
  refine (L5.out.has.synced q.name SY.out.1).mono ?_
  rintro e w6 ⟨rfl, n6⟩
  have L6 := Lib.hid (L5.out.nw n6)
  have A6 := Lib.hid (A5.out.nw n6)
  have B6 := Lib.hid (B5.out.kept (X := fun _ => True) n6.kept fun _ _ => trivial)
  clear n6 L5 A5 B5
  go_wp2_with fail
  refine (L6.out.len LN.out.1).mono ?_
  rintro e w7 ⟨rfl, rfl⟩
  go_wp2_with fail
  refine (L6.out.ack LN.out.2.2.1).mono ?_
  rintro e w8 ⟨rfl, rfl⟩
  have C := Compact_ok L6.out KI0.out EV.out hall HT.out
  rw [CD.out] at C
  have C := Lib.hid C
  go_wp2_with fail
  refine C.out.mono ?_
  rintro e w9 ⟨rfl, hl9, hk9⟩
  have L9 := Lib.hid hl9
  have A9 := Lib.hid (A6.out.kept hk9 HX5.out.1)
  have B9 := Lib.hid (B6.out.kept hk9 HX5.out.2)
  clear hl9 hk9 C L6 A6 B6
  go_wp2_with fail
  refine (L9.out.has.read q.name R2.out).mono ?_
  rintro e w10 ⟨v10, rfl, o10, n10, f10⟩
  have L10 := Lib.hid (L9.out.nw n10)
  have A10 := Lib.hid (A9.out.nw n10)
  have B10 := Lib.hid (B9.out.kept (X := fun _ => True) n10.kept fun _ _ => trivial)
  have SB := Lib.hid (SameBytes_ok B10.out.rd o10.rd)
  clear n10 f10 o10 L9 A9 B9
  have hbb : (bs == bs) = true := by simp
  go_wp2_with fail
  refine SB.out.mono ?_
  rintro e w11 ⟨rfl, rfl⟩
  rw [hbb]
  go_wp2_with fail
  refine (L10.out.has.synced q.name SY.out.2).mono ?_
  rintro e w12 ⟨rfl, n12⟩
  have L12 := Lib.hid (L10.out.nw n12)
  have A12 := Lib.hid (A10.out.nw n12)
  clear n12 L10 A10 B10 SB
  go_wp2_with fail
  refine (L12.out.len LN.out.2.1).mono ?_
  rintro e w13 ⟨rfl, rfl⟩
  go_wp2_with fail
  refine (L12.out.ack LN.out.2.2.2).mono ?_
  rintro e w14 ⟨rfl, rfl⟩
  by_cases hz : ne = 0
  · have hz1 : ((ne : Int) == 0) = true := by simp [hz]
    go_wp2_with fail
    refine (awake7_ok w12 (HT.out.nw L12.out.base)).mono ?_
    rintro e w15 ⟨rfl, n15⟩
    have N15 := Lib.hid (L12.out.base.trans n15)
    clear n15
    go_wp2
    go_ret
    exact ⟨rfl, N15.out⟩
  have hz1 : ((ne : Int) == 0) = false := by simp; omega
  by_cases h30 : 30 < ne
  · have hz2 : decide ((30 : Int) < (ne : Int)) = true := by simp; omega
    go_wp2_with fail
    refine (awake7_ok w12 (HT.out.nw L12.out.base)).mono ?_
    rintro e w15 ⟨rfl, n15⟩
    have N15 := Lib.hid (L12.out.base.trans n15)
    clear n15
    go_wp2
    go_ret
    exact ⟨rfl, N15.out⟩
  have hz2 : decide ((30 : Int) < (ne : Int)) = false := by simp; omega
  have E12 := Lib.hid (HE.out.nw L12.out.base)
  have hadd := ADD.out (by rw [HNE.out]; exact hz) (by rw [HNE.out]; omega)
  have C := Rk.call L12.out KI.out RK.out ⟨by omega, by omega⟩ (by omega) (by omega) HT.out E12.out
  have hki := KI.out.add (d := d') (es := es) (seals_wholeU unpackB) HE.out.ok
  have hup := add_up UP.out L' es
  rw [hadd, if_pos rfl] at hki
  obtain ⟨al, hal⟩ : ∃ x, all ++ es = x := ⟨_, rfl⟩
  rw [hal] at hki
  have AL := Lib.hid hal
  have ALN : Hid (al.length = all.length + ne) := Lib.hid (by rw [← hal, List.length_append, HNE.out])
  clear hal
  obtain ⟨r, hr⟩ : ∃ r, L'.add d' es = r := ⟨_, rfl⟩
  rw [hr] at C hadd hki hup
  obtain ⟨d2, L2', x⟩ := r
  simp only at hadd hki hup C
  subst hadd
  obtain ⟨gd, hsc⟩ := (hki.rtl).scan (fun _ _ _ h => h) hup.1
  have C := Lib.hid C
  have SC := Lib.hid hsc
  clear hki hup hr hsc
  go_wp2_with fail
  refine C.out.mono ?_
  rintro e w15 ⟨rfl, hl15, hk15⟩
  have L15 := Lib.hid hl15
  have A15 := Lib.hid (A12.out.kept hk15 HX5.out.1)
  have E15 := Lib.hid (HE.out.nw hl15.base)
  clear hl15 hk15 C L12 A12 E12
  go_wp2_with fail
  refine (Scan_ok L15.out.has (.inl den_unpack) SC.out).mono ?_
  rintro e w16 ⟨v16, u16', rfl, o1, o2⟩
  obtain ⟨xa, xc, rfl, -⟩ := o1.1.len
  obtain ⟨ya, yc, rfl, -⟩ := o2.1.len
  have N16 := Lib.hid (L15.out.base.trans o1.2.1)
  have A16 := Lib.hid (A15.out.nw o1.2.1)
  have E16 := Lib.hid (E15.out.nw o1.2.1)
  have X16 : Hid (Evs w16 (.slice xa al.length xc) al) := Lib.hid ⟨o1.1.src, fun e he => by
    rw [← AL.out] at he
    rcases List.mem_append.1 he with he | he
    · exact EV.out e he
    · exact HE.out.ok e he⟩
  have XLT := Lib.hid o1.1.lt
  have CE := Lib.hid (CopyEvents_ok A16.out (by omega))
  clear o1 o2 L15 A15 E15 SC
  go_wp2_with fail
  refine CE.out.mono ?_
  rintro e w17 ⟨v17, rfl, q1, q2, q3⟩
  obtain ⟨za, zc, rfl, -⟩ := q1.len
  have N17 := Lib.hid (N16.out.trans q2)
  have E17 := Lib.hid (E16.out.nw q2).src
  have X17 := Lib.hid (X16.out.nw q2)
  have V17 := Lib.hid q1
  have F17 := Lib.hid q3
  clear q1 q2 q3 A16 E16 X16 CE
  rw [HNE.out] at E17
  obtain ⟨i0, hi, hy0, hy1, hy2⟩ := info_parts infoEv
  have HI := Lib.hid hi
  have HZ0 := Lib.hid hy0
  have HZ1 := Lib.hid hy1
  have HZ2 := Lib.hid hy2
  clear hi hy0 hy1 hy2
  go_wp2_with (at_builtin; refine wpList_append_vec_g (by kernel_rfl) _ _ 25 rfl 73 i0 (.agg #[.int .i64 0, .int .u8 0, .int .i64 0, .int .i64 0, .int .i64 0]) 5 40 Tryz.underlying25 HI.out HZ0.out HZ1.out HZ2.out rfl (by decide) rfl rfl V17.out E17.out ?c1 ?c2 ?c3 ?_)
  case c1 => exact evV_one es
  case c2 => unfold maxLen; omega
  case c3 => omega
  intro v18 w18 q5 q6 q7
  obtain ⟨ta, tc, rfl, -⟩ := q5.len
  have XA := Lib.hid (X17.out.src.keep q6 (fun g hg hc => by have h1 := F17.out g hc; have h2 := XLT.out g hg; omega))
  have SE : Hid (Calls Tryz.prog 40 #[.slice xa al.length xc, .slice ta (all.length + ne) tc] w18 fun e w' => e = .returned (.bool true) ∧ Nw w18 w') := Lib.hid (SameEvents_ok (l := al) ⟨XA.out, X17.out.ok⟩ ⟨by rw [ALN.out, ← AL.out, List.flatMap_append]; exact q5.src, X17.out.ok⟩)
  have N18 := Lib.hid (N17.out.trans' q6 (fun k hk hc => by have h1 := F17.out k hc; have h2 := N16.out.size; omega))
  clear q5 q6 q7 V17 X17 XA E17 HI HZ0 HZ1 HZ2
  go_wp2_with fail
  refine SE.out.mono ?_
  rintro e w19 ⟨rfl, n19⟩
  have N19 := Lib.hid (N18.out.trans n19)
  clear n19 SE
  go_wp2_with fail
  refine (awake7_ok w19 (HT.out.nw N19.out)).mono ?_
  rintro e w20 ⟨rfl, n20⟩
  have N20 := Lib.hid (N19.out.trans n20)
  clear n20
  go_wp2
  go_ret
  exact ⟨rfl, N20.out⟩
end Go.Proofs.YtjapijndljknnaaGreatDoor.CompactOpens
