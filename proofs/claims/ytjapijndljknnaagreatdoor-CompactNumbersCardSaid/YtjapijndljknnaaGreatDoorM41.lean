/-
  Texts merged by a program of this claim's: CompC.
-/
import Derived.Test.YtjapijndljknnaaGreatDoorM36
import Derived.Test.YtjapijndljknnaaGreatDoorM37
import Derived.Test.YtjapijndljknnaaGreatDoorM39
import Derived.Test.YtjapijndljknnaaGreatDoorM40
import Derived.Deep.DeepCutAuto
/-
  Package compact, walked: Compact.
-/
namespace Go.Proofs.YtjapijndljknnaaGreatDoor
open Go Go.RowKit Go.Sort
set_option maxRecDepth 100000
set_option maxHeartbeats 1600000
theorem sizePc (W : World) : (sizeOf (Tryz.prog.elem 28)).run Tryz.prog W = .ok 4 W := by kernel_rfl
theorem elemPc : Tryz.prog.underlying 28 = some (.slice (Tryz.prog.elem 28)) := by kernel_rfl
theorem pcs_h {g o n cap : Nat} (h1 : n ≤ cap) (h2 : cap ≤ maxLen) (hc : cap ≠ 0) (j : Nat) (hj : j ≤ n) (W : World) :
    (Instr.slice 28 (.slice (some ⟨g, o, none⟩) n cap) none (some (.int .i64 j)) none).run Tryz.prog W = .ok (.slice (some ⟨g, o, none⟩) j cap) W := by
  rw [run_slice_h W 28 (some ⟨g, o, none⟩) n cap elemPc .i64 j (by omega) (by omega), sizePc]
  simp [Result.andThen, Int.toNat_natCast, sliced, hc, addr_add]
theorem infoFn : (Tryz.prog.info? 80).map (fun i => (i.zero, i.size, i.bytes)) = some (some .nilFunc, 1, 8) := by kernel_rfl
theorem KInv.at_comp {d : Dsk} {L : Lg} {all : List Ev} {A : List Pc} {q : Pc} (h : KInv (WholeU unpackB) d.files L all) (hA : L.l.dropLast = A) (hq : lastP L.l = q) (hl : lone A = false) :
    ∃ k : Nat, q.first = k ∧ 1 ≤ k ∧ k ≤ all.length ∧ (d.down = false → ∃ gd, scanD unpackB d = ⟨all, L.l, gd, 0⟩) := by
  obtain ⟨A', p, old, fs, m, h⟩ := h
  have h1 : L.l.dropLast = A' := by rw [h.l]; simp
  have h2 := h.last
  rw [hA] at h1
  rw [hq] at h2
  subst h1 h2
  have hall := h.all_
  refine ⟨old.length, h.first, ?_, by rw [hall, List.length_append]; omega, fun hd => ⟨_, by have := h.tin.scan hd; rw [hall]; exact this⟩⟩
  rcases sealed_pos h.right.sealed_ with h3 | h3
  · subst h3; simp [lone] at hl
  · rw [← h.right.first, h.first] at h3; omega
theorem compF_snoc (xb po pd pn pb : Nat) (ps : List Nat) (q : Nat) : (compF xb po pd pn pb (ps ++ [q])).map fnV = (compF xb po pd pn pb ps).map fnV ++ [fnV (99, #[bx pd, bx q])] := by simp [compF]
section
variable {X : Nat → Prop} {w0 w : World} {p b : Nat} {d : Dsk} {L : Lg} {all : List Ev}
theorem Compact_ok (h : HasL X w0 w p b d L) (hk : KInv (WholeU unpackB) d.files L all) (hok : ∀ e ∈ all, e.Ok) (hall : all.length ≤ 100000) (ht : Tab w0) :
    Calls Tryz.prog 37 #[.pointer (some ⟨p, 0, none⟩)] w fun e w' => e = .returned (.tuple #[.int .i64 (compD all L d).n, .int .i64 (compD all L d).e]) ∧ HasL X w0 w' p b (compD all L d).d (compD all L d).L ∧ Kept X w w' := by
  have hkf := hk.facts
  have H0 := Lib.hid h
  have HK := Lib.hid hk
  have HOK := Lib.hid hok
  have HT := Lib.hid ht
  obtain ⟨R, hR⟩ : ∃ r, compD all L d = r := ⟨_, rfl⟩
  have HR := Lib.hid hR
  rw [hR]
  obtain ⟨l, hl⟩ : ∃ l, L.l = l := ⟨_, rfl⟩
  have HL := Lib.hid hl
  have hsp := split_last hkf.2.2.2
  obtain ⟨A, hA⟩ : ∃ A, L.l.dropLast = A := ⟨_, rfl⟩
  obtain ⟨q, hq⟩ : ∃ q, lastP L.l = q := ⟨_, rfl⟩
  rw [hA, hq, hl] at hsp
  have HA := Lib.hid hA
  have HQ := Lib.hid hq
  have HSP := Lib.hid hsp
  have hll : l.length ≤ 100 := by rw [← hl]; exact hkf.2.1
  obtain ⟨na, hna⟩ : ∃ n, A.length = n := ⟨_, rfl⟩
  have HNA := Lib.hid hna
  have hln : l.length = na + 1 := by rw [hsp, List.length_append, hna]; rfl
  rw [hln] at hll
  have HLN := Lib.hid hln
  have HPO := Lib.hid h.pok
  obtain ⟨xb, hxb⟩ : ∃ x, w.heap.size = x := ⟨_, rfl⟩
  have hn1 := (Nw.refl w).alloc (.cells #[.pointer (some ⟨p, 0, none⟩)] 24 (0, 0))
  have N1 := Lib.hid hn1
  have H1 := Lib.hid (h.nw hn1)
  have B1 := heap_alloc_new w (.cells #[.pointer (some ⟨p, 0, none⟩)] 24 (0, 0))
  rw [hxb] at B1
  have HB1 := Lib.hid B1
  clear h hk hok ht hR hl hA hq hsp hna hln hn1 B1 hkf
  go_enter Tryz.func37, Tryz.ntmps37
  go_wp2_with fail
  refine (H1.out.pieces HL.out (by rw [HLN.out]; omega)).mono ?_
  rintro e w2 ⟨v2, rfl, q1, q2, q3⟩
  rw [HLN.out] at q1
  obtain ⟨qa, qc, rfl, -⟩ := q1.len
  have N2 := Lib.hid (N1.out.trans q2)
  have V2 := Lib.hid q1
  have F2 := Lib.hid q3
  have HB2 := Lib.hid (q2.at_ HB1.out)
  have H2 := Lib.hid (H1.out.nw q2)
  clear q1 q2 q3 HB1 H1
  have e0 : (((na : Int) + 1) == 0) = false := by simp; omega
  have y0 := cell_of HB2.out (i := 0) rfl
  have hxl := lt_of_block HB2.out
  cases hov : L.over
  case true =>
    go_wp2_with fail
    refine (H2.out.over hov).mono ?_
    rintro e w3 ⟨rfl, rfl⟩
    go_wp2
    have hr := HR.out
    unfold compD at hr
    rw [if_pos hov] at hr
    subst hr
    refine bodyPost_ret (v := .tuple #[.int .i64 0, .int .i64 16]) (by simp [results, Tryz.results37, go_sem]) rfl ⟨rfl, H2.out, N2.out.kept⟩
  have HOV := Lib.hid hov
  have HR2 : Hid ((if lone A then (⟨d, L, 0, 0⟩ : CompR) else if d.down then ⟨d, L, 0, 15⟩ else compD all L d) = R) := Lib.hid (by
    have hr := HR.out
    rw [← hr]
    split
    · rename_i hc; unfold compD; rw [hov, HA.out, if_neg (by simp), if_pos hc]
    · rename_i hc
      split
      · rename_i hd; unfold compD; rw [hov, HA.out, if_neg (by simp), if_neg hc, if_pos hd]
      · rfl)
  go_wp2_with fail
  refine (H2.out.over hov).mono ?_
  rintro e w3 ⟨rfl, rfl⟩
  have PP2 : Pcs w2 (.slice qa (na + 1) qc) l := ⟨by rw [HLN.out]; exact V2.out.src, by rw [← HL.out]; exact HPO.out⟩
  obtain ⟨a', cap', he, hc1, hc2, hel⟩ := PP2.elem
  rw [HLN.out] at he hc1
  obtain ⟨rfl, rfl⟩ : qa = a' ∧ qc = cap' := by simpa using he
  obtain ⟨g, o, rfl, hg, c0, c1, c2, c3⟩ := hel na (by rw [HLN.out]; omega)
  have hlq : l[na]'(by rw [HLN.out]; omega) = q := by
    have := HSP.out
    subst this
    rw [List.getElem_append_right (by rw [HNA.out]; exact Nat.le_refl _)]
    simp
  rw [hlq] at c0 c1 c2 c3
  have hsl := fun W => pcs_h (g := g) (o := o) hc1 hc2 (by omega) na (by omega) W
  have HEL := Lib.hid hel
  have hw1 : IntKind.i64.wrap ((na : Int) + 1 - 1) = (na : Int) := by rw [show (na : Int) + 1 - 1 = na by omega]; exact IntWalk.i64_in _ (by omega)
  have hi1 : ((na : Int) + 1 - 1) = (na : Int) := by omega
  clear hel hlq he PP2 e0
  go_upto_region 6 with fail
  go_cut [5, 6] (fun s t wx => s = .slice (some ⟨g, o, none⟩) na qc ∧ t = .pointer (some ⟨w2.heap.size, 0, none⟩) ∧ Nw w2 wx ∧ wx.heap[w2.heap.size]? = some (.cells #[.string ⟨q.name.toArray⟩, .int .i64 q.first, .int .i64 q.count, .bool q.dense] 32 (0, 0)))
  case first =>
    go_region
    go_wp2_with fail
    go_meet
    case rel => exact ⟨rfl, rfl, ((Nw.refl w2).alloc _).drew, by exact heap_alloc_new w2 _⟩
  case rest =>
    obtain ⟨rfl, rfl, n3, b3⟩ := hcut
    obtain ⟨po, hpo⟩ : ∃ x, w2.heap.size = x := ⟨_, rfl⟩
    rw [hpo] at b3 ⊢
    have N3 := Lib.hid (N2.out.trans n3)
    have HB3 := Lib.hid (n3.at_ HB2.out)
    have HO3 := Lib.hid b3
    have H3 := Lib.hid (H2.out.nw n3)
    have PG3 : Hid (g < wc.heap.size ∧ ∀ j (hj : j < l.length), wc.cell? ⟨g, o + j * 4, none⟩ = some (.string ⟨l[j].name.toArray⟩) ∧ wc.cell? ⟨g, o + j * 4 + 1, none⟩ = some (.int .i64 l[j].first) ∧ wc.cell? ⟨g, o + j * 4 + 2, none⟩ = some (.int .i64 l[j].count) ∧ wc.cell? ⟨g, o + j * 4 + 3, none⟩ = some (.bool l[j].dense)) := Lib.hid ⟨Nat.lt_of_lt_of_le hg n3.size, fun j hj => by
      obtain ⟨g2, o2, he2, -, z0, z1, z2, z3⟩ := HEL.out j hj
      obtain ⟨rfl, rfl⟩ : g = g2 ∧ o = o2 := by simpa using he2
      exact ⟨n3.cell z0, n3.cell z1, n3.cell z2, n3.cell z3⟩⟩
    have KX3 : Hid (Kept X w wc) := Lib.hid N3.out.kept
    have hwsz : xb < po := by omega
    clear n3 b3 HB2 H2 HEL c0 c1 c2 c3 y0 hxl hg hsl hw1 hi1 V2 N2
    go_upto_region 7 with fail
    go_cut [48] (fun t wx => t = .bool (lone A) ∧ wx = wc)
    case first =>
      by_cases h0 : na = 0
      case pos =>
        have q1 : ((na : Int) == 0) = true := by simp [h0]
        have hA0 : A = [] := List.eq_nil_of_length_eq_zero (by rw [HNA.out]; exact h0)
        go_wp2_with fail
        go_meet
        case rel => exact ⟨by rw [hA0]; rfl, rfl⟩
      have q1 : ((na : Int) == 0) = false := by simp; omega
      by_cases h1 : na = 1
      case pos =>
        have q2 : ((na : Int) == 1) = true := by simp [h1]
        obtain ⟨x, hA1⟩ : ∃ x, A = [x] := List.length_eq_one_iff.1 (by rw [HNA.out]; exact h1)
        obtain ⟨hg3, hz⟩ := PG3.out
        have z3 := (hz 0 (by rw [HLN.out]; omega)).2.2.2
        have hx0 : l[0]'(by rw [HLN.out]; omega) = x := by
          have := HSP.out
          subst this
          simp [hA1]
        rw [hx0] at z3
        simp only [Nat.zero_mul, Nat.add_zero] at z3
        have hna0 : 0 < na := by omega
        go_wp2_with fail
        go_meet
        case rel => exact ⟨by rw [hA1]; rfl, rfl⟩
      have q2 : ((na : Int) == 1) = false := by simp; omega
      have hA2 : lone A = false := by
        have := HNA.out
        match A, this with
        | [], h => simp at h; omega
        | [x], h => simp at h; omega
        | _ :: _ :: _, _ => rfl
      go_wp2_with fail
      go_meet
      case rel => exact ⟨by rw [hA2], rfl⟩
    case rest =>
      obtain ⟨rfl, rfl⟩ := hcut
      cases hlo : lone A
      case true =>
        have hr := HR2.out
        rw [hlo, if_pos rfl] at hr
        subst hr
        go_wp2
        refine bodyPost_ret (v := .tuple #[.int .i64 0, .int .i64 0]) (by simp [results, Tryz.results37, go_sem]) rfl ⟨rfl, H3.out, KX3.out⟩
      obtain ⟨k, hkq, hk1, hk2, hscan⟩ := HK.out.at_comp (HA.out) (HQ.out) hlo
      rw [hlo, if_neg (by simp)] at HR2
      rw [hkq] at HO3
      have y0 := cell_of HB3.out (i := 0) rfl
      have y1 := cell_of HO3.out (i := 1) rfl
      have hxl := lt_of_block HB3.out
      have hol := lt_of_block HO3.out
      cases hdn : d.down
      case true =>
        have hr := HR2.out
        rw [if_pos hdn] at hr
        subst hr
        go_wp2_with fail
        refine (packed_down H3.out hdn k).mono ?_
        rintro e w4 ⟨rfl, n4⟩
        have N4 := Lib.hid n4
        clear n4
        go_wp2
        refine bodyPost_ret (v := .tuple #[.int .i64 0, .int .i64 15]) (by simp [results, Tryz.results37, go_sem]) rfl ⟨rfl, (H3.out.nw N4.out).nw ((Nw.refl _).alloc _), KX3.out.trans (N4.out.trans ((Nw.refl _).alloc _)).kept⟩
      rw [hdn, if_neg (by simp)] at HR2
      obtain ⟨gd, hsc⟩ := hscan hdn
      have CP := Lib.hid (packed_up H3.out hsc HOK.out (by rw [HL.out, HLN.out]; omega) hk1 hk2 (by omega))
      clear hsc hscan
      go_wp2_with fail
      refine CP.out.mono ?_
      rintro e w4 ⟨v4, rfl, b4, n4, f4⟩
      obtain ⟨xa, xc, rfl, -, -, -⟩ := b4.elems
      obtain ⟨bs, hbs⟩ : ∃ x, packB 0 (all.take k) = x := ⟨_, rfl⟩
      rw [hbs] at b4 f4 ⊢
      have HBS := Lib.hid hbs
      have N4 := Lib.hid n4
      have V4 := Lib.hid b4
      have F4 := Lib.hid f4
      clear n4 b4 f4 hbs CP
      go_upto_region 12 with fail
      generalize hw5 : w4.alloc (.cells #[.slice xa bs.length xc] 35 (0, 0)) = w5
      obtain ⟨pb, hpb⟩ : ∃ x, w4.heap.size = x := ⟨_, rfl⟩
      rw [hpb]
      have n5 : Nw w4 w5 := by rw [← hw5]; exact (Nw.refl w4).alloc _
      have N45 := Lib.hid n5
      have HB5 : Hid (w5.heap[pb]? = some (.cells #[.slice xa bs.length xc] 35 (0, 0))) := Lib.hid (by rw [← hw5, ← hpb]; exact heap_alloc_new w4 _)
      have N5 := Lib.hid (N4.out.trans n5)
      have HL5 := Lib.hid (H3.out.nw N5.out)
      have HS5 : Hid (∀ W, Nw w5 W → W.cell? ⟨xb, 0, none⟩ = some (.pointer (some ⟨p, 0, none⟩)) ∧ W.cell? ⟨po, 1, none⟩ = some (.int .i64 k) ∧ xb < W.heap.size ∧ po < W.heap.size) := Lib.hid (fun W hW => ⟨hW.cell (N5.out.cell y0), hW.cell (N5.out.cell y1), Nat.lt_of_lt_of_le hxl (N5.out.trans hW).size, Nat.lt_of_lt_of_le hol (N5.out.trans hW).size⟩)
      have DK : Hid (∀ W, Nw w5 W → Calls Tryz.prog 30 #[.pointer (some ⟨p, 0, none⟩)] W fun e w' => e = .returned (.pointer (some ⟨b, 0, none⟩)) ∧ W = w') := Lib.hid (fun W hW => LDisk_ok (HL5.out.nw hW))
      have IT : Hid (∀ W, Nw w5 W → Calls Tryz.prog 93 #[.int .i64 k] W fun e w' => e = .returned (.string ⟨(Lib.decDigits k).toArray⟩) ∧ Nw W w') := Lib.hid (fun W hW => Itoa_ok k (by omega) (HT.out.nw (HL5.out.base.trans hW)))
      have y0' := y0
      clear y0 y1 hw5 n5 hxl hol
      have hdl : (Lib.decDigits k).length ≤ 20 := by rw [Lib.decDigits_length]; exact Lib.nDigits_le20 k (by omega)
      refine r12 HS5 hdl DK IT (fun x59 x60 x61 x62 x63 x64 pd pn w6 n6 hp1 hp2 b9 b10 => ?_)
      have N6 := Lib.hid (N5.out.trans n6)
      have hpb6 : w6.heap[pb]? = some (.cells #[.slice xa bs.length xc] 35 (0, 0)) := n6.at_ HB5.out
      have hsz5 : pb < w5.heap.size := lt_of_block HB5.out
      obtain ⟨a1, a2, a3, a4⟩ := HS5.out _ n6
      have M6 : Hid (w6.cell? ⟨xb, 0, none⟩ = some (bx p) ∧ w6.cell? ⟨po, 1, none⟩ = some (.int .i64 k) ∧ w6.cell? ⟨pd, 0, none⟩ = some (bx b) ∧ w6.cell? ⟨pn, 0, none⟩ = some (.string ⟨(dName k).toArray⟩) ∧ w6.cell? ⟨pb, 0, none⟩ = some (.slice xa bs.length xc) ∧ Bs w6 (.slice xa bs.length xc) bs) :=
        Lib.hid ⟨a1, a2, cell_of b9 (i := 0) rfl, cell_of b10 (i := 0) rfl, cell_of hpb6 (i := 0) rfl, (V4.out.nw N45.out).nw n6⟩
      have hszw : w.heap.size ≤ xb ∧ w.heap.size ≤ po ∧ w.heap.size ≤ pb ∧ w.heap.size ≤ w5.heap.size := by
        have h1 := (N3.out.trans N4.out).size
        have h2 := (N3.out.trans N5.out).size
        omega
      have hlt6 : xb < w6.heap.size ∧ po < w6.heap.size ∧ pd < w6.heap.size ∧ pn < w6.heap.size ∧ pb < w6.heap.size := ⟨a3, a4, lt_of_block b9, lt_of_block b10, lt_of_block hpb6⟩
      have F6 : Hid (∀ g, (Value.slice xa bs.length xc).ownBlock = some g → w.heap.size ≤ g) := Lib.hid (fun g hg => Nat.le_trans N3.out.size (F4.out g hg))
      have hw36 := Lib.hid (N3.out.trans N6.out)
      have PG6 : Hid (g < w6.heap.size ∧ ∀ j (hj : j < l.length), w6.cell? ⟨g, o + j * 4, none⟩ = some (.string ⟨l[j].name.toArray⟩) ∧ w6.cell? ⟨g, o + j * 4 + 1, none⟩ = some (.int .i64 l[j].first) ∧ w6.cell? ⟨g, o + j * 4 + 2, none⟩ = some (.int .i64 l[j].count) ∧ w6.cell? ⟨g, o + j * 4 + 3, none⟩ = some (.bool l[j].dense)) := Lib.hid ⟨Nat.lt_of_lt_of_le PG3.out.1 N6.out.size, fun j hj => by
        obtain ⟨z0, z1, z2, z3⟩ := PG3.out.2 j hj
        exact ⟨N6.out.cell z0, N6.out.cell z1, N6.out.cell z2, N6.out.cell z3⟩⟩
      have hrun : runSt A.length (actsD k bs A) d L = R := by rw [← HBS.out, ← comp_run hov HA.out HQ.out hlo hdn hkq]; exact HR2.out
      have HRUN := Lib.hid hrun
      have HXB := Lib.hid hszw
      have HLT := Lib.hid hlt6
      have HP12 := Lib.hid (And.intro hp1 hp2)
      have NML : Hid (∀ j (hj : j < A.length) (hj' : j < l.length), l[j] = A[j]) := Lib.hid (fun j hj hj' => by
        have := HSP.out
        subst this
        rw [List.getElem_append_left hj])
      clear a1 a2 a3 a4 hpb6 hsz5 n6 b9 b10 hp1 hp2 hszw hlt6 hrun HS5 DK IT N4 V4 F4 HB5 N5 HL5 y0' HB3 HO3 PG3 H3 KX3 HR HR2 hdl
      obtain ⟨i0, hi, hz0, hz1, hz2⟩ := info_parts infoFn
      have HI := Lib.hid hi
      have HZ0 := Lib.hid hz0
      have HZ1 := Lib.hid hz1
      have HZ2 := Lib.hid hz2
      clear hi hz0 hz1 hz2
      have hv6 := vec_lit w6 80 1 4 ((compF xb po pd pn pb []).map fnV) _ (0, 0) rfl (by simp [compF]) (by decide) (by omega)
      have V6 := Lib.hid hv6
      have hn6 : Nw w6 (w6.alloc (.cells ((compF xb po pd pn pb []).map fnV).toArray 80 (0, 0))) := (Nw.refl w6).alloc _
      have NA6 := Lib.hid hn6
      clear hv6 hn6
      go_wp2_with fail
      go_loopw [11, 72] (fun vd vi wr => ∃ (j : Nat) (ps : List Nat), j ≤ na ∧ vi = .int .i64 j ∧ ps.length = j ∧ Vec 1 wr vd (4 + j) ((compF xb po pd pn pb ps).map fnV) ∧ Nw w6 wr ∧ (∀ i (h : i < ps.length) (h' : i < A.length), wr.cell? ⟨ps[i], 0, none⟩ = some (.string ⟨A[i].name.toArray⟩)) ∧
        (∀ i (h : i < ps.length), w6.heap.size ≤ ps[i] ∧ vd.ownBlock ≠ some ps[i]) ∧ ∀ g, vd.ownBlock = some g → w6.heap.size ≤ g) (fun _ vi _ => na - (intOf vi).toNat)
      case atStart => exact ⟨0, [], by omega, rfl, rfl, V6.out, NA6.out, (fun i h => by simp at h), (fun i h => by simp at h), fun g hg => by cases hg; exact Nat.le_refl _⟩
      case round =>
        obtain ⟨j, ps, hj, rfl, hpl, hv, hw, hc, hb, hg⟩ := hrel
        obtain ⟨da, dc, rfl, -⟩ := hv.len
        have VV := Lib.hid hv
        have NW := Lib.hid hw
        have HC := Lib.hid hc
        have HB := Lib.hid hb
        have HG := Lib.hid hg
        have HPL := Lib.hid hpl
        clear hv hw hc hb hg hpl V6 NA6
        by_cases hlt : j < na
        case pos =>
          have hjl : j < l.length := by rw [HLN.out]; omega
          have hjA : j < A.length := by rw [HNA.out]; omega
          obtain ⟨hg3, hz⟩ := PG6.out
          obtain ⟨z0, z1, z2, z3⟩ := hz j hjl
          rw [NML.out j hjA hjl] at z0 z1 z2 z3
          have c0 := NW.out.cell z0
          have c1 := NW.out.cell z1
          have c2 := NW.out.cell z2
          have c3 := NW.out.cell z3
          have hg4 := Nat.lt_of_lt_of_le hg3 NW.out.size
          obtain ⟨q', hq'⟩ : ∃ x, A[j] = x := ⟨_, rfl⟩
          rw [hq'] at c0 c1 c2 c3
          have HQ' := Lib.hid hq'
          clear hz hjl z0 z1 z2 z3 hg3 hq'
          obtain ⟨B, hBB⟩ : ∃ x, wr.heap.size = x := ⟨_, rfl⟩
          go_upto_region 17 with fail
          generalize hw7 : wr.alloc (.cells #[.string ⟨q'.name.toArray⟩, .int .i64 q'.first, .int .i64 q'.count, .bool q'.dense] 32 (0, 0)) = w7
          have n7 : Nw wr w7 := by rw [← hw7]; exact (Nw.refl wr).alloc _
          have b7 : w7.heap[B]? = some (.cells #[.string ⟨q'.name.toArray⟩, .int .i64 q'.first, .int .i64 q'.count, .bool q'.dense] 32 (0, 0)) := by rw [← hw7, ← hBB]; exact heap_alloc_new wr _
          have hB7 : B < w7.heap.size := lt_of_block b7
          have hBw : w6.heap.size ≤ B := by rw [← hBB]; exact NW.out.size
          have X7 : Hid ((Value.slice da (4 + j) dc).ownBlock ≠ some B) := Lib.hid (fun h => by have := VV.out.lt B h; omega)
          have N7 := Lib.hid (NW.out.trans n7)
          have N17 := Lib.hid n7
          have V7 := Lib.hid ((VV.out.nw n7).nw ((Nw.refl w7).alloc (.cells #[fnV (99, #[bx pd, bx B])] 80 (0, 0))))
          have S7 := Lib.hid (src_lit w7 80 (0, 0) 1 1 1 [fnV (99, #[bx pd, bx B])] rfl (by omega) (by decide))
          have C7 : Hid (w7.cell? ⟨B, 0, none⟩ = some (.string ⟨q'.name.toArray⟩)) := Lib.hid (cell_of b7 (i := 0) rfl)
          have M7 : Hid (Nw w7 (w7.alloc (.cells #[fnV (99, #[bx pd, bx B])] 80 (0, 0)))) := Lib.hid ((Nw.refl w7).alloc _)
          have HBB := Lib.hid (And.intro hB7 hBw)
          clear hw7 n7 b7 hBB hg4 c0 c1 c2 c3 hB7 hBw
          go_wp2_with (at_builtin; refine wpList_append_vec rfl _ _ 135 rfl 80 i0 .nilFunc 1 8 Tryz.underlying135 HI.out HZ0.out HZ1.out HZ2.out rfl (by decide) rfl rfl V7.out S7.out ?c1 ?c2 ?c3 ?_)
          case c1 => intro u hu; rw [List.mem_singleton] at hu; subst hu; rfl
          case c2 => unfold maxLen; omega
          case c3 => omega
          intro v8 w8 q5 q6 q7
          obtain ⟨ta, tc, rfl, -⟩ := q5.len
          have N8 : Hid (Nw w6 w8) := Lib.hid ((N7.out.trans M7.out).trans' q6 (fun k hk hc => by have := HG.out k hc; omega))
          have G8 : Hid (∀ i, i < wr.heap.size → (Value.slice ta (4 + j + 1) tc).ownBlock = some i → (Value.slice da (4 + j) dc).ownBlock = some i) := Lib.hid (fun i hi h => by
            rcases q7 with h' | h'
            · rw [← h']; exact h
            · have := h' i h; have h2 := N17.out.size; omega)
          have K8 : Hid (∀ i, (Value.slice da (4 + j) dc).ownBlock ≠ some i → i < w7.heap.size → w8.heap[i]? = w7.heap[i]?) := Lib.hid (fun i hi hl => by
            rw [q6.block i (Nat.lt_of_lt_of_le hl M7.out.size) hi]; exact M7.out.block i hl (fun h => h))
          have F8 : Hid (∀ g, (Value.slice ta (4 + j + 1) tc).ownBlock = some g → w6.heap.size ≤ g) := Lib.hid (fun g hg => by
            rcases q7 with h' | h'
            · exact HG.out g (by rw [← h']; exact hg)
            · exact Nat.le_trans (Nat.le_succ_of_le N7.out.size) (h' g hg))
          have O8 : Hid ((Value.slice ta (4 + j + 1) tc).ownBlock ≠ some B) := Lib.hid (fun h => by
            rcases q7 with h' | h'
            · exact X7.out (by rw [← h']; exact h)
            · have := h' B h; have h2 := M7.out.size; have := HBB.out.1; omega)
          have V8 : Hid (Vec 1 w8 (.slice ta (4 + j + 1) tc) (4 + j + 1) ((compF xb po pd pn pb (ps ++ [B])).map fnV)) := Lib.hid (by rw [compF_snoc]; exact q5)
          clear q5 q6 q7 V7 S7 VV
          go_wp2_with fail
          go_roundw
          case rel =>
            refine ⟨j + 1, ps ++ [B], by omega, by go_num, by rw [List.length_append, HPL.out]; rfl, V8.out, N8.out, fun i h h' => ?_, fun i h => ?_, F8.out⟩
            · rw [List.length_append, HPL.out, List.length_singleton] at h
              by_cases hij : i < j
              · rw [List.getElem_append_left (by rw [HPL.out]; exact hij)]
                have h1 := HC.out i (by rw [HPL.out]; exact hij) h'
                have h2 := (HB.out i (by rw [HPL.out]; exact hij)).2
                have h3 : ps[i]'(by rw [HPL.out]; exact hij) < wr.heap.size := World.block_lt_of_cell? _ _ h1
                rw [World.cell?_of_block (w := w7) (K8.out _ h2 (Nat.lt_of_lt_of_le h3 N17.out.size))]
                exact N17.out.cell h1
              · obtain rfl : i = j := by omega
                rw [List.getElem_append_right (by rw [HPL.out]; exact Nat.le_refl _)]
                simp only [HPL.out, Nat.sub_self, List.getElem_cons_zero]
                rw [World.cell?_of_block (w := w7) (K8.out B X7.out HBB.out.1), C7.out, HQ'.out]
            · rw [List.length_append, HPL.out, List.length_singleton] at h
              by_cases hij : i < j
              · rw [List.getElem_append_left (by rw [HPL.out]; exact hij)]
                have h2 := HB.out i (by rw [HPL.out]; exact hij)
                have h1 := HC.out i (by rw [HPL.out]; exact hij) (by rw [HNA.out]; omega)
                have h3 : ps[i]'(by rw [HPL.out]; exact hij) < wr.heap.size := World.block_lt_of_cell? _ _ h1
                exact ⟨h2.1, fun hc => h2.2 (G8.out _ h3 hc)⟩
              · obtain rfl : i = j := by omega
                rw [List.getElem_append_right (by rw [HPL.out]; exact Nat.le_refl _)]
                simp only [HPL.out, Nat.sub_self, List.getElem_cons_zero]
                exact ⟨HBB.out.2, O8.out⟩
          case measure => simp [intOf]; omega
        case neg =>
          obtain rfl : j = na := by omega
          obtain ⟨X', hX'⟩ : ∃ X' : Nat → Prop, X' = fun k => X k ∨ w.heap.size ≤ k ∧ k < wr.heap.size := ⟨_, rfl⟩
          have nw : Nw w wr := hw36.out.trans NW.out
          have HL' : Hid (HasL X' w0 wr p b d L) := Lib.hid (H0.out.grow nw (fun k hk => hk.elim) (fun k hk => by rw [hX'] at hk; exact hk))
          have hsz := NW.out.size
          have hxb := HXB.out
          have hlt := HLT.out
          have hp12 := HP12.out
          obtain ⟨m1, m2, m3, m4, m5, m6⟩ := M6.out
          have inX : ∀ k, w.heap.size ≤ k → k < wr.heap.size → X' k := fun k h1 h2 => by rw [hX']; exact .inr ⟨h1, h2⟩
          have hb6 := m6.nw NW.out
          have hbne : bs ≠ [] := by rw [← HBS.out]; unfold packB sealB packIn denseS; simp
          have CM : Hid (CompM X' wr p b xb po pd pn pb k bs xa xc ps A) := Lib.hid ⟨NW.out.cell m1, NW.out.cell m2, NW.out.cell m3, NW.out.cell m4, NW.out.cell m5, hb6, by rw [HPL.out, HNA.out], HC.out,
            ⟨inX _ hxb.1 (by omega), inX _ hxb.2.1 (by omega), inX _ (by omega) (by omega), inX _ (by omega) (by omega), inX _ hxb.2.2.1 (by omega)⟩,
            fun i hi => inX _ (Nat.le_trans hw36.out.size (HB.out i hi).1) (World.block_lt_of_cell? _ _ (HC.out i hi (by rw [HNA.out, ← HPL.out]; exact hi))),
            fun g hg => inX _ (F6.out g hg) (by
              rcases hb6 with ⟨_, -, h⟩ | ⟨g', o', c', hv, -, -, h, -⟩
              · exact absurd h hbne
              · injection hv with e1 e2 e3
                subst e1
                cases hg
                exact h)⟩
          obtain ⟨-, ⟨-, hz⟩ | ⟨g', o', c', hv, -, -, hg', -, -, hcs⟩⟩ := VV.out
          · omega
          injection hv with e1 e2 e3
          subst e1 e3
          have CS := comp_steps (cap := dc) HL'.out CM.out (inX g' (Nat.le_trans hw36.out.size (HG.out g' rfl)) hg') (fun i hi => by
            have := hcs i (by rw [List.length_map]; exact hi)
            rw [List.getElem_map] at this
            exact this) (by rw [HNA.out]; omega) (by omega) (by
              rw [← HBS.out]
              have h1 := packB_len (l := all.take k) (by rw [List.length_take]; omega)
              have h2 : (all.take k).length ≤ 100000 := by rw [List.length_take]; omega
              omega) (fun x hx => (HPO.out x (by rw [HL.out, HSP.out]; simp [hx])).name) HRUN.out
          rw [compF_len, HPL.out] at CS
          have CS := Lib.hid CS
          have W2 : Hid (Nw w wr) := Lib.hid nw
          have HX' : Hid (∀ k, X k → X' k) := Lib.hid (fun k hk => by rw [hX']; exact .inl hk)
          clear hX' nw inX hb6 m1 m2 m3 m4 m5 m6 hcs hg'
          go_wp2_with fail
          refine CS.out.mono ?_
          rintro e W ⟨x, rfl, h1, h2, h3, h4, h5⟩
          have L9 : Hid (HasL X w0 W p b R.d R.L ∧ Kept X w W) := Lib.hid ⟨h1.less HX'.out, W2.out.kept.trans (h2.weak HX'.out)⟩
          have E9 := Lib.hid (And.intro h3 (And.intro h4 h5))
          clear h1 h2 h3 h4 h5
          by_cases hx : x = 0
          · have q1 : (x != 0) = false := by simp [hx]
            go_wp2_with fail
            refine bodyPost_ret (v := .tuple #[.int .i64 j, .int .i64 0]) (by simp [results, Tryz.results37, go_sem]) rfl ⟨?_, L9.out⟩
            have := E9.out.2.1 hx
            rw [this, HNA.out, ← E9.out.1, hx]
          · have q1 : (x != 0) = true := by simpa using hx
            go_wp2_with fail
            refine bodyPost_ret (v := .tuple #[.int .i64 0, .int .i64 x]) (by simp [results, Tryz.results37, go_sem]) rfl ⟨?_, L9.out⟩
            have := E9.out.2.2 hx
            rw [this, ← E9.out.1]
            rfl
end
end Go.Proofs.YtjapijndljknnaaGreatDoor
