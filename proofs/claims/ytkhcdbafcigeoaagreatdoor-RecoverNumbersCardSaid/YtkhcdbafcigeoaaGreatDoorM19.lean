/-
  Texts merged by a program of this claim's: ReadE, Ref05L.
-/
import Derived.Test.YtkhcdbafcigeoaaGreatDoorM18
import Derived.Test.YtkhcdbafcigeoaaGreatDoorM11
import Derived.Test.YtkhcdbafcigeoaaGreatDoorM14
namespace Go.Proofs.YtkhcdbafcigeoaaGreatDoor
open Go Go.RowKit Go.Sort
set_option maxRecDepth 100000
set_option maxHeartbeats 1600000

theorem pcV_cells {w : World} {p : Nat} {q : Pc} {t : TypeId} (hb : w.heap[p]? = some (.cells (pcV q).toArray t (0, 0))) :
    w.cell? ⟨p, 0, none⟩ = some (.string ⟨q.name.toArray⟩) ∧ w.cell? ⟨p, 1, none⟩ = some (.int .i64 q.first) ∧ w.cell? ⟨p, 2, none⟩ = some (.int .i64 q.count) ∧ w.cell? ⟨p, 3, none⟩ = some (.bool q.dense) ∧ ∀ i, w.frozen? ⟨p, i, none⟩ = false := by
  simp [World.cell?, World.frozen?, hb, pcV]
theorem heap_setP {w1 : World} {p : Nat} {a0 b0 c0 d0 : Value} {t : TypeId} (h : w1.heap[p]? = some (.cells #[a0, b0, c0, d0] t (0, 0))) (a b c d : Value) :
    ((((w1.setCell ⟨p, 0, none⟩ a).setCell ⟨p, 1, none⟩ b).setCell ⟨p, 2, none⟩ c).setCell ⟨p, 3, none⟩ d).heap[p]? = some (.cells #[a, b, c, d] t (0, 0)) :=
  heap_setCell_at (heap_setCell_at (heap_setCell_at (heap_setCell_at h 0 a) 1 b) 2 c) 3 d
theorem only_setP (w1 : World) (p : Nat) (a b c d : Value) : Only (fun k => k = p) w1 ((((w1.setCell ⟨p, 0, none⟩ a).setCell ⟨p, 1, none⟩ b).setCell ⟨p, 2, none⟩ c).setCell ⟨p, 3, none⟩ d) := by
  refine Only.setCell (S := fun k => k = p) (p := ⟨p, 3, none⟩) ?_ (fun _ => rfl) d
  refine Only.setCell (S := fun k => k = p) (p := ⟨p, 2, none⟩) ?_ (fun _ => rfl) c
  refine Only.setCell (S := fun k => k = p) (p := ⟨p, 1, none⟩) ?_ (fun _ => rfl) b
  exact Only.setCell (S := fun k => k = p) (p := ⟨p, 0, none⟩) (Only.refl w1) (fun _ => rfl) a
theorem setP_zero {w w1 : World} (hb : w1.heap[w.heap.size]? = some (.cells #[.string ⟨#[]⟩, .int .i64 0, .int .i64 0, .bool false] 39 (0, 0))) (hn : Nw w w1) (q : Pc) {W : World}
    (hW : W = ((((w1.setCell ⟨w.heap.size, 0, none⟩ (.string ⟨q.name.toArray⟩)).setCell ⟨w.heap.size, 1, none⟩ (.int .i64 q.first)).setCell ⟨w.heap.size, 2, none⟩ (.int .i64 q.count)).setCell ⟨w.heap.size, 3, none⟩ (.bool q.dense))) :
    Nw w W ∧ W.cell? ⟨w.heap.size, 0, none⟩ = some (.string ⟨q.name.toArray⟩) ∧ W.cell? ⟨w.heap.size, 1, none⟩ = some (.int .i64 q.first) ∧ W.cell? ⟨w.heap.size, 2, none⟩ = some (.int .i64 q.count) ∧ W.cell? ⟨w.heap.size, 3, none⟩ = some (.bool q.dense) := by
  have h1 := heap_setP hb (.string ⟨q.name.toArray⟩) (.int .i64 q.first) (.int .i64 q.count) (.bool q.dense)
  have h2 := only_setP w1 w.heap.size (.string ⟨q.name.toArray⟩) (.int .i64 q.first) (.int .i64 q.count) (.bool q.dense)
  rw [← hW] at h1 h2
  obtain ⟨a, b, c, d, -⟩ := pcV_cells (q := q) h1
  exact ⟨hn.trans' h2 (fun k hk hc => by omega), a, b, c, d⟩
def pcR (r : Option (Pc × Int)) : Value := match r with
  | none => .tuple #[.agg (pcV Pc.zero).toArray, .int .i64 0, .bool false]
  | some (p, x) => .tuple #[.agg (pcV p).toArray, .int .i64 x, .bool true]
theorem piece_ok {w : World} {v : Value} {l : List UInt8} (hv : Bs w v l) (hl : l.length ≤ 90000000) (at_ : Int) (ha : in64 at_) {r : Option (Pc × Int)} (hr : pieceR l at_ = r) :
    Calls Tryz.prog 69 #[v, .int .i64 at_] w fun z w' => z = .returned (pcR r) ∧ Nw w w' := by
  obtain ⟨a, cap, rfl, h1, h2, hel⟩ := hv.elems
  have HE := Lib.hid hel
  have HV := Lib.hid hv
  have hzb := heap_alloc_new w (.cells (pcV Pc.zero).toArray 39 (0, 0))
  have hn0 := (Nw.refl w).alloc (.cells (pcV Pc.zero).toArray 39 (0, 0))
  obtain ⟨⟨nm, x1, e1⟩, hb⟩ : ∃ y, getB l at_ 40 = y := ⟨_, rfl⟩
  have HB := Lib.hid (GetBlob_ok (hv.nw hn0) (by omega) at_ 40 ha ⟨by omega, by omega⟩ hb)
  have hbf : e1 = 0 → 0 ≤ x1 ∧ x1 ≤ l.length := fun h0 => by
    unfold getB at hb
    split at hb
    · rename_i hx; cases hb; exact absurd h0 hx
    · rename_i h1
      have := getU_fine (b := l) (at_ := at_) (by rcases Decidable.em ((getU l at_).2.2 = 0) with h | h; exact h; exact absurd h h1)
      split at hb
      · cases hb; cases h0
      · split at hb
        · cases hb; cases h0
        · cases hb; omega
  unfold pieceR at hr
  rw [hb] at hr
  simp only at hr
  have HZB := Lib.hid hzb
  have N0 := Lib.hid hn0
  obtain ⟨z0, z1, z2, z3, zf⟩ := pcV_cells (q := Pc.zero) hzb
  have zf0 := zf 0
  have zf1 := zf 1
  have zf2 := zf 2
  have zf3 := zf 3
  clear hv h1 h2 hel hb hzb hn0 zf
  unfold pcV Pc.zero at HB N0 HZB z0 z1 z2 z3 zf0 zf1 zf2 zf3
  by_cases c1 : e1 = 0
  case neg =>
    have q1 : (e1 != 0) = true := by simpa using c1
    rw [if_pos c1] at hr
    subst hr
    go_enter Tryz.func69, Tryz.ntmps69
    go_wp2_with fail
    refine HB.out.mono ?_
    rintro z w1 ⟨v1, rfl, VB, n1⟩
    have B1 := Lib.hid (n1.at_ HZB.out)
    obtain ⟨y0, y1, y2, y3, yf⟩ := pcV_cells (q := ⟨[], 0, 0, false⟩) B1.out
    have yf0 := yf 0
    have yf1 := yf 1
    have yf2 := yf 2
    have yf3 := yf 3
    have hyl := lt_of_block B1.out
    have N1 := Lib.hid (N0.out.trans n1)
    clear n1 yf z0 z1 z2 z3 zf0 zf1 zf2 zf3
    clear VB
    go_wp2
    obtain ⟨N9, r0, r1, r2, r3⟩ := setP_zero B1.out N1.out ⟨[], 0, 0, false⟩ rfl
    refine bodyPost_ret (v := .tuple #[.agg #[.string ⟨#[]⟩, .int .i64 0, .int .i64 0, .bool false], .int .i64 0, .bool false]) (by simp [results, Tryz.results69, go_sem, r0, r1, r2, r3]) rfl ⟨rfl, N9⟩
  subst c1
  obtain ⟨g0, g1⟩ := hbf rfl
  rw [if_neg (by simp)] at hr
  obtain ⟨⟨f1, x2, e2⟩, hu⟩ : ∃ y, getU l x1 = y := ⟨_, rfl⟩
  have hf2 := getU_fine (b := l) (at_ := x1)
  rw [hu] at hr hf2
  simp only at hr hf2
  clear hbf
  by_cases c2 : e2 = 0
  case neg =>
    have q1 : (e2 != 0) = true := by simpa using c2
    rw [if_pos (.inl c2)] at hr
    subst hr
    go_enter Tryz.func69, Tryz.ntmps69
    go_wp2_with fail
    refine HB.out.mono ?_
    rintro z w1 ⟨v1, rfl, VB, n1⟩
    have B1 := Lib.hid (n1.at_ HZB.out)
    obtain ⟨y0, y1, y2, y3, yf⟩ := pcV_cells (q := ⟨[], 0, 0, false⟩) B1.out
    have yf0 := yf 0
    have yf1 := yf 1
    have yf2 := yf 2
    have yf3 := yf 3
    have hyl := lt_of_block B1.out
    have N1 := Lib.hid (N0.out.trans n1)
    clear n1 yf z0 z1 z2 z3 zf0 zf1 zf2 zf3
    have HU1 := Lib.hid (GetUint_ok (HV.out.nw N1.out) x1 ⟨by omega, by omega⟩ hu)
    go_wp2_with fail
    refine HU1.out.mono ?_
    rintro z w' ⟨rfl, rfl⟩
    clear VB HU1
    go_wp2
    obtain ⟨N9, r0, r1, r2, r3⟩ := setP_zero B1.out N1.out ⟨[], 0, 0, false⟩ rfl
    refine bodyPost_ret (v := .tuple #[.agg #[.string ⟨#[]⟩, .int .i64 0, .int .i64 0, .bool false], .int .i64 0, .bool false]) (by simp [results, Tryz.results69, go_sem, r0, r1, r2, r3]) rfl ⟨rfl, N9⟩
  subst c2
  obtain ⟨-, g2, g3, g4⟩ := hf2 rfl
  clear hf2
  by_cases c3 : 4611686018427387904 < f1
  · have q1 : decide ((4611686018427387904 : Int) < (f1 : Int)) = true := by simp; omega
    rw [if_pos (.inr c3)] at hr
    subst hr
    go_enter Tryz.func69, Tryz.ntmps69
    go_wp2_with fail
    refine HB.out.mono ?_
    rintro z w1 ⟨v1, rfl, VB, n1⟩
    have B1 := Lib.hid (n1.at_ HZB.out)
    obtain ⟨y0, y1, y2, y3, yf⟩ := pcV_cells (q := ⟨[], 0, 0, false⟩) B1.out
    have yf0 := yf 0
    have yf1 := yf 1
    have yf2 := yf 2
    have yf3 := yf 3
    have hyl := lt_of_block B1.out
    have N1 := Lib.hid (N0.out.trans n1)
    clear n1 yf z0 z1 z2 z3 zf0 zf1 zf2 zf3
    have HU1 := Lib.hid (GetUint_ok (HV.out.nw N1.out) x1 ⟨by omega, by omega⟩ hu)
    go_wp2_with fail
    refine HU1.out.mono ?_
    rintro z w' ⟨rfl, rfl⟩
    clear VB HU1
    go_wp2
    obtain ⟨N9, r0, r1, r2, r3⟩ := setP_zero B1.out N1.out ⟨[], 0, 0, false⟩ rfl
    refine bodyPost_ret (v := .tuple #[.agg #[.string ⟨#[]⟩, .int .i64 0, .int .i64 0, .bool false], .int .i64 0, .bool false]) (by simp [results, Tryz.results69, go_sem, r0, r1, r2, r3]) rfl ⟨rfl, N9⟩
  have q1 : decide ((4611686018427387904 : Int) < (f1 : Int)) = false := by simp; omega
  rw [if_neg (by rintro (h | h); exact h rfl; exact c3 h)] at hr
  obtain ⟨k2, rfl⟩ : ∃ k : Nat, x2 = k := ⟨x2.toNat, by omega⟩
  obtain ⟨⟨n1, x3, e3⟩, hu2⟩ : ∃ y, getU l k2 = y := ⟨_, rfl⟩
  have hf3 := getU_fine (b := l) (at_ := k2)
  rw [hu2] at hr hf3
  simp only at hr hf3
  by_cases c4 : e3 = 0
  case neg =>
    have q2 : (e3 != 0) = true := by simpa using c4
    rw [if_pos (.inl c4)] at hr
    subst hr
    go_enter Tryz.func69, Tryz.ntmps69
    go_wp2_with fail
    refine HB.out.mono ?_
    rintro z w1 ⟨v1, rfl, VB, n1⟩
    have B1 := Lib.hid (n1.at_ HZB.out)
    obtain ⟨y0, y1, y2, y3, yf⟩ := pcV_cells (q := ⟨[], 0, 0, false⟩) B1.out
    have yf0 := yf 0
    have yf1 := yf 1
    have yf2 := yf 2
    have yf3 := yf 3
    have hyl := lt_of_block B1.out
    have N1 := Lib.hid (N0.out.trans n1)
    clear n1 yf z0 z1 z2 z3 zf0 zf1 zf2 zf3
    have HU1 := Lib.hid (GetUint_ok (HV.out.nw N1.out) x1 ⟨by omega, by omega⟩ hu)
    go_wp2_with fail
    refine HU1.out.mono ?_
    rintro z w' ⟨rfl, rfl⟩
    have HU2 := Lib.hid (GetUint_ok (HV.out.nw N1.out) k2 ⟨by omega, by omega⟩ hu2)
    go_wp2_with fail
    refine HU2.out.mono ?_
    rintro z w' ⟨rfl, rfl⟩
    clear VB HU1 HU2
    go_wp2
    obtain ⟨N9, r0, r1, r2, r3⟩ := setP_zero B1.out N1.out ⟨[], 0, 0, false⟩ rfl
    refine bodyPost_ret (v := .tuple #[.agg #[.string ⟨#[]⟩, .int .i64 0, .int .i64 0, .bool false], .int .i64 0, .bool false]) (by simp [results, Tryz.results69, go_sem, r0, r1, r2, r3]) rfl ⟨rfl, N9⟩
  subst c4
  obtain ⟨-, g5, g6, g7⟩ := hf3 rfl
  clear hf3
  obtain ⟨k3, rfl⟩ : ∃ k : Nat, x3 = k := ⟨x3.toNat, by omega⟩
  by_cases c5 : 4611686018427387904 < n1
  · have q2 : decide ((4611686018427387904 : Int) < (n1 : Int)) = true := by simp; omega
    rw [if_pos (.inr (.inl c5))] at hr
    subst hr
    go_enter Tryz.func69, Tryz.ntmps69
    go_wp2_with fail
    refine HB.out.mono ?_
    rintro z w1 ⟨v1, rfl, VB, n1⟩
    have B1 := Lib.hid (n1.at_ HZB.out)
    obtain ⟨y0, y1, y2, y3, yf⟩ := pcV_cells (q := ⟨[], 0, 0, false⟩) B1.out
    have yf0 := yf 0
    have yf1 := yf 1
    have yf2 := yf 2
    have yf3 := yf 3
    have hyl := lt_of_block B1.out
    have N1 := Lib.hid (N0.out.trans n1)
    clear n1 yf z0 z1 z2 z3 zf0 zf1 zf2 zf3
    have HU1 := Lib.hid (GetUint_ok (HV.out.nw N1.out) x1 ⟨by omega, by omega⟩ hu)
    go_wp2_with fail
    refine HU1.out.mono ?_
    rintro z w' ⟨rfl, rfl⟩
    have HU2 := Lib.hid (GetUint_ok (HV.out.nw N1.out) k2 ⟨by omega, by omega⟩ hu2)
    go_wp2_with fail
    refine HU2.out.mono ?_
    rintro z w' ⟨rfl, rfl⟩
    clear VB HU1 HU2
    go_wp2
    obtain ⟨N9, r0, r1, r2, r3⟩ := setP_zero B1.out N1.out ⟨[], 0, 0, false⟩ rfl
    refine bodyPost_ret (v := .tuple #[.agg #[.string ⟨#[]⟩, .int .i64 0, .int .i64 0, .bool false], .int .i64 0, .bool false]) (by simp [results, Tryz.results69, go_sem, r0, r1, r2, r3]) rfl ⟨rfl, N9⟩
  have q2 : decide ((4611686018427387904 : Int) < (n1 : Int)) = false := by simp; omega
  by_cases c6 : k3 = l.length
  · have q3 : ((k3 : Int) == (l.length : Int)) = true := by simp; omega
    rw [if_pos (.inr (.inr (.inl (by omega))))] at hr
    subst hr
    go_enter Tryz.func69, Tryz.ntmps69
    go_wp2_with fail
    refine HB.out.mono ?_
    rintro z w1 ⟨v1, rfl, VB, n1⟩
    have B1 := Lib.hid (n1.at_ HZB.out)
    obtain ⟨y0, y1, y2, y3, yf⟩ := pcV_cells (q := ⟨[], 0, 0, false⟩) B1.out
    have yf0 := yf 0
    have yf1 := yf 1
    have yf2 := yf 2
    have yf3 := yf 3
    have hyl := lt_of_block B1.out
    have N1 := Lib.hid (N0.out.trans n1)
    clear n1 yf z0 z1 z2 z3 zf0 zf1 zf2 zf3
    have HU1 := Lib.hid (GetUint_ok (HV.out.nw N1.out) x1 ⟨by omega, by omega⟩ hu)
    go_wp2_with fail
    refine HU1.out.mono ?_
    rintro z w' ⟨rfl, rfl⟩
    have HU2 := Lib.hid (GetUint_ok (HV.out.nw N1.out) k2 ⟨by omega, by omega⟩ hu2)
    go_wp2_with fail
    refine HU2.out.mono ?_
    rintro z w' ⟨rfl, rfl⟩
    clear VB HU1 HU2
    go_wp2
    obtain ⟨N9, r0, r1, r2, r3⟩ := setP_zero B1.out N1.out ⟨[], 0, 0, false⟩ rfl
    refine bodyPost_ret (v := .tuple #[.agg #[.string ⟨#[]⟩, .int .i64 0, .int .i64 0, .bool false], .int .i64 0, .bool false]) (by simp [results, Tryz.results69, go_sem, r0, r1, r2, r3]) rfl ⟨rfl, N9⟩
  have q3 : ((k3 : Int) == (l.length : Int)) = false := by simp; omega
  have hk3 : k3 < l.length := by omega
  obtain ⟨pg, po, rfl, hpg, hcell⟩ := HE.out k3 hk3
  have hcell : w.cell? ⟨pg, po + k3, none⟩ = some (.int .u8 (l[k3].toNat : Int)) := hcell
  have hget : l.getD (k3 : Int).toNat 0 = l[k3] := by simp [List.getD, hk3]
  rw [hget] at hr
  have hdd : decide ((l[k3] : UInt8) = 1) = ((l[k3].toNat : Int) == 1) := by
    rw [Bool.eq_iff_iff, decide_eq_true_iff, beq_iff_eq]
    constructor
    · intro h; rw [h]; rfl
    · intro h; exact UInt8.toNat_inj.1 (by show _ = 1; omega)
  rw [hdd] at hr
  clear hget hdd
  generalize (l[k3] : UInt8).toNat = d0 at *
  by_cases c7 : 1 < d0
  · have q4 : decide ((1 : Int) < (d0 : Int)) = true := by simp; omega
    rw [if_pos (.inr (.inr (.inr c7)))] at hr
    subst hr
    go_enter Tryz.func69, Tryz.ntmps69
    go_wp2_with fail
    refine HB.out.mono ?_
    rintro z w1 ⟨v1, rfl, VB, n1⟩
    have B1 := Lib.hid (n1.at_ HZB.out)
    obtain ⟨y0, y1, y2, y3, yf⟩ := pcV_cells (q := ⟨[], 0, 0, false⟩) B1.out
    have yf0 := yf 0
    have yf1 := yf 1
    have yf2 := yf 2
    have yf3 := yf 3
    have hyl := lt_of_block B1.out
    have N1 := Lib.hid (N0.out.trans n1)
    have hcell1 := N1.out.cell hcell
    have hpg1 := Nat.lt_of_lt_of_le hpg N1.out.size
    clear hcell hpg
    clear n1 yf z0 z1 z2 z3 zf0 zf1 zf2 zf3
    have HU1 := Lib.hid (GetUint_ok (HV.out.nw N1.out) x1 ⟨by omega, by omega⟩ hu)
    go_wp2_with fail
    refine HU1.out.mono ?_
    rintro z w' ⟨rfl, rfl⟩
    have HU2 := Lib.hid (GetUint_ok (HV.out.nw N1.out) k2 ⟨by omega, by omega⟩ hu2)
    go_wp2_with fail
    refine HU2.out.mono ?_
    rintro z w' ⟨rfl, rfl⟩
    clear VB HU1 HU2
    go_wp2
    obtain ⟨N9, r0, r1, r2, r3⟩ := setP_zero B1.out N1.out ⟨[], 0, 0, false⟩ rfl
    refine bodyPost_ret (v := .tuple #[.agg #[.string ⟨#[]⟩, .int .i64 0, .int .i64 0, .bool false], .int .i64 0, .bool false]) (by simp [results, Tryz.results69, go_sem, r0, r1, r2, r3]) rfl ⟨rfl, N9⟩
  have q4 : decide ((1 : Int) < (d0 : Int)) = false := by simp; omega
  rw [if_neg (by rintro (h | h | h | h); exact h rfl; exact c5 h; exact c6 (by omega); exact c7 h)] at hr
  subst hr
  obtain ⟨pd, hpd⟩ : ∃ x : Bool, ((d0 : Int) == 1) = x := ⟨_, rfl⟩
  rw [hpd]
  go_enter Tryz.func69, Tryz.ntmps69
  go_wp2_with fail
  refine HB.out.mono ?_
  rintro z w1 ⟨v1, rfl, VB, n1⟩
  have B1 := Lib.hid (n1.at_ HZB.out)
  obtain ⟨xa, xc, rfl, -⟩ := VB.len
  have N1 := Lib.hid (N0.out.trans n1)
  have hcell1 := N1.out.cell hcell
  have hpg1 := Nat.lt_of_lt_of_le hpg N1.out.size
  have VB1 := Lib.hid VB
  clear n1 z0 z1 z2 z3 zf0 zf1 zf2 zf3 hcell hpg VB
  have HU1 := Lib.hid (GetUint_ok (HV.out.nw N1.out) x1 ⟨by omega, by omega⟩ hu)
  go_wp2_with fail
  refine HU1.out.mono ?_
  rintro z w' ⟨rfl, rfl⟩
  have HU2 := Lib.hid (GetUint_ok (HV.out.nw N1.out) k2 ⟨by omega, by omega⟩ hu2)
  go_wp2_with fail
  refine HU2.out.mono ?_
  rintro z w' ⟨rfl, rfl⟩
  go_upto_region 10 with fail
  have kc := conv_str (VB1.out.nw ((Nw.refl w1).drew))
  have kc' := conv_str VB1.out
  have hw1 : IntKind.i64.wrap (f1 : Int) = (f1 : Int) := IntWalk.i64_in _ (by omega)
  have hw2 : IntKind.i64.wrap (n1 : Int) = (n1 : Int) := IntWalk.i64_in _ (by omega)
  have hw3 : IntKind.i64.wrap ((k3 : Int) + 1) = (k3 : Int) + 1 := IntWalk.i64_in _ (by omega)
  clear HU1 HU2
  obtain ⟨y0, y1, y2, y3, yf⟩ := pcV_cells (q := ⟨[], 0, 0, false⟩) B1.out
  have yf0 := yf 0
  have yf1 := yf 1
  have yf2 := yf 2
  have yf3 := yf 3
  have hyl := lt_of_block B1.out
  clear yf
  go_region
  obtain ⟨N8, r0, r1, r2, r3⟩ := setP_zero B1.out N1.out ⟨nm, f1, n1, pd⟩ rfl
  have N8 := Lib.hid N8.drew
  go_wp2
  refine bodyPost_ret (v := .tuple #[.agg #[.string ⟨nm.toArray⟩, .int .i64 f1, .int .i64 n1, .bool pd], .int .i64 ((k3 : Int) + 1), .bool true]) (by simp [results, Tryz.results69, go_sem, r0, r1, r2, r3]) rfl ⟨rfl, N8.out⟩
theorem pieceR_fine {b : List UInt8} {at_ : Int} {p : Pc} {x : Int} (h : pieceR b at_ = some (p, x)) : 0 ≤ at_ ∧ at_ < x ∧ x ≤ b.length ∧ p.Ok := by
  unfold pieceR at h
  split at h
  · cases h
  rename_i h1
  split at h
  · cases h
  rename_i h2
  split at h
  · cases h
  rename_i h3
  simp only [not_or, Option.some.injEq, Prod.mk.injEq] at h h2 h3
  obtain ⟨rfl, rfl⟩ := h
  have h1 : (getB b at_ 40).2.2 = 0 := by rcases Decidable.em ((getB b at_ 40).2.2 = 0) with h | h; exact h; exact absurd h h1
  have hg : (getU b at_).2.2 = 0 ∧ (getB b at_ 40).1.length ≤ 40 ∧ (getB b at_ 40).2.1 = (getU b at_).2.1 + (getU b at_).1 := by
    unfold getB at h1 ⊢
    split
    · rename_i hx; rw [if_pos hx] at h1; exact absurd h1 hx
    rename_i hx
    rw [if_neg hx] at h1
    split
    · rename_i hy; rw [if_pos hy] at h1; exact absurd h1 (by simp)
    rename_i hy
    rw [if_neg hy] at h1
    split
    · rename_i hz; rw [if_pos hz] at h1; exact absurd h1 (by simp)
    · refine ⟨by rcases Decidable.em ((getU b at_).2.2 = 0) with h | h; exact h; exact absurd h hx, ?_, rfl⟩
      simp only [List.length_take]
      omega
  have u1 := getU_fine hg.1
  have u2 := getU_fine (b := b) (at_ := (getB b at_ 40).2.1) (by rcases Decidable.em ((getU b (getB b at_ 40).2.1).2.2 = 0) with h | h; exact h; exact absurd h h2.1)
  have u3 := getU_fine (b := b) (at_ := (getU b (getB b at_ 40).2.1).2.1) (by rcases Decidable.em ((getU b (getU b (getB b at_ 40).2.1).2.1).2.2 = 0) with h | h; exact h; exact absurd h h3.1)
  have hg2 := hg.2.1
  have hg3 := hg.2.2
  refine ⟨u1.1, by omega, by have := h3.2.2.1; omega, ⟨by simp only; omega, ?_, ?_⟩⟩
  · have := h2.2
    exact ⟨by simp only; omega, by simp only; omega⟩
  · have := h3.2.1
    exact ⟨by simp only; omega, by simp only; omega⟩
def OwnP (w w' : World) (v : Value) (l : List Pc) : Prop := Vec 4 w' v l.length (l.flatMap pcV) ∧ (∀ q ∈ l, q.Ok) ∧ Nw w w' ∧ ∀ g, v.ownBlock = some g → w.heap.size ≤ g
theorem OwnP.pcs {w w' : World} {v : Value} {l : List Pc} (h : OwnP w w' v l) : Pcs w' v l := ⟨h.1.src, h.2.1⟩
theorem OwnP.nil {w w' : World} (h : Nw w w') : OwnP w w' (.slice none 0 0) [] := ⟨Vec.nil, (fun q hq => by cases hq), h, fun g hg => by cases hg⟩
theorem OwnP.nw {w w' w'' : World} {v : Value} {l : List Pc} (h : OwnP w w' v l) (hw : Nw w' w'') : OwnP w w'' v l := ⟨h.1.nw hw, h.2.1, h.2.2.1.trans hw, h.2.2.2⟩
theorem OwnP.from {w W w' : World} {v : Value} {l : List Pc} (hw : Nw w W) (h : OwnP W w' v l) : OwnP w w' v l := ⟨h.1, h.2.1, hw.trans h.2.2.1, fun g hg => Nat.le_trans hw.size (h.2.2.2 g hg)⟩

theorem pcsFrom_none {u : List UInt8} {at_ : Int} (h : pieceR u at_ = none) (m : Nat) (acc : List Pc) : pcsFrom u (m + 1) at_ acc = none := by
  unfold pcsFrom
  rw [h]
theorem pcsFrom_some {u : List UInt8} {at_ x : Int} {p : Pc} (h : pieceR u at_ = some (p, x)) (m : Nat) (acc : List Pc) : pcsFrom u (m + 1) at_ acc = pcsFrom u m x (acc ++ [p]) := by
  conv => lhs; unfold pcsFrom
  rw [h]
theorem Listed_ok {w : World} {v : Value} {l : List UInt8} (hv : Bs w v l) (hl : l.length ≤ 90000000) {r : List Pc} {e : Int} (hr : listedB l = (r, e)) :
    Calls Tryz.prog 12 #[v] w fun z w' => ∃ v', z = .returned (.tuple #[v', .int .i64 e]) ∧ OwnP w w' v' r := by
  obtain ⟨a, cap, rfl, h1, h2, hel⟩ := hv.elems
  obtain ⟨⟨u, e1⟩, hun⟩ : ∃ y, unsealB l = y := ⟨_, rfl⟩
  have HUN := Lib.hid (Unseal_ok hv hl hun)
  have hul := unsealB_len (b := l)
  unfold listedB at hr
  rw [hun] at hr hul
  simp only at hr hul
  clear hv h1 h2 hel hun
  by_cases c1 : e1 = 0
  case neg =>
    have q1 : (e1 != 0) = true := by simpa using c1
    rw [if_pos c1] at hr
    obtain ⟨rfl, rfl⟩ : [] = r ∧ e1 = e := by simpa using hr
    clear hul hr
    go_enter Tryz.func12, Tryz.ntmps12
    go_wp2_with fail
    refine HUN.out.mono ?_
    rintro z w1 ⟨v1, rfl, -, n1⟩
    have N1 := Lib.hid n1
    clear n1
    go_wp2
    refine bodyPost_ret (v := .tuple #[.slice none 0 0, .int .i64 e1]) (by simp [results, Tryz.results12, go_sem]) rfl ⟨_, rfl, OwnP.nil N1.out⟩
  subst c1
  have hul := hul rfl
  rw [if_neg (by simp)] at hr
  unfold listedIn at hr
  by_cases c2 : magicS <+: u
  case neg =>
    rw [if_pos c2] at hr
    obtain ⟨rfl, rfl⟩ : [] = r ∧ 10 = e := by simpa using hr
    have q0 : decide (magicS <+: u) = false := by simpa using c2
    clear hul hr
    go_enter Tryz.func12, Tryz.ntmps12
    go_wp2_with fail
    refine HUN.out.mono ?_
    rintro z w1 ⟨v1, rfl, b1, n1⟩
    have N1 := Lib.hid n1
    have kc := conv_str b1
    obtain ⟨xa, xc, rfl, -⟩ := b1.len
    have HP := HP_ok u magicS w1
    rw [q0] at HP
    have HP := Lib.hid HP
    clear n1 b1
    go_wp2_with fail
    refine HP.out.mono ?_
    rintro z w2 ⟨rfl, rfl⟩
    go_wp2
    refine bodyPost_ret (v := .tuple #[.slice none 0 0, .int .i64 10]) (by simp [results, Tryz.results12, go_sem]) rfl ⟨_, rfl, OwnP.nil N1.out⟩
  rw [if_neg (by simpa using c2)] at hr
  have q0 : decide (magicS <+: u) = true := by simpa using c2
  obtain ⟨⟨n0, x0, e0⟩, hu⟩ : ∃ y, getU u 4 = y := ⟨_, rfl⟩
  have hf := getU_fine (b := u) (at_ := 4)
  rw [hu] at hr hf
  simp only at hr hf
  have HGU := Lib.hid (fun (W : World) (v : Value) (hb : Bs W v u) => GetUint_ok hb 4 ⟨by omega, by omega⟩ hu)
  clear hu
  by_cases c3 : e0 = 0
  case neg =>
    have q1 : (e0 != 0) = true := by simpa using c3
    rw [if_pos c3] at hr
    obtain ⟨rfl, rfl⟩ : [] = r ∧ 10 = e := by simpa using hr
    clear hul hr hf
    go_enter Tryz.func12, Tryz.ntmps12
    go_wp2_with fail
    refine HUN.out.mono ?_
    rintro z w1 ⟨v1, rfl, b1, n1⟩
    have N1 := Lib.hid n1
    have kc := conv_str b1
    obtain ⟨xa, xc, rfl, -⟩ := b1.len
    have HP := HP_ok u magicS w1
    rw [q0] at HP
    have HP := Lib.hid HP
    have B1 := Lib.hid b1
    clear n1 b1
    go_wp2_with fail
    refine HP.out.mono ?_
    rintro z w2 ⟨rfl, rfl⟩
    go_wp2_with fail
    refine (HGU.out _ _ B1.out).mono ?_
    rintro z w2 ⟨rfl, rfl⟩
    go_wp2
    refine bodyPost_ret (v := .tuple #[.slice none 0 0, .int .i64 10]) (by simp [results, Tryz.results12, go_sem]) rfl ⟨_, rfl, OwnP.nil N1.out⟩
  subst c3
  obtain ⟨-, f1, f2, f3⟩ := hf rfl
  rw [if_neg (by simp)] at hr
  obtain ⟨E, hE⟩ : ∃ E, pcsFrom u n0 x0 [] = E := ⟨_, rfl⟩
  rw [hE] at hr
  have HE := Lib.hid hE
  have HR := Lib.hid hr
  obtain ⟨i0, hi, hz0, hz1, hz2⟩ := info_parts infoPc
  have HI := Lib.hid hi
  have HZ0 := Lib.hid hz0
  have HZ1 := Lib.hid hz1
  have HZ2 := Lib.hid hz2
  clear hi hz0 hz1 hz2 hr hE hf
  go_enter Tryz.func12, Tryz.ntmps12
  go_wp2_with fail
  refine HUN.out.mono ?_
  rintro z w1 ⟨v1, rfl, b1, n1⟩
  have N1 := Lib.hid n1
  have kc := conv_str b1
  obtain ⟨xa, xc, rfl, -⟩ := b1.len
  have HP := HP_ok u magicS w1
  rw [q0] at HP
  have HP := Lib.hid HP
  have B1 := Lib.hid b1
  clear n1 b1
  go_wp2_with fail
  refine HP.out.mono ?_
  rintro z w2 ⟨rfl, rfl⟩
  go_wp2_with fail
  refine (HGU.out _ _ B1.out).mono ?_
  rintro z w2 ⟨rfl, rfl⟩
  go_wp2
  go_loopw [6, 7, 8] (fun nv av s wr => ∃ (m cnt : Nat) (at_ : Int) (acc : List Pc), nv = .int .u64 m ∧ m ≤ n0 ∧ av = .int .i64 at_ ∧ 0 ≤ at_ ∧ at_ ≤ u.length ∧ pcsFrom u m at_ acc = E ∧ Vec 4 wr s cnt (acc.flatMap pcV) ∧ acc.length = cnt ∧ (cnt : Int) ≤ at_ ∧ (∀ q ∈ acc, q.Ok) ∧ Nw w wr ∧ Nw w1 wr ∧ ∀ g, s.ownBlock = some g → w1.heap.size ≤ g) (fun nv _ _ _ => (intOf nv).toNat)
  case atStart => exact ⟨n0, 0, x0, [], rfl, Nat.le_refl _, rfl, by omega, f2, HE.out, Vec.nil, rfl, by omega, (fun q hq => by cases hq), N1.out, Nw.refl _, fun g hg => by cases hg⟩
  case round =>
    obtain ⟨m, cnt, at_, acc, rfl, hm, rfl, ha0, ha1, hE1, hs, hcnt, hcl, hok, hw, hw1, hfr⟩ := hrel
    obtain ⟨sa, sc, rfl, -⟩ := hs.len
    have HS := Lib.hid (And.intro hs (And.intro hw hfr))
    have HE1 := Lib.hid hE1
    have HC := Lib.hid hcnt
    have HOK := Lib.hid hok
    have HW1 := Lib.hid hw1
    clear hs hw hfr hE1 hcnt hok hw1 kc HP
    by_cases hm0 : 0 < m
    · have q5 : decide ((0 : Int) < (m : Int)) = true := by simp; omega
      obtain ⟨m', rfl⟩ : ∃ m', m = m' + 1 := ⟨m - 1, by omega⟩
      have hsub : ((m' + 1 : Nat) : Int) - 1 = (m' : Int) := by omega
      cases hy : pieceR u at_ with
      | none =>
        have C := Lib.hid (piece_ok (B1.out.nw HW1.out) (by omega) at_ ⟨by omega, by omega⟩ hy)
        have rr := HE1.out
        rw [pcsFrom_none hy] at rr
        have r2 := HR.out
        rw [← rr] at r2
        obtain ⟨rfl, rfl⟩ : [] = r ∧ 10 = e := by simpa using r2
        clear rr r2 hy
        unfold pcR pcV Pc.zero at C
        go_wp2_with fail
        refine C.out.mono ?_
        rintro z w3 ⟨rfl, n3⟩
        have N3 := Lib.hid ((HS.out.2.1.trans n3).alloc (.cells #[.string ⟨#[]⟩, .int .i64 0, .int .i64 0, .bool false] 39))
        clear n3 C
        go_wp2
        refine bodyPost_ret (v := .tuple #[.slice none 0 0, .int .i64 10]) (by simp [results, Tryz.results12, go_sem]) rfl ⟨_, rfl, OwnP.nil N3.out⟩
      | some y =>
        obtain ⟨p, x⟩ := y
        have C := Lib.hid (piece_ok (B1.out.nw HW1.out) (by omega) at_ ⟨by omega, by omega⟩ hy)
        have rr := HE1.out
        rw [pcsFrom_some hy] at rr
        have HE2 := Lib.hid rr
        obtain ⟨g1, g2, g3, g4⟩ := pieceR_fine hy
        have HPK := Lib.hid g4
        clear rr hy HE1 g4
        unfold pcR pcV at C
        go_wp2_with fail
        refine C.out.mono ?_
        rintro z w3 ⟨rfl, n3⟩
        have hna := (Nw.refl w3).alloc (.cells (pcV p).toArray 39)
        have hnb := hna.alloc (.cells (pcV p).toArray 39)
        have V4 := Lib.hid ((HS.out.1.nw n3).nw hnb)
        have X4 := Lib.hid (src_lit (w3.alloc (.cells (pcV p).toArray 39)) 39 (0, 0) 4 1 1 (pcV p) rfl (by omega) (by decide))
        have N3 := Lib.hid n3
        have HNB := Lib.hid hnb
        have hs3 : (w3.alloc (.cells (pcV p).toArray 39)).heap.size = w3.heap.size + 1 := by simp
        rw [hs3] at X4
        unfold pcV at V4 X4
        clear n3 C hna hnb hs3
        go_wp2_with (at_builtin; refine wpList_append_vec rfl _ _ 22 rfl 39 i0 (.agg #[.string ⟨#[]⟩, .int .i64 0, .int .i64 0, .bool false]) 4 40 Tryz.underlying22 HI.out HZ0.out HZ1.out HZ2.out rfl (by decide) rfl rfl V4.out X4.out ?c1 ?c2 ?c3 ?_)
        case c1 => exact fun u hu => by simp only [List.mem_cons, List.not_mem_nil, or_false] at hu; rcases hu with rfl | rfl | rfl | rfl <;> rfl
        case c2 => unfold maxLen; omega
        case c3 => omega
        intro v5 w5 q5 q6 q7
        obtain ⟨ta, tc, rfl, -⟩ := q5.len
        have Q := Lib.hid (And.intro q5 (And.intro q6 q7))
        clear q5 q6 q7
        go_wp2
        go_roundw
        case rel =>
          have h0 := N1.out.size
          have hnw : Nw w w5 := ((HS.out.2.1.trans N3.out).trans HNB.out).trans' Q.out.2.1 (fun g hg hc => by have := HS.out.2.2 g hc; omega)
          have hnw1 : Nw w1 w5 := ((HW1.out.trans N3.out).trans HNB.out).trans' Q.out.2.1 (fun g hg hc => by have := HS.out.2.2 g hc; omega)
          refine ⟨m', cnt + 1, x, acc ++ [p], by go_num, by omega, rfl, by omega, g3, HE2.out, ?_, by rw [List.length_append, HC.out]; rfl, by omega, ?_, hnw, hnw1, fun g hg => ?_⟩
          · have e : ([p] : List Pc).flatMap pcV = pcV p := by simp
            rw [List.flatMap_append, e]
            exact Q.out.1
          · intro q hq
            rcases List.mem_append.1 hq with hq | hq
            · exact HOK.out q hq
            · rw [List.mem_singleton] at hq; subst hq; exact HPK.out
          · rcases Q.out.2.2 with h | h
            · exact HS.out.2.2 g (h ▸ hg)
            · have h1 := h g hg
              have h2 := ((HW1.out.trans N3.out).trans HNB.out).size
              simp only [World.size_alloc] at h2
              exact Nat.le_trans h2 h1
        case measure => simp [intOf]
    · obtain rfl : m = 0 := by omega
      have rr := HE1.out
      unfold pcsFrom at rr
      have r2 := HR.out
      rw [← rr] at r2
      simp only at r2
      have h0 := N1.out.size
      have hown : OwnP w wr (.slice sa cnt sc) acc := ⟨by rw [HC.out]; exact HS.out.1, HOK.out, HS.out.2.1, fun g hg => by have := HS.out.2.2 g hg; omega⟩
      have HOWN := Lib.hid hown
      have HRT := Lib.hid (Right_ok hown.pcs)
      clear rr hown h0
      by_cases hlt : at_ < (u.length : Int)
      · have q6 : decide (at_ < (u.length : Int)) = true := by simpa using hlt
        rw [if_pos hlt] at r2
        obtain ⟨rfl, rfl⟩ : [] = r ∧ 10 = e := by simpa using r2
        clear r2
        go_wp2
        refine bodyPost_ret (v := .tuple #[.slice none 0 0, .int .i64 10]) (by simp [results, Tryz.results12, go_sem]) rfl ⟨_, rfl, OwnP.nil HS.out.2.1⟩
      have q6 : decide (at_ < (u.length : Int)) = false := by simpa using hlt
      rw [if_neg hlt] at r2
      cases hrt : rightL acc
      case false =>
        rw [hrt] at r2 HRT
        obtain ⟨rfl, rfl⟩ : [] = r ∧ 14 = e := by simpa using r2
        clear r2
        go_wp2_with fail
        refine HRT.out.mono ?_
        rintro z w4 ⟨rfl, n4⟩
        have N4 := Lib.hid (HS.out.2.1.trans n4)
        clear n4
        go_wp2
        refine bodyPost_ret (v := .tuple #[.slice none 0 0, .int .i64 14]) (by simp [results, Tryz.results12, go_sem]) rfl ⟨_, rfl, OwnP.nil N4.out⟩
      case true =>
        rw [hrt] at r2 HRT
        obtain ⟨rfl, rfl⟩ : acc = r ∧ 0 = e := by simpa using r2
        clear r2
        go_wp2_with fail
        refine HRT.out.mono ?_
        rintro z w4 ⟨rfl, n4⟩
        have O4 := Lib.hid (HOWN.out.nw n4)
        clear n4
        go_wp2
        refine bodyPost_ret (v := .tuple #[.slice sa cnt sc, .int .i64 0]) (by simp [results, Tryz.results12, go_sem]) rfl ⟨_, rfl, O4.out⟩
end Go.Proofs.YtkhcdbafcigeoaaGreatDoor

namespace Go.Proofs.YtkhcdbafcigeoaaGreatDoor.dListed
open Go Go.RowKit Go.Sort
set_option maxRecDepth 100000
set_option maxHeartbeats 3200000
end Go.Proofs.YtkhcdbafcigeoaaGreatDoor.dListed
