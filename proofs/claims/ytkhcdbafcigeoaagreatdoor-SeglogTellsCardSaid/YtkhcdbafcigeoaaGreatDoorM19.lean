/-
  Texts merged by a program of this claim's: ReadE, Ref05L.
-/
import Derived.Test.YtkhcdbafcigeoaaGreatDoorM18
import Derived.Test.YtkhcdbafcigeoaaGreatDoorM11
import Derived.Test.YtkhcdbafcigeoaaGreatDoorM14
/-
  Package seglog, walked: piece, Listed: what reads manifests.
-/
namespace Go.Proofs.YtkhcdbafcigeoaaGreatDoor
open Go Go.RowKit Go.Sort
set_option maxRecDepth 100000
set_option maxHeartbeats 1600000

theorem pcV_cells {w : World} {p : Nat} {q : Pc} {t : TypeId} (hb : w.heap[p]? = some (.cells (pcV q).toArray t (0, 0))) :
    w.cell? ⟨p, 0, none⟩ = some (.string ⟨q.name.toArray⟩) ∧ w.cell? ⟨p, 1, none⟩ = some (.int .i64 q.first) ∧ w.cell? ⟨p, 2, none⟩ = some (.int .i64 q.count) ∧ w.cell? ⟨p, 3, none⟩ = some (.bool q.dense) ∧ ∀ i, w.frozen? ⟨p, i, none⟩ = false := by
  simp [World.cell?, World.frozen?, hb, pcV]
theorem heap_setP {w1 : World} {p : Nat} {a0 b0 c0 d0 : Value} {t : TypeId} (h : w1.heap[p]? = some (.cells #[a0, b0, c0, d0] t (0, 0))) (a b c d : Value) :
    ((((w1.setCell ⟨p, 0, none⟩ a).setCell ⟨p, 1, none⟩ b).setCell ⟨p, 2, none⟩ c).setCell ⟨p, 3, none⟩ d).heap[p]? = some (.cells #[a, b, c, d] t (0, 0)) :=
  heap_setCell_at (heap_setCell_at (heap_setCell_at (heap_setCell_at h 0 a) 1 b) 2 c) 3 d
theorem only_setP (w1 : World) (p : Nat) (a b c d : Value) : Only (fun k => k = p) w1 ((((w1.setCell ⟨p, 0, none⟩ a).setCell ⟨p, 1, none⟩ b).setCell ⟨p, 2, none⟩ c).setCell ⟨p, 3, none⟩ d) := by
  refine Only.setCell (S := fun k => k = p) (p := ⟨p, 3, none⟩) ?_ (fun _ => rfl) d
  refine Only.setCell (S := fun k => k = p) (p := ⟨p, 2, none⟩) ?_ (fun _ => rfl) c
  refine Only.setCell (S := fun k => k = p) (p := ⟨p, 1, none⟩) ?_ (fun _ => rfl) b
  exact Only.setCell (S := fun k => k = p) (p := ⟨p, 0, none⟩) (Only.refl w1) (fun _ => rfl) a
/-- A piece is laid into what is answered. -/
theorem setP_zero {w w1 : World} (hb : w1.heap[w.heap.size]? = some (.cells #[.string ⟨#[]⟩, .int .i64 0, .int .i64 0, .bool false] 39 (0, 0))) (hn : Nw w w1) (q : Pc) {W : World}
    (hW : W = ((((w1.setCell ⟨w.heap.size, 0, none⟩ (.string ⟨q.name.toArray⟩)).setCell ⟨w.heap.size, 1, none⟩ (.int .i64 q.first)).setCell ⟨w.heap.size, 2, none⟩ (.int .i64 q.count)).setCell ⟨w.heap.size, 3, none⟩ (.bool q.dense))) :
    Nw w W ∧ W.cell? ⟨w.heap.size, 0, none⟩ = some (.string ⟨q.name.toArray⟩) ∧ W.cell? ⟨w.heap.size, 1, none⟩ = some (.int .i64 q.first) ∧ W.cell? ⟨w.heap.size, 2, none⟩ = some (.int .i64 q.count) ∧ W.cell? ⟨w.heap.size, 3, none⟩ = some (.bool q.dense) := by
  have h1 := heap_setP hb (.string ⟨q.name.toArray⟩) (.int .i64 q.first) (.int .i64 q.count) (.bool q.dense)
  have h2 := only_setP w1 w.heap.size (.string ⟨q.name.toArray⟩) (.int .i64 q.first) (.int .i64 q.count) (.bool q.dense)
  rw [← hW] at h1 h2
  obtain ⟨a, b, c, d, -⟩ := pcV_cells (q := q) h1
  exact ⟨hn.trans' h2 (fun k hk hc => by omega), a, b, c, d⟩
def pcR (r : Option (Pc × Int)) : Value := match r with
  | none => .tuple #[.agg (pcV Pc.zero).toArray, .int .i64 0, .bool false]
  | some (p, x) => .tuple #[.agg (pcV p).toArray, .int .i64 x, .bool true]
theorem piece_ok {w : World} {v : Value} {l : List UInt8} (hv : Bs w v l) (hl : l.length ≤ 90000000) (at_ : Int) (ha : in64 at_) {r : Option (Pc × Int)} (hr : pieceR l at_ = r) :
    Calls Tryz.prog 69 #[v, .int .i64 at_] w fun z w' => z = .returned (pcR r) ∧ Nw w w' := by
  obtain ⟨a, cap, rfl, h1, h2, hel⟩ := hv.elems
  have HE := Lib.hid hel
  have HV := Lib.hid hv
  have hzb := heap_alloc_new w (.cells (pcV Pc.zero).toArray 39 (0, 0))
  have hn0 := (Nw.refl w).alloc (.cells (pcV Pc.zero).toArray 39 (0, 0))
  obtain ⟨⟨nm, x1, e1⟩, hb⟩ : ∃ y, getB l at_ 40 = y := ⟨_, rfl⟩
  have HB := Lib.hid (GetBlob_ok (hv.nw hn0) (by omega) at_ 40 ha ⟨by omega, by omega⟩ hb)
  have hbf : e1 = 0 → 0 ≤ x1 ∧ x1 ≤ l.length := fun h0 => by
    unfold getB at hb
    split at hb
    · rename_i hx; cases hb; exact absurd h0 hx
    · rename_i h1
      have := getU_fine (b := l) (at_ := at_) (by rcases Decidable.em ((getU l at_).2.2 = 0) with h | h; exact h; exact absurd h h1)
      split at hb
      · cases hb; cases h0
      · split at hb
        · cases hb; cases h0
        · cases hb; omega
  unfold pieceR at hr
  rw [hb] at hr
  simp only at hr
  have HZB := Lib.hid hzb
  have N0 := Lib.hid hn0
  obtain ⟨z0, z1, z2, z3, zf⟩ := pcV_cells (q := Pc.zero) hzb
  have zf0 := zf 0
  have zf1 := zf 1
  have zf2 := zf 2
  have zf3 := zf 3
  clear hv h1 h2 hel hb hzb hn0 zf
  unfold pcV Pc.zero at HB N0 HZB z0 z1 z2 z3 zf0 zf1 zf2 zf3
  by_cases c1 : e1 = 0
  case neg =>
    have q1 : (e1 != 0) = true := by simpa using c1
    rw [if_pos c1] at hr
    subst hr
    go_enter Tryz.func69, Tryz.ntmps69
    go_wp2_with fail
    refine HB.out.mono ?_
    rintro z w1 ⟨v1, rfl, VB, n1⟩
    have B1 := Lib.hid (n1.at_ HZB.out)
    obtain ⟨y0, y1, y2, y3, yf⟩ := pcV_cells (q := ⟨[], 0, 0, false⟩) B1.out
    have yf0 := yf 0
    have yf1 := yf 1
    have yf2 := yf 2
    have yf3 := yf 3
    have hyl := lt_of_block B1.out
    have N1 := Lib.hid (N0.out.trans n1)
    clear n1 yf z0 z1 z2 z3 zf0 zf1 zf2 zf3
    clear VB
    go_wp2
    obtain ⟨N9, r0, r1, r2, r3⟩ := setP_zero B1.out N1.out ⟨[], 0, 0, false⟩ rfl
    refine bodyPost_ret (v := .tuple #[.agg #[.string ⟨#[]⟩, .int .i64 0, .int .i64 0, .bool false], .int .i64 0, .bool false]) (by simp [results, Tryz.results69, go_sem, r0, r1, r2, r3]) rfl ⟨rfl, N9⟩
  subst c1
  obtain ⟨g0, g1⟩ := hbf rfl
  rw [if_neg (by simp)] at hr
  obtain ⟨⟨f1, x2, e2⟩, hu⟩ : ∃ y, getU l x1 = y := ⟨_, rfl⟩
  have hf2 := getU_fine (b := l) (at_ := x1)
  rw [hu] at hr hf2
  simp only at hr hf2
  clear hbf
  by_cases c2 : e2 = 0
  case neg =>
    have q1 : (e2 != 0) = true := by simpa using c2
    rw [if_pos (.inl c2)] at hr
    subst hr
    go_enter Tryz.func69, Tryz.ntmps69
    go_wp2_with fail
    refine HB.out.mono ?_
    rintro z w1 ⟨v1, rfl, VB, n1⟩
    have B1 := Lib.hid (n1.at_ HZB.out)
    obtain ⟨y0, y1, y2, y3, yf⟩ := pcV_cells (q := ⟨[], 0, 0, false⟩) B1.out
    have yf0 := yf 0
    have yf1 := yf 1
    have yf2 := yf 2
    have yf3 := yf 3
    have hyl := lt_of_block B1.out
    have N1 := Lib.hid (N0.out.trans n1)
    clear n1 yf z0 z1 z2 z3 zf0 zf1 zf2 zf3
    have HU1 := Lib.hid (GetUint_ok (HV.out.nw N1.out) x1 ⟨by omega, by omega⟩ hu)
    go_wp2_with fail
    refine HU1.out.mono ?_
    rintro z w' ⟨rfl, rfl⟩
    clear VB HU1
    go_wp2
    obtain ⟨N9, r0, r1, r2, r3⟩ := setP_zero B1.out N1.out ⟨[], 0, 0, false⟩ rfl
    refine bodyPost_ret (v := .tuple #[.agg #[.string ⟨#[]⟩, .int .i64 0, .int .i64 0, .bool false], .int .i64 0, .bool false]) (by simp [results, Tryz.results69, go_sem, r0, r1, r2, r3]) rfl ⟨rfl, N9⟩
  subst c2
  obtain ⟨-, g2, g3, g4⟩ := hf2 rfl
  clear hf2
  by_cases c3 : 4611686018427387904 < f1
  · have q1 : decide ((4611686018427387904 : Int) < (f1 : Int)) = true := by simp; omega
    rw [if_pos (.inr c3)] at hr
    subst hr
    go_enter Tryz.func69, Tryz.ntmps69
    go_wp2_with fail
    refine HB.out.mono ?_
    rintro z w1 ⟨v1, rfl, VB, n1⟩
    have B1 := Lib.hid (n1.at_ HZB.out)
    obtain ⟨y0, y1, y2, y3, yf⟩ := pcV_cells (q := ⟨[], 0, 0, false⟩) B1.out
    have yf0 := yf 0
    have yf1 := yf 1
    have yf2 := yf 2
    have yf3 := yf 3
    have hyl := lt_of_block B1.out
    have N1 := Lib.hid (N0.out.trans n1)
    clear n1 yf z0 z1 z2 z3 zf0 zf1 zf2 zf3
    have HU1 := Lib.hid (GetUint_ok (HV.out.nw N1.out) x1 ⟨by omega, by omega⟩ hu)
    go_wp2_with fail
    refine HU1.out.mono ?_
    rintro z w' ⟨rfl, rfl⟩
    clear VB HU1
    go_wp2
    obtain ⟨N9, r0, r1, r2, r3⟩ := setP_zero B1.out N1.out ⟨[], 0, 0, false⟩ rfl
    refine bodyPost_ret (v := .tuple #[.agg #[.string ⟨#[]⟩, .int .i64 0, .int .i64 0, .bool false], .int .i64 0, .bool false]) (by simp [results, Tryz.results69, go_sem, r0, r1, r2, r3]) rfl ⟨rfl, N9⟩
  have q1 : decide ((4611686018427387904 : Int) < (f1 : Int)) = false := by simp; omega
  rw [if_neg (by rintro (h | h); exact h rfl; exact c3 h)] at hr
  obtain ⟨k2, rfl⟩ : ∃ k : Nat, x2 = k := ⟨x2.toNat, by omega⟩
  obtain ⟨⟨n1, x3, e3⟩, hu2⟩ : ∃ y, getU l k2 = y := ⟨_, rfl⟩
  have hf3 := getU_fine (b := l) (at_ := k2)
  rw [hu2] at hr hf3
  simp only at hr hf3
  by_cases c4 : e3 = 0
  case neg =>
    have q2 : (e3 != 0) = true := by simpa using c4
    rw [if_pos (.inl c4)] at hr
    subst hr
    go_enter Tryz.func69, Tryz.ntmps69
    go_wp2_with fail
    refine HB.out.mono ?_
    rintro z w1 ⟨v1, rfl, VB, n1⟩
    have B1 := Lib.hid (n1.at_ HZB.out)
    obtain ⟨y0, y1, y2, y3, yf⟩ := pcV_cells (q := ⟨[], 0, 0, false⟩) B1.out
    have yf0 := yf 0
    have yf1 := yf 1
    have yf2 := yf 2
    have yf3 := yf 3
    have hyl := lt_of_block B1.out
    have N1 := Lib.hid (N0.out.trans n1)
    clear n1 yf z0 z1 z2 z3 zf0 zf1 zf2 zf3
    have HU1 := Lib.hid (GetUint_ok (HV.out.nw N1.out) x1 ⟨by omega, by omega⟩ hu)
    go_wp2_with fail
    refine HU1.out.mono ?_
    rintro z w' ⟨rfl, rfl⟩
    have HU2 := Lib.hid (GetUint_ok (HV.out.nw N1.out) k2 ⟨by omega, by omega⟩ hu2)
    go_wp2_with fail
    refine HU2.out.mono ?_
    rintro z w' ⟨rfl, rfl⟩
    clear VB HU1 HU2
    go_wp2
    obtain ⟨N9, r0, r1, r2, r3⟩ := setP_zero B1.out N1.out ⟨[], 0, 0, false⟩ rfl
    refine bodyPost_ret (v := .tuple #[.agg #[.string ⟨#[]⟩, .int .i64 0, .int .i64 0, .bool false], .int .i64 0, .bool false]) (by simp [results, Tryz.results69, go_sem, r0, r1, r2, r3]) rfl ⟨rfl, N9⟩
  subst c4
  obtain ⟨-, g5, g6, g7⟩ := hf3 rfl
  clear hf3
  obtain ⟨k3, rfl⟩ : ∃ k : Nat, x3 = k := ⟨x3.toNat, by omega⟩
  by_cases c5 : 4611686018427387904 < n1
  · have q2 : decide ((4611686018427387904 : Int) < (n1 : Int)) = true := by simp; omega
    rw [if_pos (.inr (.inl c5))] at hr
    subst hr
    go_enter Tryz.func69, Tryz.ntmps69
    go_wp2_with fail
    refine HB.out.mono ?_
    rintro z w1 ⟨v1, rfl, VB, n1⟩
    have B1 := Lib.hid (n1.at_ HZB.out)
    obtain ⟨y0, y1, y2, y3, yf⟩ := pcV_cells (q := ⟨[], 0, 0, false⟩) B1.out
    have yf0 := yf 0
    have yf1 := yf 1
    have yf2 := yf 2
    have yf3 := yf 3
    have hyl := lt_of_block B1.out
    have N1 := Lib.hid (N0.out.trans n1)
    clear n1 yf z0 z1 z2 z3 zf0 zf1 zf2 zf3
    have HU1 := Lib.hid (GetUint_ok (HV.out.nw N1.out) x1 ⟨by omega, by omega⟩ hu)
    go_wp2_with fail
    refine HU1.out.mono ?_
    rintro z w' ⟨rfl, rfl⟩
    have HU2 := Lib.hid (GetUint_ok (HV.out.nw N1.out) k2 ⟨by omega, by omega⟩ hu2)
    go_wp2_with fail
    refine HU2.out.mono ?_
    rintro z w' ⟨rfl, rfl⟩
    clear VB HU1 HU2
    go_wp2
    obtain ⟨N9, r0, r1, r2, r3⟩ := setP_zero B1.out N1.out ⟨[], 0, 0, false⟩ rfl
    refine bodyPost_ret (v := .tuple #[.agg #[.string ⟨#[]⟩, .int .i64 0, .int .i64 0, .bool false], .int .i64 0, .bool false]) (by simp [results, Tryz.results69, go_sem, r0, r1, r2, r3]) rfl ⟨rfl, N9⟩
  have q2 : decide ((4611686018427387904 : Int) < (n1 : Int)) = false := by simp; omega
  by_cases c6 : k3 = l.length
  · have q3 : ((k3 : Int) == (l.length : Int)) = true := by simp; omega
    rw [if_pos (.inr (.inr (.inl (by omega))))] at hr
    subst hr
    go_enter Tryz.func69, Tryz.ntmps69
    go_wp2_with fail
    refine HB.out.mono ?_
    rintro z w1 ⟨v1, rfl, VB, n1⟩
    have B1 := Lib.hid (n1.at_ HZB.out)
    obtain ⟨y0, y1, y2, y3, yf⟩ := pcV_cells (q := ⟨[], 0, 0, false⟩) B1.out
    have yf0 := yf 0
    have yf1 := yf 1
    have yf2 := yf 2
    have yf3 := yf 3
    have hyl := lt_of_block B1.out
    have N1 := Lib.hid (N0.out.trans n1)
    clear n1 yf z0 z1 z2 z3 zf0 zf1 zf2 zf3
    have HU1 := Lib.hid (GetUint_ok (HV.out.nw N1.out) x1 ⟨by omega, by omega⟩ hu)
    go_wp2_with fail
    refine HU1.out.mono ?_
    rintro z w' ⟨rfl, rfl⟩
    have HU2 := Lib.hid (GetUint_ok (HV.out.nw N1.out) k2 ⟨by omega, by omega⟩ hu2)
    go_wp2_with fail
    refine HU2.out.mono ?_
    rintro z w' ⟨rfl, rfl⟩
    clear VB HU1 HU2
    go_wp2
    obtain ⟨N9, r0, r1, r2, r3⟩ := setP_zero B1.out N1.out ⟨[], 0, 0, false⟩ rfl
    refine bodyPost_ret (v := .tuple #[.agg #[.string ⟨#[]⟩, .int .i64 0, .int .i64 0, .bool false], .int .i64 0, .bool false]) (by simp [results, Tryz.results69, go_sem, r0, r1, r2, r3]) rfl ⟨rfl, N9⟩
  have q3 : ((k3 : Int) == (l.length : Int)) = false := by simp; omega
  have hk3 : k3 < l.length := by omega
  obtain ⟨pg, po, rfl, hpg, hcell⟩ := HE.out k3 hk3
  have hcell : w.cell? ⟨pg, po + k3, none⟩ = some (.int .u8 (l[k3].toNat : Int)) := hcell
  have hget : l.getD (k3 : Int).toNat 0 = l[k3] := by simp [List.getD, hk3]
  rw [hget] at hr
  have hdd : decide ((l[k3] : UInt8) = 1) = ((l[k3].toNat : Int) == 1) := by
    rw [Bool.eq_iff_iff, decide_eq_true_iff, beq_iff_eq]
    constructor
    · intro h; rw [h]; rfl
    · intro h; exact UInt8.toNat_inj.1 (by show _ = 1; omega)
  rw [hdd] at hr
  clear hget hdd
  generalize (l[k3] : UInt8).toNat = d0 at *
  by_cases c7 : 1 < d0
  · have q4 : decide ((1 : Int) < (d0 : Int)) = true := by simp; omega
    rw [if_pos (.inr (.inr (.inr c7)))] at hr
    subst hr
    go_enter Tryz.func69, Tryz.ntmps69
    go_wp2_with fail
    refine HB.out.mono ?_
    rintro z w1 ⟨v1, rfl, VB, n1⟩
    have B1 := Lib.hid (n1.at_ HZB.out)
    obtain ⟨y0, y1, y2, y3, yf⟩ := pcV_cells (q := ⟨[], 0, 0, false⟩) B1.out
    have yf0 := yf 0
    have yf1 := yf 1
    have yf2 := yf 2
    have yf3 := yf 3
    have hyl := lt_of_block B1.out
    have N1 := Lib.hid (N0.out.trans n1)
    have hcell1 := N1.out.cell hcell
    have hpg1 := Nat.lt_of_lt_of_le hpg N1.out.size
    clear hcell hpg
    clear n1 yf z0 z1 z2 z3 zf0 zf1 zf2 zf3
    have HU1 := Lib.hid (GetUint_ok (HV.out.nw N1.out) x1 ⟨by omega, by omega⟩ hu)
    go_wp2_with fail
    refine HU1.out.mono ?_
    rintro z w' ⟨rfl, rfl⟩
    have HU2 := Lib.hid (GetUint_ok (HV.out.nw N1.out) k2 ⟨by omega, by omega⟩ hu2)
    go_wp2_with fail
    refine HU2.out.mono ?_
    rintro z w' ⟨rfl, rfl⟩
    clear VB HU1 HU2
    go_wp2
    obtain ⟨N9, r0, r1, r2, r3⟩ := setP_zero B1.out N1.out ⟨[], 0, 0, false⟩ rfl
    refine bodyPost_ret (v := .tuple #[.agg #[.string ⟨#[]⟩, .int .i64 0, .int .i64 0, .bool false], .int .i64 0, .bool false]) (by simp [results, Tryz.results69, go_sem, r0, r1, r2, r3]) rfl ⟨rfl, N9⟩
  have q4 : decide ((1 : Int) < (d0 : Int)) = false := by simp; omega
  rw [if_neg (by rintro (h | h | h | h); exact h rfl; exact c5 h; exact c6 (by omega); exact c7 h)] at hr
  subst hr
  obtain ⟨pd, hpd⟩ : ∃ x : Bool, ((d0 : Int) == 1) = x := ⟨_, rfl⟩
  rw [hpd]
  go_enter Tryz.func69, Tryz.ntmps69
  go_wp2_with fail
  refine HB.out.mono ?_
  rintro z w1 ⟨v1, rfl, VB, n1⟩
  have B1 := Lib.hid (n1.at_ HZB.out)
  obtain ⟨xa, xc, rfl, -⟩ := VB.len
  have N1 := Lib.hid (N0.out.trans n1)
  have hcell1 := N1.out.cell hcell
  have hpg1 := Nat.lt_of_lt_of_le hpg N1.out.size
  have VB1 := Lib.hid VB
  clear n1 z0 z1 z2 z3 zf0 zf1 zf2 zf3 hcell hpg VB
  have HU1 := Lib.hid (GetUint_ok (HV.out.nw N1.out) x1 ⟨by omega, by omega⟩ hu)
  go_wp2_with fail
  refine HU1.out.mono ?_
  rintro z w' ⟨rfl, rfl⟩
  have HU2 := Lib.hid (GetUint_ok (HV.out.nw N1.out) k2 ⟨by omega, by omega⟩ hu2)
  go_wp2_with fail
  refine HU2.out.mono ?_
  rintro z w' ⟨rfl, rfl⟩
  go_upto_region 10 with fail
  have kc := conv_str (VB1.out.nw ((Nw.refl w1).drew))
  have kc' := conv_str VB1.out
  have hw1 : IntKind.i64.wrap (f1 : Int) = (f1 : Int) := IntWalk.i64_in _ (by omega)
  have hw2 : IntKind.i64.wrap (n1 : Int) = (n1 : Int) := IntWalk.i64_in _ (by omega)
  have hw3 : IntKind.i64.wrap ((k3 : Int) + 1) = (k3 : Int) + 1 := IntWalk.i64_in _ (by omega)
  clear HU1 HU2
  obtain ⟨y0, y1, y2, y3, yf⟩ := pcV_cells (q := ⟨[], 0, 0, false⟩) B1.out
  have yf0 := yf 0
  have yf1 := yf 1
  have yf2 := yf 2
  have yf3 := yf 3
  have hyl := lt_of_block B1.out
  clear yf
  go_region
  obtain ⟨N8, r0, r1, r2, r3⟩ := setP_zero B1.out N1.out ⟨nm, f1, n1, pd⟩ rfl
  have N8 := Lib.hid N8.drew
  go_wp2
  refine bodyPost_ret (v := .tuple #[.agg #[.string ⟨nm.toArray⟩, .int .i64 f1, .int .i64 n1, .bool pd], .int .i64 ((k3 : Int) + 1), .bool true]) (by simp [results, Tryz.results69, go_sem, r0, r1, r2, r3]) rfl ⟨rfl, N8.out⟩
theorem pieceR_fine {b : List UInt8} {at_ : Int} {p : Pc} {x : Int} (h : pieceR b at_ = some (p, x)) : 0 ≤ at_ ∧ at_ < x ∧ x ≤ b.length ∧ p.Ok := by
  unfold pieceR at h
  split at h
  · cases h
  rename_i h1
  split at h
  · cases h
  rename_i h2
  split at h
  · cases h
  rename_i h3
  simp only [not_or, Option.some.injEq, Prod.mk.injEq] at h h2 h3
  obtain ⟨rfl, rfl⟩ := h
  have h1 : (getB b at_ 40).2.2 = 0 := by rcases Decidable.em ((getB b at_ 40).2.2 = 0) with h | h; exact h; exact absurd h h1
  have hg : (getU b at_).2.2 = 0 ∧ (getB b at_ 40).1.length ≤ 40 ∧ (getB b at_ 40).2.1 = (getU b at_).2.1 + (getU b at_).1 := by
    unfold getB at h1 ⊢
    split
    · rename_i hx; rw [if_pos hx] at h1; exact absurd h1 hx
    rename_i hx
    rw [if_neg hx] at h1
    split
    · rename_i hy; rw [if_pos hy] at h1; exact absurd h1 (by simp)
    rename_i hy
    rw [if_neg hy] at h1
    split
    · rename_i hz; rw [if_pos hz] at h1; exact absurd h1 (by simp)
    · refine ⟨by rcases Decidable.em ((getU b at_).2.2 = 0) with h | h; exact h; exact absurd h hx, ?_, rfl⟩
      simp only [List.length_take]
      omega
  have u1 := getU_fine hg.1
  have u2 := getU_fine (b := b) (at_ := (getB b at_ 40).2.1) (by rcases Decidable.em ((getU b (getB b at_ 40).2.1).2.2 = 0) with h | h; exact h; exact absurd h h2.1)
  have u3 := getU_fine (b := b) (at_ := (getU b (getB b at_ 40).2.1).2.1) (by rcases Decidable.em ((getU b (getU b (getB b at_ 40).2.1).2.1).2.2 = 0) with h | h; exact h; exact absurd h h3.1)
  have hg2 := hg.2.1
  have hg3 := hg.2.2
  refine ⟨u1.1, by omega, by have := h3.2.2.1; omega, ⟨by simp only; omega, ?_, ?_⟩⟩
  · have := h2.2
    exact ⟨by simp only; omega, by simp only; omega⟩
  · have := h3.2.1
    exact ⟨by simp only; omega, by simp only; omega⟩
/-- Pieces of one's own, made behind w. -/
def OwnP (w w' : World) (v : Value) (l : List Pc) : Prop := Vec 4 w' v l.length (l.flatMap pcV) ∧ (∀ q ∈ l, q.Ok) ∧ Nw w w' ∧ ∀ g, v.ownBlock = some g → w.heap.size ≤ g
theorem OwnP.pcs {w w' : World} {v : Value} {l : List Pc} (h : OwnP w w' v l) : Pcs w' v l := ⟨h.1.src, h.2.1⟩
theorem OwnP.nil {w w' : World} (h : Nw w w') : OwnP w w' (.slice none 0 0) [] := ⟨Vec.nil, (fun q hq => by cases hq), h, fun g hg => by cases hg⟩
theorem OwnP.nw {w w' w'' : World} {v : Value} {l : List Pc} (h : OwnP w w' v l) (hw : Nw w' w'') : OwnP w w'' v l := ⟨h.1.nw hw, h.2.1, h.2.2.1.trans hw, h.2.2.2⟩
theorem OwnP.from {w W w' : World} {v : Value} {l : List Pc} (hw : Nw w W) (h : OwnP W w' v l) : OwnP w w' v l := ⟨h.1, h.2.1, hw.trans h.2.2.1, fun g hg => Nat.le_trans hw.size (h.2.2.2 g hg)⟩

theorem pcsFrom_none {u : List UInt8} {at_ : Int} (h : pieceR u at_ = none) (m : Nat) (acc : List Pc) : pcsFrom u (m + 1) at_ acc = none := by
  unfold pcsFrom
  rw [h]
theorem pcsFrom_some {u : List UInt8} {at_ x : Int} {p : Pc} (h : pieceR u at_ = some (p, x)) (m : Nat) (acc : List Pc) : pcsFrom u (m + 1) at_ acc = pcsFrom u m x (acc ++ [p]) := by
  conv => lhs; unfold pcsFrom
  rw [h]
theorem Listed_ok {w : World} {v : Value} {l : List UInt8} (hv : Bs w v l) (hl : l.length ≤ 90000000) {r : List Pc} {e : Int} (hr : listedB l = (r, e)) :
    Calls Tryz.prog 12 #[v] w fun z w' => ∃ v', z = .returned (.tuple #[v', .int .i64 e]) ∧ OwnP w w' v' r := by
  obtain ⟨a, cap, rfl, h1, h2, hel⟩ := hv.elems
  obtain ⟨⟨u, e1⟩, hun⟩ : ∃ y, unsealB l = y := ⟨_, rfl⟩
  have HUN := Lib.hid (Unseal_ok hv hl hun)
  have hul := unsealB_len (b := l)
  unfold listedB at hr
  rw [hun] at hr hul
  simp only at hr hul
  clear hv h1 h2 hel hun
  by_cases c1 : e1 = 0
  case neg =>
    have q1 : (e1 != 0) = true := by simpa using c1
    rw [if_pos c1] at hr
    obtain ⟨rfl, rfl⟩ : [] = r ∧ e1 = e := by simpa using hr
    clear hul hr
    go_enter Tryz.func12, Tryz.ntmps12
    go_wp2_with fail
    refine HUN.out.mono ?_
    rintro z w1 ⟨v1, rfl, -, n1⟩
    have N1 := Lib.hid n1
    clear n1
    go_wp2
    refine bodyPost_ret (v := .tuple #[.slice none 0 0, .int .i64 e1]) (by simp [results, Tryz.results12, go_sem]) rfl ⟨_, rfl, OwnP.nil N1.out⟩
  subst c1
  have hul := hul rfl
  rw [if_neg (by simp)] at hr
  unfold listedIn at hr
  by_cases c2 : magicS <+: u
  case neg =>
    rw [if_pos c2] at hr
    obtain ⟨rfl, rfl⟩ : [] = r ∧ 10 = e := by simpa using hr
    have q0 : decide (magicS <+: u) = false := by simpa using c2
    clear hul hr
    go_enter Tryz.func12, Tryz.ntmps12
    go_wp2_with fail
    refine HUN.out.mono ?_
    rintro z w1 ⟨v1, rfl, b1, n1⟩
    have N1 := Lib.hid n1
    have kc := conv_str b1
    obtain ⟨xa, xc, rfl, -⟩ := b1.len
    have HP := HP_ok u magicS w1
    rw [q0] at HP
    have HP := Lib.hid HP
    clear n1 b1
    go_wp2_with fail
    refine HP.out.mono ?_
    rintro z w2 ⟨rfl, rfl⟩
    go_wp2
    refine bodyPost_ret (v := .tuple #[.slice none 0 0, .int .i64 10]) (by simp [results, Tryz.results12, go_sem]) rfl ⟨_, rfl, OwnP.nil N1.out⟩
  rw [if_neg (by simpa using c2)] at hr
  have q0 : decide (magicS <+: u) = true := by simpa using c2
  obtain ⟨⟨n0, x0, e0⟩, hu⟩ : ∃ y, getU u 4 = y := ⟨_, rfl⟩
  have hf := getU_fine (b := u) (at_ := 4)
  rw [hu] at hr hf
  simp only at hr hf
  have HGU := Lib.hid (fun (W : World) (v : Value) (hb : Bs W v u) => GetUint_ok hb 4 ⟨by omega, by omega⟩ hu)
  clear hu
  by_cases c3 : e0 = 0
  case neg =>
    have q1 : (e0 != 0) = true := by simpa using c3
    rw [if_pos c3] at hr
    obtain ⟨rfl, rfl⟩ : [] = r ∧ 10 = e := by simpa using hr
    clear hul hr hf
    go_enter Tryz.func12, Tryz.ntmps12
    go_wp2_with fail
    refine HUN.out.mono ?_
    rintro z w1 ⟨v1, rfl, b1, n1⟩
    have N1 := Lib.hid n1
    have kc := conv_str b1
    obtain ⟨xa, xc, rfl, -⟩ := b1.len
    have HP := HP_ok u magicS w1
    rw [q0] at HP
    have HP := Lib.hid HP
    have B1 := Lib.hid b1
    clear n1 b1
    go_wp2_with fail
    refine HP.out.mono ?_
    rintro z w2 ⟨rfl, rfl⟩
    go_wp2_with fail
    refine (HGU.out _ _ B1.out).mono ?_
    rintro z w2 ⟨rfl, rfl⟩
    go_wp2
    refine bodyPost_ret (v := .tuple #[.slice none 0 0, .int .i64 10]) (by simp [results, Tryz.results12, go_sem]) rfl ⟨_, rfl, OwnP.nil N1.out⟩
  subst c3
  obtain ⟨-, f1, f2, f3⟩ := hf rfl
  rw [if_neg (by simp)] at hr
  obtain ⟨E, hE⟩ : ∃ E, pcsFrom u n0 x0 [] = E := ⟨_, rfl⟩
  rw [hE] at hr
  have HE := Lib.hid hE
  have HR := Lib.hid hr
  obtain ⟨i0, hi, hz0, hz1, hz2⟩ := info_parts infoPc
  have HI := Lib.hid hi
  have HZ0 := Lib.hid hz0
  have HZ1 := Lib.hid hz1
  have HZ2 := Lib.hid hz2
  clear hi hz0 hz1 hz2 hr hE hf
  go_enter Tryz.func12, Tryz.ntmps12
  go_wp2_with fail
  refine HUN.out.mono ?_
  rintro z w1 ⟨v1, rfl, b1, n1⟩
  have N1 := Lib.hid n1
  have kc := conv_str b1
  obtain ⟨xa, xc, rfl, -⟩ := b1.len
  have HP := HP_ok u magicS w1
  rw [q0] at HP
  have HP := Lib.hid HP
  have B1 := Lib.hid b1
  clear n1 b1
  go_wp2_with fail
  refine HP.out.mono ?_
  rintro z w2 ⟨rfl, rfl⟩
  go_wp2_with fail
  refine (HGU.out _ _ B1.out).mono ?_
  rintro z w2 ⟨rfl, rfl⟩
  go_wp2
  go_loopw [6, 7, 8] (fun nv av s wr => ∃ (m cnt : Nat) (at_ : Int) (acc : List Pc), nv = .int .u64 m ∧ m ≤ n0 ∧ av = .int .i64 at_ ∧ 0 ≤ at_ ∧ at_ ≤ u.length ∧ pcsFrom u m at_ acc = E ∧ Vec 4 wr s cnt (acc.flatMap pcV) ∧ acc.length = cnt ∧ (cnt : Int) ≤ at_ ∧ (∀ q ∈ acc, q.Ok) ∧ Nw w wr ∧ Nw w1 wr ∧ ∀ g, s.ownBlock = some g → w1.heap.size ≤ g) (fun nv _ _ _ => (intOf nv).toNat)
  case atStart => exact ⟨n0, 0, x0, [], rfl, Nat.le_refl _, rfl, by omega, f2, HE.out, Vec.nil, rfl, by omega, (fun q hq => by cases hq), N1.out, Nw.refl _, fun g hg => by cases hg⟩
  case round =>
    obtain ⟨m, cnt, at_, acc, rfl, hm, rfl, ha0, ha1, hE1, hs, hcnt, hcl, hok, hw, hw1, hfr⟩ := hrel
    obtain ⟨sa, sc, rfl, -⟩ := hs.len
    have HS := Lib.hid (And.intro hs (And.intro hw hfr))
    have HE1 := Lib.hid hE1
    have HC := Lib.hid hcnt
    have HOK := Lib.hid hok
    have HW1 := Lib.hid hw1
    clear hs hw hfr hE1 hcnt hok hw1 kc HP
    by_cases hm0 : 0 < m
    · have q5 : decide ((0 : Int) < (m : Int)) = true := by simp; omega
      obtain ⟨m', rfl⟩ : ∃ m', m = m' + 1 := ⟨m - 1, by omega⟩
      have hsub : ((m' + 1 : Nat) : Int) - 1 = (m' : Int) := by omega
      cases hy : pieceR u at_ with
      | none =>
        have C := Lib.hid (piece_ok (B1.out.nw HW1.out) (by omega) at_ ⟨by omega, by omega⟩ hy)
        have rr := HE1.out
        rw [pcsFrom_none hy] at rr
        have r2 := HR.out
        rw [← rr] at r2
        obtain ⟨rfl, rfl⟩ : [] = r ∧ 10 = e := by simpa using r2
        clear rr r2 hy
        unfold pcR pcV Pc.zero at C
        go_wp2_with fail
        refine C.out.mono ?_
        rintro z w3 ⟨rfl, n3⟩
        have N3 := Lib.hid ((HS.out.2.1.trans n3).alloc (.cells #[.string ⟨#[]⟩, .int .i64 0, .int .i64 0, .bool false] 39))
        clear n3 C
        go_wp2
        refine bodyPost_ret (v := .tuple #[.slice none 0 0, .int .i64 10]) (by simp [results, Tryz.results12, go_sem]) rfl ⟨_, rfl, OwnP.nil N3.out⟩
      | some y =>
        obtain ⟨p, x⟩ := y
        have C := Lib.hid (piece_ok (B1.out.nw HW1.out) (by omega) at_ ⟨by omega, by omega⟩ hy)
        have rr := HE1.out
        rw [pcsFrom_some hy] at rr
        have HE2 := Lib.hid rr
        obtain ⟨g1, g2, g3, g4⟩ := pieceR_fine hy
        have HPK := Lib.hid g4
        clear rr hy HE1 g4
        unfold pcR pcV at C
        go_wp2_with fail
        refine C.out.mono ?_
        rintro z w3 ⟨rfl, n3⟩
        have hna := (Nw.refl w3).alloc (.cells (pcV p).toArray 39)
        have hnb := hna.alloc (.cells (pcV p).toArray 39)
        have V4 := Lib.hid ((HS.out.1.nw n3).nw hnb)
        have X4 := Lib.hid (src_lit (w3.alloc (.cells (pcV p).toArray 39)) 39 (0, 0) 4 1 1 (pcV p) rfl (by omega) (by decide))
        have N3 := Lib.hid n3
        have HNB := Lib.hid hnb
        have hs3 : (w3.alloc (.cells (pcV p).toArray 39)).heap.size = w3.heap.size + 1 := by simp
        rw [hs3] at X4
        unfold pcV at V4 X4
        clear n3 C hna hnb hs3
        go_wp2_with (at_builtin; refine wpList_append_vec rfl _ _ 22 rfl 39 i0 (.agg #[.string ⟨#[]⟩, .int .i64 0, .int .i64 0, .bool false]) 4 40 Tryz.underlying22 HI.out HZ0.out HZ1.out HZ2.out rfl (by decide) rfl rfl V4.out X4.out ?c1 ?c2 ?c3 ?_)
        case c1 => exact fun u hu => by simp only [List.mem_cons, List.not_mem_nil, or_false] at hu; rcases hu with rfl | rfl | rfl | rfl <;> rfl
        case c2 => unfold maxLen; omega
        case c3 => omega
        intro v5 w5 q5 q6 q7
        obtain ⟨ta, tc, rfl, -⟩ := q5.len
        have Q := Lib.hid (And.intro q5 (And.intro q6 q7))
        clear q5 q6 q7
        go_wp2
        go_roundw
        case rel =>
          have h0 := N1.out.size
          have hnw : Nw w w5 := ((HS.out.2.1.trans N3.out).trans HNB.out).trans' Q.out.2.1 (fun g hg hc => by have := HS.out.2.2 g hc; omega)
          have hnw1 : Nw w1 w5 := ((HW1.out.trans N3.out).trans HNB.out).trans' Q.out.2.1 (fun g hg hc => by have := HS.out.2.2 g hc; omega)
          refine ⟨m', cnt + 1, x, acc ++ [p], by go_num, by omega, rfl, by omega, g3, HE2.out, ?_, by rw [List.length_append, HC.out]; rfl, by omega, ?_, hnw, hnw1, fun g hg => ?_⟩
          · have e : ([p] : List Pc).flatMap pcV = pcV p := by simp
            rw [List.flatMap_append, e]
            exact Q.out.1
          · intro q hq
            rcases List.mem_append.1 hq with hq | hq
            · exact HOK.out q hq
            · rw [List.mem_singleton] at hq; subst hq; exact HPK.out
          · rcases Q.out.2.2 with h | h
            · exact HS.out.2.2 g (h ▸ hg)
            · have h1 := h g hg
              have h2 := ((HW1.out.trans N3.out).trans HNB.out).size
              simp only [World.size_alloc] at h2
              exact Nat.le_trans h2 h1
        case measure => simp [intOf]
    · obtain rfl : m = 0 := by omega
      have rr := HE1.out
      unfold pcsFrom at rr
      have r2 := HR.out
      rw [← rr] at r2
      simp only at r2
      have h0 := N1.out.size
      have hown : OwnP w wr (.slice sa cnt sc) acc := ⟨by rw [HC.out]; exact HS.out.1, HOK.out, HS.out.2.1, fun g hg => by have := HS.out.2.2 g hg; omega⟩
      have HOWN := Lib.hid hown
      have HRT := Lib.hid (Right_ok hown.pcs)
      clear rr hown h0
      by_cases hlt : at_ < (u.length : Int)
      · have q6 : decide (at_ < (u.length : Int)) = true := by simpa using hlt
        rw [if_pos hlt] at r2
        obtain ⟨rfl, rfl⟩ : [] = r ∧ 10 = e := by simpa using r2
        clear r2
        go_wp2
        refine bodyPost_ret (v := .tuple #[.slice none 0 0, .int .i64 10]) (by simp [results, Tryz.results12, go_sem]) rfl ⟨_, rfl, OwnP.nil HS.out.2.1⟩
      have q6 : decide (at_ < (u.length : Int)) = false := by simpa using hlt
      rw [if_neg hlt] at r2
      cases hrt : rightL acc
      case false =>
        rw [hrt] at r2 HRT
        obtain ⟨rfl, rfl⟩ : [] = r ∧ 14 = e := by simpa using r2
        clear r2
        go_wp2_with fail
        refine HRT.out.mono ?_
        rintro z w4 ⟨rfl, n4⟩
        have N4 := Lib.hid (HS.out.2.1.trans n4)
        clear n4
        go_wp2
        refine bodyPost_ret (v := .tuple #[.slice none 0 0, .int .i64 14]) (by simp [results, Tryz.results12, go_sem]) rfl ⟨_, rfl, OwnP.nil N4.out⟩
      case true =>
        rw [hrt] at r2 HRT
        obtain ⟨rfl, rfl⟩ : acc = r ∧ 0 = e := by simpa using r2
        clear r2
        go_wp2_with fail
        refine HRT.out.mono ?_
        rintro z w4 ⟨rfl, n4⟩
        have O4 := Lib.hid (HOWN.out.nw n4)
        clear n4
        go_wp2
        refine bodyPost_ret (v := .tuple #[.slice sa cnt sc, .int .i64 0]) (by simp [results, Tryz.results12, go_sem]) rfl ⟨_, rfl, O4.out⟩
end Go.Proofs.YtkhcdbafcigeoaaGreatDoor

/-
  amanuensisref05.Listed: append(out, Piece): a region that draws its order. Printed by wip/gen_l26.py.
-/
namespace Go.Proofs.YtkhcdbafcigeoaaGreatDoor.dListed
open Go Go.RowKit Go.Sort
set_option maxRecDepth 100000
set_option maxHeartbeats 3200000
theorem r26 {w6 : World} {pg po ul xc k3 m sc nl nc : Nat} {x1 y1 cb : Int} {pd : Bool} {sa na : Option Addr} {cs : List Value} {nm : List UInt8}
    (V10 : Hid (Vec 4 w6 (.slice sa m sc) m cs)) (B12 : Hid (Bs w6 (.slice na nl nc) nm))
    (C1 : Hid (w6.cell? ⟨pg, po + k3, none⟩ = some (.int .u8 cb))) (L1 : Hid (pg < w6.heap.size)) (HK : Hid (k3 < ul)) (HD : Hid ((cb == 1) = pd))
    (H1 : Hid (IntKind.i64.wrap x1 = x1)) (H2 : Hid (IntKind.i64.wrap y1 = y1)) (hb : m ≤ 1000000000)
    {u0 u1 u2 u3 u5 u6 u7 u8 u9 u11 u14 u17 u18 u19 u20 u21 u22 u23 u24 u25 u26 u27 u28 u29 u30 u31 u32 u33 u34 u35 u36 u37 u38 u39 u40 u41 u42 u43 u44 u45 u46 u47 u48 u49 u50 u51 u52 u53 u54 u55 u56 u57 u58 u59 u60 u61 u62 u63 u64 u65 u66 u67 u68 u69 u70 u71 u72 u73 u74 u75 u76 u77 u78 u79 u80 u81 u82 u83 u84 u85 u86 u87 u88 u89 u90 u91 u92 u93 u94 u95 u96 u97 u98 u99 u100 u101 u102 u103 u104 u105 u106 u107 u108 u109 u110 u111 u112 u113 u114 u115 u116 u117 u118 u119 u120 u121 u122 u123 u124 u125 u126 u127 u128 u129 u130 : Value} {Q : Exit → Act → World → Prop} (hP : PanicOk Q)
    (hQ : ∀ (s106 s107 s108 s109 s110 s111 s112 s113 s114 s115 s116 s117 s118 s119 s120 s10 : Value) (a' : Option Addr) (c' : Nat) (wx : World), s10 = .slice a' (m + 1) c' → Vec 4 wx s10 (m + 1) (cs ++ [.string ⟨nm.toArray⟩, .int .i64 x1, .int .i64 y1, .bool pd]) → Only (fun k => (Value.slice sa m sc).ownBlock = some k) w6 wx → ((Value.slice a' (m + 1) c').ownBlock = (Value.slice sa m sc).ownBlock ∨ ∀ g, (Value.slice a' (m + 1) c').ownBlock = some g → w6.heap.size ≤ g) → Q .normal ⟨#[u0, u1, u2, u3, .slice (some ⟨pg, po, none⟩) ul xc, u5, u6, u7, u8, u9, s10, u11, .slice na nl nc, .int .i64 k3, u14, .int .u64 x1, .int .u64 y1, u17, u18, u19, u20, u21, u22, u23, u24, u25, u26, u27, u28, u29, u30, u31, u32, u33, u34, u35, u36, u37, u38, u39, u40, u41, u42, u43, u44, u45, u46, u47, u48, u49, u50, u51, u52, u53, u54, u55, u56, u57, u58, u59, u60, u61, u62, u63, u64, u65, u66, u67, u68, u69, u70, u71, u72, u73, u74, u75, u76, u77, u78, u79, u80, u81, u82, u83, u84, u85, u86, u87, u88, u89, u90, u91, u92, u93, u94, u95, u96, u97, u98, u99, u100, u101, u102, u103, u104, u105, s106, s107, s108, s109, s110, s111, s112, s113, s114, s115, s116, s117, s118, s119, s120, u121, u122, u123, u124, u125, u126, u127, u128, u129, u130], []⟩ wx) :
    Code.wp Tryz.prog ((Tryz.f13.body.bind (regionOf 26)).getD .skip) Q ⟨#[u0, u1, u2, u3, .slice (some ⟨pg, po, none⟩) ul xc, u5, u6, u7, u8, u9, .slice sa m sc, u11, .slice na nl nc, .int .i64 k3, u14, .int .u64 x1, .int .u64 y1, u17, u18, u19, u20, u21, u22, u23, u24, u25, u26, u27, u28, u29, u30, u31, u32, u33, u34, u35, u36, u37, u38, u39, u40, u41, u42, u43, u44, u45, u46, u47, u48, u49, u50, u51, u52, u53, u54, u55, u56, u57, u58, u59, u60, u61, u62, u63, u64, u65, u66, u67, u68, u69, u70, u71, u72, u73, u74, u75, u76, u77, u78, u79, u80, u81, u82, u83, u84, u85, u86, u87, u88, u89, u90, u91, u92, u93, u94, u95, u96, u97, u98, u99, u100, u101, u102, u103, u104, u105, u106, u107, u108, u109, u110, u111, u112, u113, u114, u115, u116, u117, u118, u119, u120, u121, u122, u123, u124, u125, u126, u127, u128, u129, u130], []⟩ w6 := by
  dsimp only at hQ ⊢
  conv => arg 2; whnf
  have HQ := Lib.hid hQ
  clear hQ
  refine name_frame fun A hA => ?_
  have hlt : ∀ t, t < 131 → t < A.tmps.size := fun t h => by rw [hA]; exact h
  have hA10 : A.tmps[10]? = some (.slice sa m sc) := by rw [hA]; rfl
  have hA12 : A.tmps[12]? = some (.slice na nl nc) := by rw [hA]; rfl
  have hA15 : A.tmps[15]? = some (.int .u64 x1) := by rw [hA]; rfl
  have hA16 : A.tmps[16]? = some (.int .u64 y1) := by rw [hA]; rfl
  have hA4 : A.tmps[4]? = some (.slice (some ⟨pg, po, none⟩) ul xc) := by rw [hA]; rfl
  have hA13 : A.tmps[13]? = some (.int .i64 k3) := by rw [hA]; rfl
  have HA := Lib.hid hA
  clear hA
  refine rgn_open fun L hL => ?_
  have f0 := at_op (i := 0) hL rfl
  have f1 := at_op (i := 1) hL rfl
  have f2 := at_op (i := 2) hL rfl
  have f3 := at_op (i := 3) hL rfl
  have f4 := at_op (i := 4) hL rfl
  have f5 := at_op (i := 5) hL rfl
  have f6 := at_op (i := 6) hL rfl
  have f7 := at_op (i := 7) hL rfl
  have f8 := at_op (i := 8) hL rfl
  have f9 := at_op (i := 9) hL rfl
  have f10 := at_op (i := 10) hL rfl
  have f11 := at_op (i := 11) hL rfl
  have f12 := at_op (i := 12) hL rfl
  have f13 := at_op (i := 13) hL rfl
  have f14 := at_op (i := 14) hL rfl
  have f15 := at_op (i := 15) hL rfl
  have HL := Lib.hid hL
  refine wp_region_steps 14 (.rd 0 :: .rd 1 :: .rd 2 :: .rd 3 :: .rd 4 :: .rd 5 :: .rd 6 :: .rd 7 :: .rd 8 :: .rd 9 :: .rd 10 :: .rd 11 :: .rd 12 :: .dn 13 :: []) [14, 15] (fun x => Nw w6 x) (by kernel_rfl) (by rw [hL]; kernel_rfl) hP (Nw.refl _).drew ?_
  have hC : Nw w6 w6.drew := (Nw.refl _).drew
  clear HL hL
  refine rgn_rd1 (.slice sa m sc) f0 rfl (w_none rfl) (get_old (t := 10) rfl hA10) (fun ρ e0 ⟨c1, c2⟩ w hw => by go_simp) ?_
  refine rgn_rd1 (.slice na nl nc) f1 rfl (w_none rfl) (get_old (t := 12) rfl hA12) (fun ρ e0 ⟨c1, c2⟩ w hw => by go_simp) ?_
  refine rgn_rd1 (.string ⟨nm.toArray⟩) f2 rfl (w_none rfl) (get_hit (t := 107) rfl (hlt 107 (by decide))) (fun ρ e0 ⟨c1, c2⟩ w hw => by have hc := conv_str (B12.out.nw hw); go_simp) ?_
  refine rgn_rd1 (.int .u64 x1) f3 rfl (w_none rfl) (get_old (t := 15) rfl hA15) (fun ρ e0 ⟨c1, c2⟩ w hw => by go_simp) ?_
  refine rgn_rd1 (.int .i64 x1) f4 rfl (w_none rfl) (get_hit (t := 109) rfl (hlt 109 (by decide))) (fun ρ e0 ⟨c1, c2⟩ w hw => by have h := H1.out; go_simp) ?_
  refine rgn_rd1 (.int .u64 y1) f5 rfl (w_none rfl) (get_old (t := 16) rfl hA16) (fun ρ e0 ⟨c1, c2⟩ w hw => by go_simp) ?_
  refine rgn_rd1 (.int .i64 y1) f6 rfl (w_none rfl) (get_hit (t := 111) rfl (hlt 111 (by decide))) (fun ρ e0 ⟨c1, c2⟩ w hw => by have h := H2.out; go_simp) ?_
  refine rgn_rd1 (.slice (some ⟨pg, po, none⟩) ul xc) f7 rfl (w_none rfl) (get_old (t := 4) rfl hA4) (fun ρ e0 ⟨c1, c2⟩ w hw => by go_simp) ?_
  refine rgn_rd1 (.int .i64 k3) f8 rfl (w_none rfl) (get_old (t := 13) rfl hA13) (fun ρ e0 ⟨c1, c2⟩ w hw => by go_simp) ?_
  refine rgn_rd2 (.pointer (some ⟨pg, po + k3, none⟩)) f9 rfl (w_none rfl) (get_hit (t := 113) rfl (hlt 113 (by decide))) (get_hit (t := 114) rfl (hlt 114 (by decide))) (fun ρ e0 e1 ⟨c1, c2⟩ w hw => by have hk := HK.out; go_simp) ?_
  refine rgn_rd1 (.int .u8 cb) f10 rfl (w_none rfl) (get_hit (t := 115) rfl (hlt 115 (by decide))) (fun ρ e0 ⟨c1, c2⟩ w hw => by have hc := Nw.cell hw C1.out; have hl := Nat.lt_of_lt_of_le L1.out (Only.size hw); go_simp) ?_
  refine rgn_rd1 (.bool pd) f11 rfl (w_none rfl) (get_hit (t := 116) rfl (hlt 116 (by decide))) (fun ρ e0 ⟨c1, c2⟩ w hw => by have h := HD.out; go_simp) ?_
  refine rgn_rd (.agg #[.string ⟨nm.toArray⟩, .int .i64 x1, .int .i64 y1, .bool pd]) [(108, .string ⟨nm.toArray⟩), (110, .int .i64 x1), (112, .int .i64 y1), (117, .bool pd)] f12 rfl (w_none rfl) (forall_cons (get_hit (t := 108) rfl (hlt 108 (by decide))) <| forall_cons (get_hit (t := 110) rfl (hlt 110 (by decide))) <| forall_cons (get_hit (t := 112) rfl (hlt 112 (by decide))) <| forall_cons (get_hit (t := 117) rfl (hlt 117 (by decide))) <| forall_nil) (fun ρ e ⟨c1, c2⟩ w hw => by simp only [List.forall_mem_cons] at e; obtain ⟨e0, e1, e2, e3, -⟩ := e; go_simp) ?_
  refine stp_dn f13 (fun K hK => ?_)
  have e0 := (get_hit (A := A) (l := [(118, .agg #[.string ⟨nm.toArray⟩, .int .i64 x1, .int .i64 y1, .bool pd]), (117, .bool pd), (116, .int .u8 cb), (115, .pointer (some ⟨pg, po + k3, none⟩)), (114, .int .i64 k3), (113, .slice (some ⟨pg, po, none⟩) ul xc), (112, .int .i64 y1), (111, .int .u64 y1), (110, .int .i64 x1), (109, .int .u64 x1), (108, .string ⟨nm.toArray⟩), (107, .slice na nl nc), (106, .slice sa m sc)]) (t := 118) rfl (hlt 118 (by decide)))
  have hnw : Nw w6 (w6.alloc (.cells #[.string ⟨nm.toArray⟩, .int .i64 x1, .int .i64 y1, .bool pd] 39 (0, 0))).drew := ((Nw.refl _).alloc _).drew
  have hsrc : SrcV 4 (w6.alloc (.cells #[.string ⟨nm.toArray⟩, .int .i64 x1, .int .i64 y1, .bool pd] 39 (0, 0))).drew (.slice (some ⟨w6.heap.size, 0, none⟩) 1 1) 1 [.string ⟨nm.toArray⟩, .int .i64 x1, .int .i64 y1, .bool pd] := (src_lit w6 39 (0, 0) 4 1 1 [.string ⟨nm.toArray⟩, .int .i64 x1, .int .i64 y1, .bool pd] rfl (by omega) (by decide)).nw (Nw.refl _).drew
  have hvec := V10.out.nw hnw
  have hsz : ((w6.alloc (.cells #[.string ⟨nm.toArray⟩, .int .i64 x1, .int .i64 y1, .bool pd] 39 (0, 0))).drew).heap.size = w6.heap.size + 1 := by simp
  go_wp2
  change K (puts A ((119, .slice (some ⟨w6.heap.size, 0, none⟩) 1 1) :: [(118, .agg #[.string ⟨nm.toArray⟩, .int .i64 x1, .int .i64 y1, .bool pd]), (117, .bool pd), (116, .int .u8 cb), (115, .pointer (some ⟨pg, po + k3, none⟩)), (114, .int .i64 k3), (113, .slice (some ⟨pg, po, none⟩) ul xc), (112, .int .i64 y1), (111, .int .u64 y1), (110, .int .i64 x1), (109, .int .u64 x1), (108, .string ⟨nm.toArray⟩), (107, .slice na nl nc), (106, .slice sa m sc)])) (w6.alloc (.cells #[.string ⟨nm.toArray⟩, .int .i64 x1, .int .i64 y1, .bool pd] 39 (0, 0))).drew
  generalize (w6.alloc (.cells #[.string ⟨nm.toArray⟩, .int .i64 x1, .int .i64 y1, .bool pd] 39 (0, 0))).drew = W at hnw hsrc hvec hsz ⊢
  refine hK _ _ hnw ?_
  clear hK K e0
  refine wpSteps_nil ?_
  refine stp_num f14 ?_
  obtain ⟨i0, hi, hz0, hz1, hz2⟩ := info_parts infoPc
  refine wpList_append_vec (v := .slice sa m sc) (src := .slice (some ⟨w6.heap.size, 0, none⟩) 1 1) rfl _ _ 22 rfl 39 i0 (.agg #[.string ⟨#[]⟩, .int .i64 0, .int .i64 0, .bool false]) 4 40 Tryz.underlying22 hi hz0 hz1 hz2 rfl (by decide) (eval_of (get_hit (A := A) (l := ((119, .slice (some ⟨w6.heap.size, 0, none⟩) 1 1) :: [(118, .agg #[.string ⟨nm.toArray⟩, .int .i64 x1, .int .i64 y1, .bool pd]), (117, .bool pd), (116, .int .u8 cb), (115, .pointer (some ⟨pg, po + k3, none⟩)), (114, .int .i64 k3), (113, .slice (some ⟨pg, po, none⟩) ul xc), (112, .int .i64 y1), (111, .int .u64 y1), (110, .int .i64 x1), (109, .int .u64 x1), (108, .string ⟨nm.toArray⟩), (107, .slice na nl nc), (106, .slice sa m sc)])) (t := 106) rfl (hlt 106 (by decide)))) (eval_of (get_hit (A := A) (l := ((119, .slice (some ⟨w6.heap.size, 0, none⟩) 1 1) :: [(118, .agg #[.string ⟨nm.toArray⟩, .int .i64 x1, .int .i64 y1, .bool pd]), (117, .bool pd), (116, .int .u8 cb), (115, .pointer (some ⟨pg, po + k3, none⟩)), (114, .int .i64 k3), (113, .slice (some ⟨pg, po, none⟩) ul xc), (112, .int .i64 y1), (111, .int .u64 y1), (110, .int .i64 x1), (109, .int .u64 x1), (108, .string ⟨nm.toArray⟩), (107, .slice na nl nc), (106, .slice sa m sc)])) (t := 119) rfl (hlt 119 (by decide)))) hvec hsrc (fun u hu => by simp only [List.mem_cons, List.not_mem_nil, or_false] at hu; rcases hu with rfl | rfl | rfl | rfl <;> rfl) (by unfold maxLen; omega) (by omega) ?_
  intro v5 w5 q5 q6 q7
  obtain ⟨ta, tc, rfl, -⟩ := q5.len
  have hO : Only (fun k => (Value.slice sa m sc).ownBlock = some k) w6 w5 := hnw.only.trans q6
  have hF : (Value.slice ta (m + 1) tc).ownBlock = (Value.slice sa m sc).ownBlock ∨ ∀ g, (Value.slice ta (m + 1) tc).ownBlock = some g → w6.heap.size ≤ g := by
    rcases q7 with h | h
    · exact .inl h
    · exact .inr fun g hg => Nat.le_trans hnw.size (h g hg)
  refine ⟨fun h => absurd h (by decide), ?_⟩
  change wpNums _ _ _ _ _ [15] (puts A ((120, .slice ta (m + 1) tc) :: ((119, .slice (some ⟨w6.heap.size, 0, none⟩) 1 1) :: [(118, .agg #[.string ⟨nm.toArray⟩, .int .i64 x1, .int .i64 y1, .bool pd]), (117, .bool pd), (116, .int .u8 cb), (115, .pointer (some ⟨pg, po + k3, none⟩)), (114, .int .i64 k3), (113, .slice (some ⟨pg, po, none⟩) ul xc), (112, .int .i64 y1), (111, .int .u64 y1), (110, .int .i64 x1), (109, .int .u64 x1), (108, .string ⟨nm.toArray⟩), (107, .slice na nl nc), (106, .slice sa m sc)]))) w5
  refine stp_num_val (.slice ta (m + 1) tc) f15 rfl (w_none rfl) (by decide) ?_ (wpNums_nil ?_)
  · have e0 := (get_hit (A := A) (l := ((120, .slice ta (m + 1) tc) :: ((119, .slice (some ⟨w6.heap.size, 0, none⟩) 1 1) :: [(118, .agg #[.string ⟨nm.toArray⟩, .int .i64 x1, .int .i64 y1, .bool pd]), (117, .bool pd), (116, .int .u8 cb), (115, .pointer (some ⟨pg, po + k3, none⟩)), (114, .int .i64 k3), (113, .slice (some ⟨pg, po, none⟩) ul xc), (112, .int .i64 y1), (111, .int .u64 y1), (110, .int .i64 x1), (109, .int .u64 x1), (108, .string ⟨nm.toArray⟩), (107, .slice na nl nc), (106, .slice sa m sc)]))) (t := 120) rfl (hlt 120 (by decide)))
    go_simp
  change Q .normal (puts A ((10, .slice ta (m + 1) tc) :: ((120, .slice ta (m + 1) tc) :: ((119, .slice (some ⟨w6.heap.size, 0, none⟩) 1 1) :: [(118, .agg #[.string ⟨nm.toArray⟩, .int .i64 x1, .int .i64 y1, .bool pd]), (117, .bool pd), (116, .int .u8 cb), (115, .pointer (some ⟨pg, po + k3, none⟩)), (114, .int .i64 k3), (113, .slice (some ⟨pg, po, none⟩) ul xc), (112, .int .i64 y1), (111, .int .u64 y1), (110, .int .i64 x1), (109, .int .u64 x1), (108, .string ⟨nm.toArray⟩), (107, .slice na nl nc), (106, .slice sa m sc)])))) w5
  exact cast_frame (by rw [HA.out]; kernel_rfl) (HQ.out (.slice sa m sc) (.slice na nl nc) (.string ⟨nm.toArray⟩) (.int .u64 x1) (.int .i64 x1) (.int .u64 y1) (.int .i64 y1) (.slice (some ⟨pg, po, none⟩) ul xc) (.int .i64 k3) (.pointer (some ⟨pg, po + k3, none⟩)) (.int .u8 cb) (.bool pd) (.agg #[.string ⟨nm.toArray⟩, .int .i64 x1, .int .i64 y1, .bool pd]) (.slice (some ⟨w6.heap.size, 0, none⟩) 1 1) (.slice ta (m + 1) tc) (.slice ta (m + 1) tc) ta tc w5 rfl q5 hO hF)
end Go.Proofs.YtkhcdbafcigeoaaGreatDoor.dListed
