/-
  Texts merged by a program of this claim's: LessPlain.
-/
import Derived.Test.YtphgiobklbpdeaaGreatDoorM40
/-
  The open piece's file cut to two sizes, in plain words: the fewer bytes, the shorter the beginning that is told.
-/
namespace Go.Proofs.YtphgiobklbpdeaaGreatDoor
open Go
section
variable {d : Dsk} {l A : List Pc} {p : Pc} {old told all : List Ev} {fs : List (List Ev)} {t : List UInt8} {m sure c : Nat} {L : Lg} {F : List (Str × DFile)} {size : Int}
theorem take_flat (fs : List (List Ev)) (i : Nat) : (fs.take i).flatten <+: fs.flatten := by
  conv => rhs; rw [← List.take_append_drop i fs, List.flatten_append]
  exact List.prefix_append _ _
theorem seg_uniq {n : Nat} (hn : n ≤ 4611686018427387904) {f g : List (List Ev)} {t u : List UInt8} (hf : FrOk f) (hg : FrOk g) (ht : Torn t) (hu : Torn u) (h : segB n f ++ t = segB n g ++ u) : f.flatten = g.flatten := by
  have h1 := scanB_at hn f t hf ht.none
  have h2 := scanB_at hn g u hg hu.none
  have e1 : segB n f ++ t = headB n ++ (f.flatMap frmB ++ t) := by simp [segB]
  have e2 : segB n g ++ u = headB n ++ (g.flatMap frmB ++ u) := by simp [segB]
  rw [← e1] at h1
  rw [← e2, ← h] at h2
  rw [h1] at h2
  simp only [Prod.mk.injEq] at h2
  exact h2.2.1
theorem Bt.less (h : Bt size c d L all) (hc : c ≤ 60) {p' : Pc} (hp : lastP L.l = p') {N : Nat} (hN : (fileOf d.files p'.name).bytes.length = N) {k m : Nat} (h17 : 17 ≤ k) (hkm : k ≤ m) (hm : m ≤ N) :
    ∃ d1 d2 e1 e2 ps1 g1 ps2 g2, d.cut p'.name k = (d1, 0) ∧ d.cut p'.name m = (d2, 0) ∧ scanD U0 d1 = ⟨e1, ps1, g1, 0⟩ ∧ scanD U0 d2 = ⟨e2, ps2, g2, 0⟩ ∧ DenFor U0 d1 ∧ DenFor U0 d2 ∧ p'.first ≤ e1.length ∧ e1 <+: e2 ∧ e2 <+: all := by
  obtain ⟨-, -, A, p, old, fs, mm, hl, ht, hall⟩ := h.scanned
  have hpp : p = p' := by rw [← hp, hl, lastP_snoc]
  subst hpp
  have hf := h.ak.facts hc
  have hfi : 0 ≤ p.first ∧ p.first ≤ 1800 := by
    have := hf.2.2.2.2.2.2.2.2 p (by rw [hl]; simp)
    exact ⟨this.1, this.2.1⟩
  have hh : (headB p.first.toNat).length ≤ 17 := by
    have h128 : p.first.toNat < 128 ^ 2 := Nat.lt_of_le_of_lt (show p.first.toNat ≤ 1800 by omega) (by decide)
    have := uintB_len p.first.toNat 2 (by omega) h128
    simp only [headB, sealB, List.length_append, List.length_cons, List.length_nil, sumB_len]
    omega
  obtain ⟨d1, i1, t1, a1, a2, a3, a4, a5⟩ := ht.cutOpen h.calm (k := k) (by omega) (by omega)
  obtain ⟨d2, i2, t2, b1, b2, b3, b4, b5⟩ := ht.cutOpen h.calm (k := m) (by omega) (by omega)
  have a6 := a5.imp (Wh' := WholeU U0) fun _ _ _ h => h.whole
  have b6 := b5.imp (Wh' := WholeU U0) fun _ _ _ h => h.whole
  refine ⟨d1, d2, _, _, _, _, _, _, a1, b1, a6.scan a2.up, b6.scan b2.up, a6.den0 a2.up, b6.den0 b2.up, ?_, ?_, ?_⟩
  · rw [ht.first, List.length_append]; omega
  · have hn : (segB p.first.toNat ((fs.take i2).take 0)).length ≤ k := by simpa [segB] using (show (headB p.first.toNat).length ≤ k by omega)
    obtain ⟨i', t', -, -, c3, c4⟩ := take_torn p.first.toNat b5.fr b5.torn 0 k hn (Nat.zero_le _)
    rw [← b4, List.take_take, Nat.min_eq_left hkm, a4] at c3
    have hu := seg_uniq (by omega) a5.fr (fun f hf => b5.fr f (List.mem_of_mem_take hf)) a5.torn c4 c3
    rw [hu]
    exact (List.prefix_append_right_inj _).2 (take_flat _ _)
  · rw [hall]
    exact (List.prefix_append_right_inj _).2 (take_flat _ _)
end
end Go.Proofs.YtphgiobklbpdeaaGreatDoor
