/-
  Texts merged by a program of this claim's: CompCalm.
-/
import Derived.Test.YtjapijndljknnaaGreatDoorM39
import Derived.Test.YtjapijndljknnaaGreatDoorM34
/-
  Compaction on a calm disk with room: plain words.
-/
namespace Go.Proofs.YtjapijndljknnaaGreatDoor
open Go
set_option maxRecDepth 100000
theorem packIn_len' {l : List Ev} (h : l.length ≤ 100000) {n : Nat} (hn : n < 2 ^ 64) : (packIn n l).length ≤ 24 + 100 * l.length := by
  have h2 := uintB_len n 10 (by omega) (Nat.lt_trans hn (by decide))
  have h3 := uintB_len l.length 10 (by omega) (Nat.lt_trans (show l.length < 2 ^ 64 by omega) (by decide))
  have hc : ∀ f : Ev → Int, (colB (l.map f)).length ≤ 20 * l.length := fun f => by
    have := colB_len (l := l.map f) (by rw [List.length_map]; omega)
    rwa [List.length_map] at this
  have c1 := hc Ev.thread
  have c2 := hc fun e => (e.op.toNat : Int)
  have c3 := hc Ev.obj
  have c4 := hc Ev.a
  have c5 := hc Ev.b
  simp only [packIn, picks, List.flatMap_cons, List.flatMap_nil, List.length_append, List.length_nil]
  have : denseS.length = 4 := rfl
  omega
theorem packB_len {l : List Ev} (h : l.length ≤ 100000) : (packB 0 l).length ≤ 28 + 100 * l.length := by
  have h1 := packIn_len' h (n := 0) (by omega)
  have h2 : (packB 0 l).length = (packIn 0 l).length + 4 := by unfold packB sealB; rw [List.length_append]; rfl
  omega
theorem rmEach_calm : ∀ (A : List Pc) (d : Dsk), Calm d → (A.map Pc.name).Nodup → (∀ q ∈ A, q.name ∈ namesF d.files) → ∃ F, rmEach A d = ({ d with files := F }, 0) ∧ (namesF F).Nodup ∧ ∀ x, x ∈ namesF F ↔ x ∈ namesF d.files ∧ x ∉ A.map Pc.name
  | [], d, h, _, _ => ⟨d.files, rfl, h.names, fun x => by simp⟩
  | q :: A, d, h, hl, hm => by
    have hl' := List.nodup_cons.1 (by simpa using hl : (q.name :: A.map Pc.name).Nodup)
    unfold rmEach
    rw [remove_calm h (hm q (by simp)), if_neg (by simp)]
    obtain ⟨F, f1, f2, f3⟩ := rmEach_calm A { d with files := delF d.files q.name } (h.delF q.name) hl'.2 fun x hx => by
      simp only
      rw [namesF_delF, h.names.mem_erase_iff]
      exact ⟨fun e => hl'.1 (e ▸ List.mem_map.2 ⟨x, hx, rfl⟩), hm x (by simp [hx])⟩
    refine ⟨F, f1, f2, fun x => (f3 x).trans ?_⟩
    simp only
    rw [namesF_delF, h.names.mem_erase_iff]
    simp only [List.map_cons, List.mem_cons, not_or]
    constructor
    · rintro ⟨⟨a, b⟩, c⟩; exact ⟨b, a, c⟩
    · rintro ⟨a, b, c⟩; exact ⟨⟨b, a⟩, c⟩
theorem comp_calm {c : Nat} {d : Dsk} {L : Lg} {all : List Ev} (h : Bt 64 c d L all) (hc : c ≤ 40) (hl : lone L.l.dropLast = false) :
    ∃ F, compD all L d = ⟨{ d with files := F }, { L with l := [densePc (lastP L.l).first.toNat, lastP L.l] }, L.l.dropLast.length, 0⟩ ∧ (namesF F).Nodup ∧ ∀ x, x ∈ namesF F ↔ x = manifestS ∨ x = dName (lastP L.l).first.toNat ∨ x = (lastP L.l).name := by
  obtain ⟨A, p, hi, hAc⟩ := h.ak.inv
  have hmost := h.ak.most
  have hused := h.ak.used
  have hn := h.ak.n
  have hlast := hi.open_
  have hdl : L.l.dropLast = A := by rw [hi.l]; simp
  have hb := right_bound hi.right p (by simp)
  have hpk := hi.acked0
  have hpn := hi.acked1
  rw [hlast, hdl]
  rw [hdl] at hl
  obtain ⟨k, hk⟩ : ∃ k, p.first.toNat = k := ⟨_, rfl⟩
  have hkc : p.first = (k : Int) := by omega
  have hk2 : k ≤ 1200 := by omega
  have hk1 : 1 ≤ k := by
    rcases sealed_pos hi.right.sealed_ with rfl | hh
    · simp [lone] at hl
    · rw [← hi.right.first] at hh; omega
  rw [hk]
  have hmem : ∀ x, x ∈ namesF d.files ↔ x = manifestS ∨ x ∈ L.l.map Pc.name := fun x => by rw [hi.names.mem_iff, List.mem_cons]
  have hnew : dName k ∉ namesF d.files := fun hc => by
    rcases (hmem _).1 hc with e | e
    · exact absurd (List.cons.inj e).1 (by decide)
    · obtain ⟨q, hq, e⟩ := List.mem_map.1 e
      rw [hi.seg q hq] at e
      exact dName_seg _ _ e.symm
  have hnext : nextS ∉ namesF d.files := fun hc => by
    rcases (hmem _).1 hc with e | e
    · exact absurd e (by decide)
    · obtain ⟨q, hq, e⟩ := List.mem_map.1 e
      rw [hi.seg q hq] at e
      exact absurd (List.cons.inj e).1 (by decide)
  have hpb : (packB 0 (all.take k)).length ≤ 120028 := by
    have h1 : (all.take k).length ≤ k := by simp; omega
    have := packB_len (l := all.take k) (by omega)
    omega
  have hdok := dName_ok (n := k) (by omega)
  have hfew := hi.few
  have hf1 := fresh_calm (b := packB 0 (all.take k)) hi.calm (okPiece_name hdok).1 (by rw [hmost]; omega) (by omega)
  unfold compD
  rw [hlast, hdl, hk, if_neg (by simp [hi.over]), if_neg (by simp [hl]), if_neg (by simp [hi.calm.up]), hf1]
  simp only
  rw [if_neg (by simp)]
  rw [delF_miss hnew]
  obtain ⟨b, hbb⟩ : ∃ b, packB 0 (all.take k) = b := ⟨_, rfl⟩
  rw [hbb] at hpb ⊢
  have hn1 : namesF (d.files ++ [(dName k, (⟨b, b.length⟩ : DFile))]) = namesF d.files ++ [dName k] := by simp [namesF]
  have hc1 : Calm ({ d with files := d.files ++ [(dName k, ⟨b, b.length⟩)] } : Dsk) := ⟨hi.calm.up, hi.calm.arm, by
    simp only
    rw [hn1]
    exact List.nodup_append.2 ⟨hi.calm.names, by simp, fun x hx y hy => by rw [List.mem_singleton.1 hy]; exact fun e => hnew (e ▸ hx)⟩⟩
  have hpne : p.name ≠ dName k := by rw [hi.seg p (by rw [hi.l]; simp)]; exact fun e => dName_seg _ _ e.symm
  have hseal : sealedFrom [] 0 [densePc k] = true := by
    have e1 : decide (1 ≤ ((k : Nat) : Int)) = true := decide_eq_true (by omega)
    have e2 : decide (((k : Nat) : Int) ≤ 1099511627776) = true := decide_eq_true (by omega)
    show ((okPiece (dName k) && !decide (dName k ∈ ([] : List Str)) && decide ((0 : Int) = 0) && decide (1 ≤ ((k : Nat) : Int)) && decide (((k : Nat) : Int) ≤ 1099511627776)) && true) = true
    rw [hdok, e1, e2]
    simp
  have hr2 : rightL ([densePc k] ++ [p]) = true := (rightL_iff _ _).2 ⟨by simp, hseal, hi.right.name, by simp only [List.map_cons, List.map_nil, List.mem_singleton]; exact hpne, by simp only [endOf, densePc]; omega, hi.right.count, hi.right.dense⟩
  have hml := manifestB_len hr2
  have hu1 : usedF (d.files ++ [(dName k, (⟨b, b.length⟩ : DFile))]) = usedF d.files + b.length := by simp [usedF]
  have hroom : ((usedF (d.files ++ [(dName k, (⟨b, b.length⟩ : DFile))]) + (manifestB ([densePc k] ++ [p])).length : Nat) : Int) ≤ d.most := by
    rw [hu1, hmost]
    have h1 : usedF d.files ≤ 298680 := by omega
    omega
  have hin := install_calm hc1 hr2 hroom (by simp only [List.length_append, List.length_singleton]; omega)
  have hsw : L.swap ({ d with files := d.files ++ [(dName k, ⟨b, b.length⟩)] } : Dsk) [densePc k] = ⟨{ d with files := setF (delF (d.files ++ [(dName k, ⟨b, b.length⟩)]) nextS) manifestS ⟨manifestB ([densePc k] ++ [p]), (manifestB ([densePc k] ++ [p])).length⟩ }, { L with l := [densePc k] ++ [p] }, 0⟩ := by
    unfold Lg.swap
    rw [hi.over, hlast, if_neg (by simp), if_neg (by rw [hr2]; decide), hin, if_neg (by simp)]
  rw [hsw]
  simp only
  rw [if_neg (by simp)]
  have hnn : nextS ∉ namesF (d.files ++ [(dName k, (⟨b, b.length⟩ : DFile))]) := by
    rw [hn1, List.mem_append, List.mem_singleton]
    rintro (e | e)
    · exact hnext e
    · exact absurd (List.cons.inj e).1 (by decide)
  rw [delF_miss hnn]
  have hman : manifestS ∈ namesF (d.files ++ [(dName k, (⟨b, b.length⟩ : DFile))]) := by rw [hn1]; simp [(hmem manifestS).2 (.inl rfl)]
  obtain ⟨F2, hF2⟩ : ∃ F, setF (d.files ++ [(dName k, (⟨b, b.length⟩ : DFile))]) manifestS ⟨manifestB ([densePc k] ++ [p]), (manifestB ([densePc k] ++ [p])).length⟩ = F := ⟨_, rfl⟩
  have hn2 : namesF F2 = namesF d.files ++ [dName k] := by rw [← hF2, nmF_setF, if_pos hman, hn1]
  rw [hF2]
  have hc2 : Calm ({ d with files := F2 } : Dsk) := ⟨hi.calm.up, hi.calm.arm, by simp only; rw [hn2, ← hn1]; exact hc1.names⟩
  have hAn : (A.map Pc.name).Nodup ∧ p.name ∉ A.map Pc.name := by
    have := hi.names.nodup_iff.1 hi.calm.names
    rw [hi.l, List.map_append, List.nodup_cons] at this
    exact ⟨(List.nodup_append.1 this.2).1, hi.right.apart⟩
  obtain ⟨F3, r1, r2, r3⟩ := rmEach_calm A _ hc2 hAn.1 (fun q hq => by
    simp only
    rw [hn2, List.mem_append]
    exact .inl ((hmem _).2 (.inr (List.mem_map.2 ⟨q, by rw [hi.l]; simp [hq], rfl⟩))))
  rw [r1]
  simp only
  rw [if_neg (by simp)]
  refine ⟨F3, rfl, r2, fun x => (r3 x).trans ?_⟩
  simp only
  rw [hn2, List.mem_append, List.mem_singleton, hmem]
  have hA1 : manifestS ∉ A.map Pc.name := fun hc => by
    obtain ⟨q, hq, e⟩ := List.mem_map.1 hc
    rw [hi.seg q (by rw [hi.l]; simp [hq])] at e
    exact absurd (List.cons.inj e).1 (by decide)
  have hA2 : dName k ∉ A.map Pc.name := fun hc => by
    obtain ⟨q, hq, e⟩ := List.mem_map.1 hc
    rw [hi.seg q (by rw [hi.l]; simp [hq])] at e
    exact dName_seg _ _ e.symm
  have hlm : L.l.map Pc.name = A.map Pc.name ++ [p.name] := by rw [hi.l]; simp
  rw [hlm, List.mem_append, List.mem_singleton]
  constructor
  · rintro ⟨((e | e | e) | e), hx⟩
    · exact .inl e
    · exact absurd e hx
    · exact .inr (.inr e)
    · exact .inr (.inl e)
  · rintro (rfl | rfl | rfl)
    · exact ⟨.inl (.inl rfl), hA1⟩
    · exact ⟨.inr rfl, hA2⟩
    · exact ⟨.inl (.inr (.inr rfl)), hAn.2⟩
end Go.Proofs.YtjapijndljknnaaGreatDoor
