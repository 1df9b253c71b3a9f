/-
  Texts merged by a program of this claim's: KeepPlain.
-/
import Derived.Test.YtkhcdbafcigeoaaGreatDoorM6
import Derived.Test.YtkhcdbafcigeoaaGreatDoorM13
namespace Go.Proofs.YtkhcdbafcigeoaaGreatDoor
open Go
section
variable {d d' : Dsk} {n : Str} {b : List UInt8}
theorem op_cases {may x : Int} {act : List (Str × DFile) → List (Str × DFile)} (h : d.op may act = (d', x)) : (x = 0 ∧ d'.files = act d.files ∧ may = 0) ∨ (x ≠ 0 ∧ d'.files = d.files ∧ (x = 15 ∨ x = may)) := by
  unfold Dsk.op at h
  split at h
  · injection h with h1 h2; subst h1 h2; exact .inr ⟨by decide, rfl, .inl rfl⟩
  · split at h
    · rename_i hm
      injection h with h1 h2; subst h1 h2; exact .inr ⟨hm, rfl, .inr rfl⟩
    · rename_i hm
      split at h
      · injection h with h1 h2; subst h1 h2; exact .inr ⟨by decide, rfl, .inl rfl⟩
      · injection h with h1 h2; subst h1 h2; exact .inl ⟨rfl, rfl, by
          rcases Decidable.em (may = 0) with h | h
          · exact h
          · exact absurd h hm⟩
def Oth (P : Str → Prop) (F F' : List (Str × DFile)) : Prop := (namesF F').Nodup ∧ ∀ m, ¬ P m → fileOf F' m = fileOf F m
theorem Oth.refl {P : Str → Prop} {F : List (Str × DFile)} (h : (namesF F).Nodup) : Oth P F F := ⟨h, fun _ _ => rfl⟩
theorem Oth.trans {P : Str → Prop} {F F' F'' : List (Str × DFile)} (h : Oth P F F') (h' : Oth P F' F'') : Oth P F F'' := ⟨h'.1, fun m hm => (h'.2 m hm).trans (h.2 m hm)⟩
theorem Oth.weak {P Q : Str → Prop} {F F' : List (Str × DFile)} (h : Oth P F F') (hq : ∀ m, P m → Q m) : Oth Q F F' := ⟨h.1, fun m hm => h.2 m fun hp => hm (hq m hp)⟩
theorem fileOf_none {F : List (Str × DFile)} (h : n ∉ namesF F) : fileOf F n = ⟨[], 0⟩ := by
  unfold fileOf; rw [(getF_none _ _).2 h]; rfl
theorem gone_files (hn : (namesF d.files).Nodup) : Oth (· = n) d.files (d.gone n).1.files ∧ ((d.gone n).2 = 0 → fileOf (d.gone n).1.files n = ⟨[], 0⟩) := by
  obtain ⟨d1, x, hr⟩ : ∃ d1 x, d.remove n = (d1, x) := ⟨_, _, rfl⟩
  unfold Dsk.gone
  rw [hr]
  unfold Dsk.remove at hr
  rcases op_cases hr with ⟨rfl, hf, -⟩ | ⟨hx, hf, hc⟩
  · simp only [hf]
    refine ⟨⟨nodup_delF hn n, fun m hm => ?_⟩, fun _ => ?_⟩
    · rw [fileOf_delF hn, if_neg (Ne.symm hm)]
    · rw [fileOf_delF hn, if_pos rfl]
  · simp only [hf]
    refine ⟨Oth.refl hn, fun h0 => ?_⟩
    have h13 : x = 13 := by
      split at h0
      · assumption
      · exact absurd h0 hx
    have ht : d.there n = 13 := by
      rcases hc with hc | hc
      · omega
      · omega
    refine fileOf_none fun hm => ?_
    unfold Dsk.there at ht
    rw [if_pos hm] at ht
    exact absurd ht (by decide)
theorem append_files (hn : (namesF d.files).Nodup) : Oth (· = n) d.files (d.append n b).1.files ∧ ((d.append n b).2 = 0 → (d.append n b).1.files = setF d.files n ⟨(fileOf d.files n).bytes ++ b, (fileOf d.files n).synced⟩) ∧ ((d.append n b).2 ≠ 0 → (d.append n b).1.files = d.files) := by
  obtain ⟨d1, x, hr⟩ : ∃ d1 x, d.append n b = (d1, x) := ⟨_, _, rfl⟩
  rw [hr]
  unfold Dsk.append at hr
  rcases op_cases hr with ⟨rfl, hf, -⟩ | ⟨hx, hf, hc⟩
  · simp only [hf]
    exact ⟨⟨nodup_setF hn _ _, fun m hm => by rw [fileOf_setF, if_neg (Ne.symm hm)]⟩, fun _ => by first | rfl | trivial, fun h => absurd rfl h⟩
  · simp only [hf]
    exact ⟨Oth.refl hn, fun h => absurd h hx, fun _ => by first | rfl | trivial⟩
theorem sync_files (hn : (namesF d.files).Nodup) : Oth (· = n) d.files (d.sync n).1.files ∧ ((d.sync n).2 = 0 → (d.sync n).1.files = setF d.files n ⟨(fileOf d.files n).bytes, (fileOf d.files n).bytes.length⟩) ∧ ((d.sync n).2 ≠ 0 → (d.sync n).1.files = d.files) := by
  obtain ⟨d1, x, hr⟩ : ∃ d1 x, d.sync n = (d1, x) := ⟨_, _, rfl⟩
  rw [hr]
  unfold Dsk.sync at hr
  rcases op_cases hr with ⟨rfl, hf, -⟩ | ⟨hx, hf, hc⟩
  · simp only [hf]
    exact ⟨⟨nodup_setF hn _ _, fun m hm => by rw [fileOf_setF, if_neg (Ne.symm hm)]⟩, fun _ => by first | rfl | trivial, fun h => absurd rfl h⟩
  · simp only [hf]
    exact ⟨Oth.refl hn, fun h => absurd h hx, fun _ => by first | rfl | trivial⟩
theorem fresh_files (hn : (namesF d.files).Nodup) : Oth (· = n) d.files (d.fresh n b).1.files ∧ ((d.fresh n b).2 = 0 → fileOf (d.fresh n b).1.files n = ⟨b, b.length⟩) := by
  obtain ⟨g1, g2⟩ := gone_files (n := n) hn
  unfold Dsk.fresh
  generalize d.gone n = r1 at g1 g2
  obtain ⟨a1, a2, -⟩ := append_files (n := n) (b := b) g1.1
  simp only [andThen]
  by_cases h1 : r1.2 = 0
  · rw [if_pos h1]
    have g3 := g2 h1
    generalize r1.1.append n b = r2 at a1 a2
    obtain ⟨s1, s2, -⟩ := sync_files (n := n) a1.1
    by_cases h2 : r2.2 = 0
    · rw [if_pos h2]
      refine ⟨(g1.trans a1).trans s1, fun h => ?_⟩
      rw [s2 h, fileOf_setF, if_pos rfl, a2 h2, fileOf_setF, if_pos rfl, g3]
      simp
    · rw [if_neg h2]
      exact ⟨g1.trans a1, fun h => absurd h h2⟩
  · rw [if_neg h1, if_neg h1]
    exact ⟨g1, fun h => absurd h h1⟩
theorem install_files {l : List Pc} (hn : (namesF d.files).Nodup) : Oth (fun m => m = nextS ∨ m = manifestS) d.files (d.install l).1.files ∧
    ((d.install l).2 = 0 → rightL l = true ∧ fileOf (d.install l).1.files manifestS = ⟨manifestB l, (manifestB l).length⟩) ∧ ((d.install l).2 ≠ 0 → fileOf (d.install l).1.files manifestS = fileOf d.files manifestS) := by
  have hne : ¬ manifestS = nextS := by decide
  unfold Dsk.install
  by_cases hr : rightL l = true
  · rw [if_pos hr]
    obtain ⟨f1, f2⟩ := fresh_files (n := nextS) (b := manifestB l) hn
    generalize d.fresh nextS (manifestB l) = r1 at f1 f2
    simp only [andThen]
    by_cases h1 : r1.2 = 0
    · rw [if_pos h1]
      obtain ⟨d2, x, hx⟩ : ∃ d2 x, r1.1.rename nextS manifestS = (d2, x) := ⟨_, _, rfl⟩
      rw [hx]
      unfold Dsk.rename at hx
      rcases op_cases hx with ⟨rfl, hf, -⟩ | ⟨hx, hf, hc⟩
      · simp only [hf]
        refine ⟨⟨nodup_setF (nodup_delF f1.1 _) _ _, fun m hm => ?_⟩, fun _ => ⟨hr, ?_⟩, fun h => absurd rfl h⟩
        · rw [not_or] at hm
          rw [fileOf_setF, if_neg (Ne.symm hm.2), fileOf_delF f1.1, if_neg (Ne.symm hm.1)]
          exact f1.2 m hm.1
        · rw [fileOf_setF, if_pos rfl, f2 h1]
      · simp only [hf]
        exact ⟨f1.weak fun m hm => .inl hm, fun h => absurd h hx, fun _ => f1.2 _ hne⟩
    · rw [if_neg h1]
      exact ⟨f1.weak fun m hm => .inl hm, fun h => absurd h h1, fun _ => f1.2 _ hne⟩
  · rw [if_neg hr]
    exact ⟨Oth.refl hn, fun h => absurd h (by simp), fun _ => rfl⟩
end
def segB (n : Nat) (fs : List (List Ev)) : List UInt8 := headB n ++ fs.flatMap frmB
def FrOk (fs : List (List Ev)) : Prop := ∀ f ∈ fs, 1 ≤ f.length ∧ f.length ≤ 4096 ∧ ∀ e ∈ f, e.Ok
def sealedF (Wh : Pc → List UInt8 → List Ev → Prop) (F : List (Str × DFile)) : List Pc → List Ev → Prop
  | [], es => es = []
  | q :: l, es => ∃ b e1 e2, fileOf F q.name = ⟨b, b.length⟩ ∧ Wh q b e1 ∧ es = e1 ++ e2 ∧ sealedF Wh F l e2
theorem sealedF_congr {Wh : Pc → List UInt8 → List Ev → Prop} {F F' : List (Str × DFile)} : ∀ {l : List Pc} {es : List Ev}, sealedF Wh F l es → (∀ q ∈ l, fileOf F' q.name = fileOf F q.name) → sealedF Wh F' l es
  | [], _, h, _ => h
  | q :: l, es, ⟨b, e1, e2, h1, h2, h3, h4⟩, hs => ⟨b, e1, e2, (hs q (by simp)).trans h1, h2, h3, sealedF_congr h4 fun x hx => hs x (by simp [hx])⟩
theorem sealedF_snoc {Wh : Pc → List UInt8 → List Ev → Prop} {F : List (Str × DFile)} {q : Pc} {b : List UInt8} {e : List Ev} (hf : fileOf F q.name = ⟨b, b.length⟩) (hw : Wh q b e) : ∀ {l : List Pc} {es : List Ev}, sealedF Wh F l es → sealedF Wh F (l ++ [q]) (es ++ e)
  | [], es, h => by
    obtain rfl : es = [] := h
    exact ⟨b, e, [], hf, hw, by simp, rfl⟩
  | x :: l, es, ⟨b', e1, e2, h1, h2, h3, h4⟩ => ⟨b', e1, e2 ++ e, h1, h2, by rw [h3, List.append_assoc], sealedF_snoc hf hw h4⟩
structure KIn (Wh : Pc → List UInt8 → List Ev → Prop) (F : List (Str × DFile)) (L : Lg) (all : List Ev) (A : List Pc) (p : Pc) (old : List Ev) (fs : List (List Ev)) (m : Nat) : Prop where
  nd : (namesF F).Nodup
  l : L.l = A ++ [p]
  right : RightP A p
  man : fileOf F manifestS = ⟨manifestB L.l, (manifestB L.l).length⟩
  old_ : sealedF Wh F A old
  open_ : fileOf F p.name = ⟨segB p.first.toNat fs, (segB p.first.toNat (fs.take m)).length⟩
  m_ : m ≤ fs.length
  fr : FrOk fs
  first : p.first = old.length
  all_ : all = old ++ fs.flatten
  n : L.n = all.length
  acked : L.acked ≤ old.length + (fs.take m).flatten.length
  free : ∀ k : Nat, p.first < k → segName k ∉ L.l.map Pc.name
  pname : p.name = segName p.first.toNat
def KInv (Wh : Pc → List UInt8 → List Ev → Prop) (F : List (Str × DFile)) (L : Lg) (all : List Ev) : Prop := ∃ A p old fs m, KIn Wh F L all A p old fs m
def SealsOk (Wh : Pc → List UInt8 → List Ev → Prop) : Prop := ∀ (q : Pc) (fs : List (List Ev)), FrOk fs → q.dense = false → q.count = fs.flatten.length → 0 ≤ q.first → q.first ≤ 4611686018427387904 → q.name = segName q.first.toNat → Wh q (segB q.first.toNat fs) fs.flatten
section
variable {Wh : Pc → List UInt8 → List Ev → Prop} {F F' : List (Str × DFile)} {d : Dsk} {L L' : Lg} {all old : List Ev} {A : List Pc} {p : Pc} {fs : List (List Ev)} {m : Nat}
theorem right_name (h : RightP A p) : ∀ q ∈ A ++ [p], okPiece q.name = true := by
  have := (rightL_iff A p).2 h
  exact fun q hq => ((rightL_bound this).2.2 q hq).1
theorem right_bound (h : RightP A p) : ∀ q ∈ A ++ [p], 0 ≤ q.first ∧ q.first < 2 ^ 60 := by
  have := (rightL_iff A p).2 h
  exact fun q hq => ⟨((rightL_bound this).2.2 q hq).2.1, ((rightL_bound this).2.2 q hq).2.2.1⟩
theorem KIn.lg (h : KIn Wh F L all A p old fs m) (h1 : L'.l = L.l) (h2 : L'.n = L.n) (h3 : L'.acked = L.acked) : KIn Wh F L' all A p old fs m :=
  ⟨h.nd, h1.trans h.l, h.right, by rw [h1]; exact h.man, h.old_, h.open_, h.m_, h.fr, h.first, h.all_, h2.trans h.n, by rw [h3]; exact h.acked, by rw [h1]; exact h.free, h.pname⟩
theorem KIn.files (h : KIn Wh F L all A p old fs m) (hn : (namesF F').Nodup) (hs : ∀ x, (x = manifestS ∨ ∃ q ∈ L.l, x = q.name) → fileOf F' x = fileOf F x) : KIn Wh F' L all A p old fs m :=
  ⟨hn, h.l, h.right, (hs _ (.inl rfl)).trans h.man, sealedF_congr h.old_ fun q hq => hs _ (.inr ⟨q, by rw [h.l]; simp [hq], rfl⟩), (hs _ (.inr ⟨p, by rw [h.l]; simp, rfl⟩)).trans h.open_, h.m_, h.fr, h.first, h.all_, h.n, h.acked, h.free, h.pname⟩
theorem KIn.apart (h : KIn Wh F L all A p old fs m) : ¬ manifestS = p.name ∧ ∀ q ∈ A, q.name ≠ p.name := by
  refine ⟨fun hc => (okPiece_name h.right.name).2.1 hc.symm, fun q hq hc => h.right.apart (List.mem_map.2 ⟨q, hq, hc⟩)⟩
theorem KIn.open1 (h : KIn Wh F L all A p old fs m) {f : DFile} {fs' : List (List Ev)} {m' : Nat} (hf : f = ⟨segB p.first.toNat fs', (segB p.first.toNat (fs'.take m')).length⟩) (hm : m' ≤ fs'.length) (hfr : FrOk fs') (h1 : L'.l = L.l) (h2 : L'.n = (old ++ fs'.flatten).length) (h3 : L'.acked ≤ old.length + (fs'.take m').flatten.length) :
    KIn Wh (setF F p.name f) L' (old ++ fs'.flatten) A p old fs' m' := by
  obtain ⟨a1, a2⟩ := h.apart
  refine ⟨nodup_setF h.nd _ _, h1.trans h.l, h.right, ?_, sealedF_congr h.old_ fun q hq => ?_, ?_, hm, hfr, h.first, rfl, h2, h3, by rw [h1]; exact h.free, h.pname⟩
  · rw [fileOf_setF, if_neg (Ne.symm a1), h1]; exact h.man
  · rw [fileOf_setF, if_neg (Ne.symm (a2 q hq))]
  · rw [fileOf_setF, if_pos rfl, hf]
theorem KIn.syncF (h : KIn Wh F L all A p old fs m) (h1 : L'.l = L.l) (h2 : L'.n = L.n) (h3 : L'.acked ≤ L.n) : KIn Wh (setF F p.name ⟨(fileOf F p.name).bytes, (fileOf F p.name).bytes.length⟩) L' all A p old fs fs.length := by
  have e := h.all_
  have hn := h.n
  subst e
  refine h.open1 ?_ (Nat.le_refl _) h.fr h1 (h2.trans hn) ?_
  · rw [h.open_, List.take_length]
  · rw [List.take_length]; simp only [List.length_append] at hn; omega
theorem KIn.last (h : KIn Wh F L all A p old fs m) : lastP L.l = p := by rw [h.l, lastP_snoc]
theorem KInv.le (h : KInv Wh F L all) : L.acked ≤ L.n ∧ L.n = all.length := by
  obtain ⟨A, p, old, fs, m, h⟩ := h
  refine ⟨?_, h.n⟩
  have h1 := h.acked
  have h2 := h.n
  have h3 : (fs.take m).flatten.length ≤ fs.flatten.length := by
    conv => rhs; rw [← List.take_append_drop m fs, List.flatten_append, List.length_append]
    omega
  rw [h.all_, List.length_append] at h2
  omega
theorem morePcs_at (h : L.l = A ++ [p]) : morePcs L = (A ++ [{ p with count := L.n - p.first }]) ++ [⟨segName L.n, L.n, 0, false⟩] := by
  unfold morePcs
  rw [h, lastP_snoc, List.dropLast_concat]
  simp
theorem KInv.another (hW : SealsOk Wh) (h : KInv Wh d.files L all) (hp : (lastP L.l).first < L.n) : KInv Wh (L.another d).d.files (L.another d).L all := by
  obtain ⟨A, p, old, fs, m, h⟩ := h
  have hl := h.last
  rw [hl] at hp
  unfold Lg.another
  rw [hl]
  split
  · exact ⟨_, _, _, _, _, h⟩
  obtain ⟨s1, s2, s3⟩ := sync_files (d := d) (n := p.name) h.nd
  split
  · rename_i h1
    exact ⟨_, _, _, _, _, by simp only; rw [s3 h1]; exact h⟩
  rename_i h1
  have h1 : (d.sync p.name).2 = 0 := by
    rcases Decidable.em ((d.sync p.name).2 = 0) with h | h
    · exact h
    · exact absurd h h1
  have s4 := s2 h1
  generalize d.sync p.name = r1 at *
  have K1 : KIn Wh r1.1.files { L with acked := L.n } all A p old fs fs.length := by
    rw [s4]; exact h.syncF rfl rfl (Nat.le_refl _)
  obtain ⟨b1, b2⟩ := fresh_files (d := r1.1) (n := segName L.n) (b := headB L.n) K1.nd
  have hfree := h.free L.n hp
  have K2 : KIn Wh (r1.1.begun L.n).1.files { L with acked := L.n } all A p old fs fs.length := by
    refine K1.files b1.1 fun x hx => b1.2 x fun hc => ?_
    subst hc
    rcases hx with hx | ⟨q, hq, hx⟩
    · exact absurd (List.cons.inj hx).1 (by decide)
    · exact hfree (List.mem_map.2 ⟨q, hq, hx.symm⟩)
  split
  · exact ⟨_, _, _, _, _, K2⟩
  rename_i h2
  have h2 : (r1.1.begun L.n).2 = 0 := by
    rcases Decidable.em ((r1.1.begun L.n).2 = 0) with h | h
    · exact h
    · exact absurd h h2
  have b3 : fileOf (r1.1.begun L.n).1.files (segName L.n) = ⟨headB L.n, (headB L.n).length⟩ := b2 h2
  generalize r1.1.begun L.n = r2 at *
  obtain ⟨i1, i2, i3⟩ := install_files (d := r2.1) (l := morePcs L) K2.nd
  have hok := right_name h.right
  have K3 : ∀ x, (∃ q ∈ L.l, x = q.name) → fileOf (r2.1.install (morePcs L)).1.files x = fileOf r2.1.files x := fun x hx => i1.2 x fun hc => by
    obtain ⟨q, hq, rfl⟩ := hx
    have hq' := okPiece_name (hok q (by rw [← h.l]; exact hq))
    rcases hc with hc | hc
    · exact hq'.2.2 hc
    · exact hq'.2.1 hc
  split
  · rename_i h3
    exact ⟨_, _, _, _, _, K2.files i1.1 fun x hx => by
      rcases hx with rfl | hx
      · exact i3 h3
      · exact K3 x hx⟩
  · rename_i h3
    have h3 : (r2.1.install (morePcs L)).2 = 0 := by
      rcases Decidable.em ((r2.1.install (morePcs L)).2 = 0) with h | h
      · exact h
      · exact absurd h h3
    obtain ⟨i4, i5⟩ := i2 h3
    have hm := morePcs_at h.l
    have hR : RightP (A ++ [{ p with count := L.n - p.first }]) ⟨segName L.n, L.n, 0, false⟩ := (rightL_iff _ _).1 (by rw [← hm]; exact i4)
    have hall := h.all_
    have hn := h.n
    have hfi := h.first
    have hb := right_bound h.right p (by simp)
    have hdense := h.right.dense
    have hcnt : ((L.n : Int) - p.first) = fs.flatten.length := by rw [hn, hall, List.length_append, hfi]; omega
    refine ⟨_, _, old ++ fs.flatten, [], 0, ⟨i1.1, hm, hR, i5, ?_, ?_, Nat.le_refl _, (fun f hf => by cases hf), ?_, by rw [hall]; simp, hn, ?_, ?_, by simp⟩⟩
    · refine sealedF_snoc (b := segB p.first.toNat fs) ?_ ?_ (sealedF_congr K2.old_ fun q hq => K3 _ ⟨q, by rw [h.l]; simp [hq], rfl⟩)
      · simp only
        rw [K3 _ ⟨p, by rw [h.l]; simp, rfl⟩, K2.open_, List.take_length]
      · exact hW { p with count := (L.n : Int) - p.first } fs h.fr hdense hcnt hb.1 (by simp only; omega) h.pname
    · simp only
      have hne : ¬ (segName L.n = nextS ∨ segName L.n = manifestS) := by
        rintro (hc | hc)
        · exact absurd (List.cons.inj hc).1 (by decide)
        · exact absurd (List.cons.inj hc).1 (by decide)
      rw [i1.2 _ hne, b3]
      simp [segB]
    · simp only; rw [hn, hall]
    · simp only; rw [hn, hall]; simp
    · intro k hk
      simp only at hk
      simp only
      rw [hm]
      simp only [List.map_append, List.map_cons, List.map_nil, List.mem_append, List.mem_singleton, not_or]
      have hf := h.free k (by omega)
      rw [h.l] at hf
      simp only [List.map_append, List.map_cons, List.map_nil, List.mem_append, List.mem_singleton, not_or] at hf
      exact ⟨hf, fun hc => by have := segName_inj hc; omega⟩
theorem segB_snoc (n : Nat) (fs : List (List Ev)) (es : List Ev) : segB n (fs ++ [es]) = segB n fs ++ frmB es := by simp [segB]
theorem KInv.put (h : KInv Wh d.files L all) {es : List Ev} (h1 : 1 ≤ es.length) (h2 : es.length ≤ 4096) (h3 : ∀ e ∈ es, e.Ok) : KInv Wh (L.put d es).d.files (L.put d es).L (if (L.put d es).e = 0 then all ++ es else all) := by
  obtain ⟨A, p, old, fs, m, h⟩ := h
  unfold Lg.put
  rw [h.last]
  obtain ⟨s1, s2, s3⟩ := append_files (d := d) (n := p.name) (b := frmB es) h.nd
  split
  · rename_i h0
    simp only
    rw [s3 h0]
    exact ⟨_, _, _, _, _, h.lg rfl rfl rfl⟩
  · rename_i h0
    have h0 : (d.append p.name (frmB es)).2 = 0 := by
      rcases Decidable.em ((d.append p.name (frmB es)).2 = 0) with h | h
      · exact h
      · exact absurd h h0
    simp only
    rw [if_pos trivial, s2 h0]
    have hall := h.all_
    have hn := h.n
    have hopen := h.open_
    have hm := h.m_
    have hak := h.acked
    have e : all ++ es = old ++ (fs ++ [es]).flatten := by rw [hall]; simp
    have ht : (fs ++ [es]).take m = fs.take m := List.take_append_of_le_length hm
    rw [e]
    refine ⟨_, _, _, fs ++ [es], m, h.open1 ?_ (by simp; omega) ?_ rfl ?_ ?_⟩
    · rw [hopen, segB_snoc, ht]
    · intro f hf
      rcases List.mem_append.1 hf with hf | hf
      · exact h.fr f hf
      · rw [List.mem_singleton] at hf; subst hf; exact ⟨h1, h2, h3⟩
    · simp only; rw [hn, ← e]; simp
    · simp only; rw [ht]; exact hak
theorem KInv.add (hW : SealsOk Wh) (h : KInv Wh d.files L all) {es : List Ev} (h3 : ∀ e ∈ es, e.Ok) : KInv Wh (L.add d es).d.files (L.add d es).L (if (L.add d es).e = 0 then all ++ es else all) := by
  unfold Lg.add
  split
  · exact h
  split
  · exact h
  split
  · exact h
  rename_i h1 h2
  have hr : KInv Wh (L.roomed d).d.files (L.roomed d).L all := by
    unfold Lg.roomed
    split
    · rename_i hc; exact h.another hW hc.1
    · exact h
  split
  · rename_i h0
    simp only
    obtain ⟨A, p, old, fs, m, hr⟩ := hr
    exact ⟨_, _, _, _, _, hr.lg rfl rfl rfl⟩
  · exact hr.put (by omega) (by omega) h3
theorem KInv.sync (h : KInv Wh d.files L all) : KInv Wh (L.sync d).d.files (L.sync d).L all ∧ ((L.sync d).e = 0 → (L.sync d).L.acked = L.n) ∧ (L.sync d).L.n = L.n := by
  obtain ⟨A, p, old, fs, m, h⟩ := h
  unfold Lg.sync
  rw [h.last]
  obtain ⟨s1, s2, s3⟩ := sync_files (d := d) (n := p.name) h.nd
  split
  · exact ⟨⟨_, _, _, _, _, h⟩, fun h => absurd h (by show ¬ (16 : Int) = 0; decide), rfl⟩
  split
  · rename_i h0
    simp only
    rw [s3 h0]
    exact ⟨⟨_, _, _, _, _, h.lg rfl rfl rfl⟩, fun h => absurd h h0, by first | rfl | trivial⟩
  · rename_i h0
    have h0 : (d.sync p.name).2 = 0 := by
      rcases Decidable.em ((d.sync p.name).2 = 0) with h | h
      · exact h
      · exact absurd h h0
    simp only
    rw [s2 h0]
    exact ⟨⟨_, _, _, _, _, h.syncF rfl rfl (Nat.le_refl _)⟩, fun _ => by first | rfl | trivial, by first | rfl | trivial⟩
end
def Whole (q : Pc) (b : List UInt8) (es : List Ev) : Prop := scanB b = (q.first, es, (b.length : Int), 0) ∧ q.count = es.length
theorem seals_whole : SealsOk Whole := by
  intro q fs hf hd hc h0 h1 _
  have := scanB_at (n := q.first.toNat) (by omega) fs [] hf (fun a' => by rw [List.append_nil, readFr_end]; simp)
  rw [List.append_nil] at this
  exact ⟨by unfold segB; rw [this]; simp; omega, hc⟩
theorem read_of {d : Dsk} (hd : d.down = false) {n : Str} {b : List UInt8} (hb : (fileOf d.files n).bytes = b) (hne : b ≠ []) : d.read n = (b, 0) := by
  unfold Dsk.read
  rw [hd]
  simp only [Bool.false_eq_true, if_false]
  unfold fileOf at hb
  cases hg : getF d.files n with
  | none => rw [hg] at hb; exact absurd hb.symm hne
  | some f => rw [hg] at hb; simp only [Option.getD_some] at hb; show (f.bytes, (0 : Int)) = _; rw [hb]
theorem manifestB_ne (l : List Pc) : manifestB l ≠ [] := by simp [manifestB, manifestIn, sealB]
theorem headB_ne (n : Nat) : headB n ≠ [] := by simp [headB, sealB]
theorem take_seg (n : Nat) (fs : List (List Ev)) (m k : Nat) (hk : (segB n (fs.take m)).length ≤ k) (hm : m ≤ fs.length) : ∃ (i : Nat) (f : List Ev) (j : Nat), m ≤ i ∧ i ≤ fs.length ∧ (segB n fs).take k = headB n ++ ((fs.take i).flatMap frmB ++ (frmB f).take j) ∧ (j = 0 ∨ (f ∈ fs ∧ j < (frmB f).length)) := by
  have hh : (headB n).length ≤ k := by unfold segB at hk; rw [List.length_append] at hk; omega
  obtain ⟨i, f, j, h1, h2, -, h4, h5⟩ := frames_take fs (k - (headB n).length)
  refine ⟨i, f, j, h5 m (by unfold segB at hk; rw [List.length_append] at hk; omega) hm, h1, ?_, h4⟩
  unfold segB
  rw [List.take_append, List.take_of_length_le hh, h2]
theorem KInv.new (mo : Int) (hm : 40 ≤ mo) {size : Int} (hs : 64 ≤ size) (hs2 : size ≤ 16777216) {Wh : Pc → List UInt8 → List Ev → Prop} {d : Dsk} (h : createD (newDsk mo) size = (d, 0)) : KInv Wh d.files (newLg size) [] := by
  obtain ⟨F, h1, h2, h3, h4⟩ := create_calm' mo hm hs hs2
  rw [h] at h1
  injection h1 with h1 _
  subst h1
  refine ⟨[], _, [], [], 0, ⟨h2.calm.names, h2.l, h2.right, h2.man, rfl, ?_, Nat.le_refl _, (fun f hf => by cases hf), rfl, rfl, rfl, by simp [newLg], fun k hk => ?_, rfl⟩⟩
  · simp only [h4]
    simp [fileOf, getF, segB]
  · simp only [newLg, List.map_cons, List.map_nil, List.mem_singleton]
    intro hc
    have := segName_inj hc
    subst this
    exact absurd hk (by decide)
end Go.Proofs.YtkhcdbafcigeoaaGreatDoor
