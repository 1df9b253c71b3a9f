/-
  Texts merged by a program of this claim's: RecKeep, RecCalm.
-/
import Derived.Test.YtkhcdbafcigeoaaGreatDoorM31
namespace Go.Proofs.YtkhcdbafcigeoaaGreatDoor
open Go

section
variable {U : List UInt8 → Int × List Ev × Int} {d : Dsk} {l A : List Pc} {p : Pc} {old told : List Ev} {fs : List (List Ev)} {t : List UInt8} {m sure : Nat} {L : Lg} {all : List Ev} {F F' : List (Str × DFile)} {Wh : Pc → List UInt8 → List Ev → Prop}
theorem readFl_of (hd : d.down = false) {n : Str} {b : List UInt8} (hb : (fileOf d.files n).bytes = b) (hne : b ≠ []) : readFl d n = (b, 0) := by
  unfold readFl; rw [read_of hd hb hne]; simp
theorem pcsD_sealed (hd : d.down = false) (p : Pc) : ∀ (A : List Pc) (out es : List Ev) (g : Int), sealedF (WholeU U) d.files A es → pcsD U d (A ++ [p]) out g = pcsD U d [p] (out ++ es) 0
  | [], out, es, g, h => by
    obtain rfl : es = [] := h
    simp [pcsD]
  | q :: A, out, es, g, ⟨b, e1, e2, h1, ⟨h2, h2', hne, _⟩, h3, h4⟩ => by
    have hr := readFl_of hd (congrArg DFile.bytes h1) hne
    have hn : decide (A ++ [p] = []) = false := by simp
    have hp : pieceD U d q false = (e1, (b.length : Int), 0) := by
      unfold pieceD
      rw [hr, if_neg (by simp), if_neg]
      · simp only; rw [h2]
      · unfold segBad
        simp only
        rw [h2]
        rintro (h | h | ⟨-, h | h⟩)
        · exact h rfl
        · exact h rfl
        · exact absurd h (by simp)
        · exact h h2'.symm
    rw [List.cons_append]
    conv => lhs; unfold pcsD
    rw [hn, hp, if_neg (by simp)]
    simp only
    rw [pcsD_sealed hd p A _ e2 _ h4, h3, List.append_assoc]
theorem seg_ne (n : Nat) (fs : List (List Ev)) (t : List UInt8) : segB n fs ++ t ≠ [] := by
  have := headB_ne n
  intro hc
  exact this (List.append_eq_nil_iff.1 (List.append_eq_nil_iff.1 hc).1).1
theorem TIn.scan1 (h : TIn Wh F l A p old fs t m) : scanB (segB p.first.toNat fs ++ t) = (p.first, fs.flatten, ((segB p.first.toNat fs).length : Int), 0) := by
  have hb := right_bound h.right p (by simp)
  have hsc := scanB_at (n := p.first.toNat) (by omega) fs t h.fr h.torn.none
  have e : segB p.first.toNat fs ++ t = headB p.first.toNat ++ (fs.flatMap frmB ++ t) := by simp [segB]
  rw [e, hsc]
  simp only [segB, Prod.mk.injEq, and_true]
  omega
theorem TIn.scan (hd : d.down = false) (h : TIn (WholeU U) d.files l A p old fs t m) : scanD U d = ⟨old ++ fs.flatten, l, ((segB p.first.toNat fs).length : Int), 0⟩ := by
  have hr := read_of hd (congrArg DFile.bytes h.man) (manifestB_ne _)
  obtain ⟨s, ho, hs⟩ := h.open_
  have hr2 := readFl_of hd (congrArg DFile.bytes ho) (seg_ne _ _ _)
  have hsc := h.scan1
  have hseg : segR U p.dense (segB p.first.toNat fs ++ t) = (p.first, fs.flatten, ((segB p.first.toNat fs).length : Int), 0) := by
    unfold segR; rw [h.right.dense]; simpa using hsc
  have hp : pieceD U d p true = (fs.flatten, ((segB p.first.toNat fs).length : Int), 0) := by
    unfold pieceD
    rw [hr2, if_neg (by simp), if_neg]
    · simp only; rw [hseg]
    · unfold segBad
      simp only
      rw [hseg]
      rintro (h | h | ⟨h, -⟩)
      · exact h rfl
      · exact h rfl
      · cases h
  have hall : pcsD U d l [] 0 = (old ++ fs.flatten, ((segB p.first.toNat fs).length : Int), 0) := by
    rw [h.l_, pcsD_sealed hd p A [] old 0 h.old_]
    unfold pcsD
    rw [show decide (([] : List Pc) = []) = true by simp, hp, if_neg (by simp)]
    simp [pcsD]
  unfold scanD
  rw [hr]
  simp only
  rw [listedB_at h.rightL]
  simp only
  rw [hall]
  simp
theorem read_no (hd : d.down = false) {n : Str} (h : n ∉ namesF d.files) : d.read n = ([], 13) := by
  unfold Dsk.read
  rw [hd, (getF_none _ _).2 h]
  rfl
theorem scan_no (hd : d.down = false) (h : manifestS ∉ namesF d.files) : scanD U d = ⟨[], [], 0, 0⟩ := by
  unfold scanD
  rw [read_no hd h]
  simp
theorem scan_down (hd : d.down = true) : scanD U d = ⟨[], [], 0, 15⟩ := by
  have : d.read manifestS = ([], 15) := by unfold Dsk.read; rw [hd]; simp
  unfold scanD
  rw [this]
  simp
def NoMan (F : List (Str × DFile)) : Prop := (namesF F).Nodup ∧ manifestS ∉ namesF F
def Rt (Wh : Pc → List UInt8 → List Ev → Prop) (F : List (Str × DFile)) (told : List Ev) (sure : Nat) : Prop :=
  (NoMan F ∧ told = [] ∧ sure = 0) ∨ ∃ l A p old fs t m, TIn Wh F l A p old fs t m ∧ told = old ++ fs.flatten ∧ sure ≤ old.length + (fs.take m).flatten.length
theorem flat_take_le (fs : List (List Ev)) {m i : Nat} (h : m ≤ i) : (fs.take m).flatten.length ≤ (fs.take i).flatten.length := by
  have : fs.take m = (fs.take i).take m := by rw [List.take_take, Nat.min_eq_left h]
  rw [this]
  conv => rhs; rw [← List.take_append_drop m (fs.take i), List.flatten_append, List.length_append]
  omega
theorem flat_take_all (fs : List (List Ev)) (m : Nat) : (fs.take m).flatten.length ≤ fs.flatten.length := by
  conv => rhs; rw [← List.take_append_drop m fs, List.flatten_append, List.length_append]
  omega
theorem Rt.le (h : Rt Wh F told sure) : sure ≤ told.length := by
  rcases h with ⟨-, rfl, rfl⟩ | ⟨l, A, p, old, fs, t, m, h, rfl, hs⟩
  · simp
  · have := flat_take_all fs m
    rw [List.length_append]; omega
theorem Rt.cr (h : Rt Wh F told sure) (hc : Cr F F') : ∃ i, sure ≤ i ∧ i ≤ told.length ∧ Rt Wh F' (told.take i) i := by
  rcases h with ⟨⟨h1, h2⟩, rfl, rfl⟩ | ⟨l, A, p, old, fs, t, m, h, rfl, hs⟩
  · exact ⟨0, by omega, by simp, .inl ⟨⟨by rw [hc.1]; exact h1, by rw [hc.1]; exact h2⟩, by simp, rfl⟩⟩
  · obtain ⟨i, t', i1, i2, h'⟩ := h.cr hc
    have h3 := flat_take_le fs i1
    have h4 := flat_take_all fs i
    have e : (old ++ fs.flatten).take (old.length + (fs.take i).flatten.length) = old ++ (fs.take i).flatten := by
      have hfl : fs.flatten = (fs.take i).flatten ++ (fs.drop i).flatten := by rw [← List.flatten_append, List.take_append_drop]
      rw [hfl, ← List.append_assoc, List.take_append_of_le_length (Nat.le_of_eq List.length_append.symm), List.take_of_length_le (Nat.le_of_eq List.length_append)]
    refine ⟨old.length + (fs.take i).flatten.length, by omega, by rw [List.length_append]; omega, .inr ⟨l, A, p, old, fs.take i, t', i, h', e, ?_⟩⟩
    rw [List.take_take, Nat.min_self]
    exact Nat.le_refl _
theorem Rt.scan (hd : d.down = false) (h : Rt (WholeU U) d.files told sure) : (scanD U d).e = 0 ∧ (scanD U d).es = told := by
  rcases h with ⟨h1, rfl, rfl⟩ | ⟨l, A, p, old, fs, t, m, h, rfl, hs⟩
  · rw [scan_no hd h1.2]; exact ⟨rfl, rfl⟩
  · rw [h.scan hd]; exact ⟨rfl, rfl⟩
theorem rmAll_files (stays : List Str) : ∀ (l : List Str) (d : Dsk), (namesF d.files).Nodup → (namesF (rmAll stays l d).1.files).Nodup ∧ (∀ x ∈ stays, fileOf (rmAll stays l d).1.files x = fileOf d.files x) ∧ ∀ x, x ∈ namesF (rmAll stays l d).1.files → x ∈ namesF d.files
  | [], d, h => ⟨h, fun _ _ => rfl, fun _ h => h⟩
  | n :: l, d, h => by
    unfold rmAll
    split
    · exact rmAll_files stays l d h
    · rename_i hn
      obtain ⟨d1, x, hr⟩ : ∃ d1 x, d.remove n = (d1, x) := ⟨_, _, rfl⟩
      have key : (namesF d1.files).Nodup ∧ (∀ x ∈ stays, fileOf d1.files x = fileOf d.files x) ∧ ∀ x, x ∈ namesF d1.files → x ∈ namesF d.files := by
        unfold Dsk.remove at hr
        rcases op_cases hr with ⟨-, hf, -⟩ | ⟨-, hf, -⟩
        · rw [hf]
          refine ⟨nodup_delF h n, fun x hx => ?_, fun x hx => ?_⟩
          · rw [fileOf_delF h, if_neg (fun e => hn (by rw [e]; exact hx))]
          · rw [namesF_delF] at hx; exact List.mem_of_mem_erase hx
        · rw [hf]
          exact ⟨h, fun _ _ => rfl, fun _ h => h⟩
      rw [hr]
      split
      · exact key
      · obtain ⟨a, b, c⟩ := rmAll_files stays l d1 key.1
        exact ⟨a, fun x hx => (b x hx).trans (key.2.1 x hx), fun x hx => key.2.2 x (c x hx)⟩
theorem cut_files {n : Str} {k : Int} : ((d.cut n k).2 = 0 ∧ (d.cut n k).1.files = setF d.files n ⟨(fileOf d.files n).bytes.take k.toNat, k.toNat⟩) ∨ ((d.cut n k).2 ≠ 0 ∧ (d.cut n k).1.files = d.files) := by
  obtain ⟨d1, x, hr⟩ : ∃ d1 x, d.cut n k = (d1, x) := ⟨_, _, rfl⟩
  rw [hr]
  unfold Dsk.cut at hr
  rcases op_cases hr with ⟨h1, h2, -⟩ | ⟨h1, h2, -⟩
  · exact .inl ⟨h1, h2⟩
  · exact .inr ⟨h1, h2⟩
theorem TIn.cutD (h : TIn Wh d.files l A p old fs t m) : (∃ t' m', m ≤ m' ∧ TIn Wh (cutD d l ((segB p.first.toNat fs).length : Int)).1.files l A p old fs t' m') ∧
    ((Go.Proofs.YtkhcdbafcigeoaaGreatDoor.cutD d l ((segB p.first.toNat fs).length : Int)).2 = 0 → ∃ m', m ≤ m' ∧ TIn Wh (Go.Proofs.YtkhcdbafcigeoaaGreatDoor.cutD d l ((segB p.first.toNat fs).length : Int)).1.files l A p old fs [] m') := by
  obtain ⟨s, ho, hs⟩ := h.open_
  unfold Go.Proofs.YtkhcdbafcigeoaaGreatDoor.cutD
  rw [h.last, ho]
  simp only
  split
  · rename_i hc
    rcases cut_files (d := d) (n := p.name) (k := ((segB p.first.toNat fs).length : Int)) with ⟨c1, c2⟩ | ⟨c1, c2⟩
    · have key : TIn Wh (d.cut p.name ((segB p.first.toNat fs).length : Int)).1.files l A p old fs [] fs.length := by
        rw [c2, ho]
        refine h.at_ ?_ ?_ (Nat.le_refl _) h.fr (.inl rfl)
        · simp
        · simp
      exact ⟨⟨_, _, h.m_, key⟩, fun _ => ⟨_, h.m_, key⟩⟩
    · rw [c2]
      exact ⟨⟨_, _, Nat.le_refl _, h⟩, fun hx => absurd hx c1⟩
  · rename_i hc
    refine ⟨⟨_, _, Nat.le_refl _, h⟩, fun _ => ⟨_, Nat.le_refl _, ?_⟩⟩
    have ht : t = [] := by
      rcases Nat.eq_zero_or_pos t.length with h0 | h0
      · exact List.eq_nil_of_length_eq_zero h0
      · exact absurd ⟨h.ne, by rw [List.length_append]; omega⟩ hc
    subst ht
    exact h
theorem Rt.mend (h : Rt (WholeU U) d.files told sure) : Rt (WholeU U) (mendD U d).d.files told sure := by
  unfold mendD
  by_cases hd : d.down = true
  · rw [scan_down hd]
    unfold mendWith
    rw [if_pos (by simp)]
    exact h
  have hd : d.down = false := by simpa using hd
  rcases h with ⟨h1, h2, h3⟩ | ⟨l, A, p, old, fs, t, m, h, h1, h2⟩
  · rw [scan_no hd h1.2]
    have hc : cutD d [] 0 = (d, 0) := by unfold cutD; simp
    unfold mendWith
    simp only
    rw [hc]
    obtain ⟨a, b, c⟩ := rmAll_files (staysOf []) d.list d h1.1
    have key : Rt (WholeU U) (rmAll (staysOf []) d.list d).1.files told sure := .inl ⟨⟨a, fun hm => h1.2 (c _ hm)⟩, h2, h3⟩
    rw [if_neg (by simp), if_neg (by simp)]
    split
    · exact key
    · exact key
  · rw [h.scan hd]
    obtain ⟨⟨t', m', m1, hT⟩, -⟩ := h.cutD
    unfold mendWith
    simp only
    rw [if_neg (by simp)]
    have h2' : sure ≤ old.length + (fs.take m').flatten.length := by have := flat_take_le fs m1; omega
    generalize cutD d l ((segB p.first.toNat fs).length : Int) = r at hT
    split
    · exact .inr ⟨l, A, p, old, fs, t', m', hT, h1, h2'⟩
    · obtain ⟨a, b, c⟩ := rmAll_files (staysOf l) r.1.list r.1 hT.nd
      have key : Rt (WholeU U) (rmAll (staysOf l) r.1.list r.1).1.files told sure := .inr ⟨l, A, p, old, fs, t', m', hT.files a b, h1, h2'⟩
      split
      · exact key
      · exact key
theorem Rt.mend0 (h : Rt (WholeU U) d.files told sure) (he : (mendD U d).e = 0) : (mendD U d).es = told ∧
    (((mendD U d).ps = [] ∧ NoMan (mendD U d).d.files ∧ told = [] ∧ sure = 0) ∨ ∃ A p old fs m, TIn (WholeU U) (mendD U d).d.files (mendD U d).ps A p old fs [] m ∧ told = old ++ fs.flatten ∧ sure ≤ old.length + (fs.take m).flatten.length) := by
  unfold mendD at he ⊢
  by_cases hd : d.down = true
  · rw [scan_down hd] at he
    unfold mendWith at he
    rw [if_pos (by simp)] at he
    exact absurd he (by simp)
  have hd : d.down = false := by simpa using hd
  rcases h with ⟨h1, h2, h3⟩ | ⟨l, A, p, old, fs, t, m, h, h1, h2⟩
  · rw [scan_no hd h1.2] at he ⊢
    have hc : cutD d [] 0 = (d, 0) := by unfold cutD; simp
    unfold mendWith at he ⊢
    simp only at he ⊢
    rw [hc] at he ⊢
    obtain ⟨a, b, c⟩ := rmAll_files (staysOf []) d.list d h1.1
    rw [if_neg (by simp), if_neg (by simp)] at he ⊢
    split at he
    · rename_i hx; exact absurd he hx
    · rename_i hx
      rw [if_neg hx]
      exact ⟨h2.symm, .inl ⟨rfl, ⟨a, fun hm => h1.2 (c _ hm)⟩, h2, h3⟩⟩
  · rw [h.scan hd] at he ⊢
    obtain ⟨-, hT⟩ := h.cutD
    unfold mendWith at he ⊢
    simp only at he ⊢
    rw [if_neg (by simp)] at he ⊢
    generalize cutD d l ((segB p.first.toNat fs).length : Int) = r at hT he
    split at he
    · rename_i hx; exact absurd he hx
    · rename_i hx
      rw [if_neg hx]
      have h0 : r.2 = 0 := by
        rcases Decidable.em (r.2 = 0) with h | h
        · exact h
        · exact absurd h hx
      obtain ⟨m', m1, hT⟩ := hT h0
      obtain ⟨a, b, c⟩ := rmAll_files (staysOf l) r.1.list r.1 hT.nd
      split at he
      · rename_i hy; exact absurd he hy
      · rename_i hy
        rw [if_neg hy]
        exact ⟨h1.symm, .inr ⟨A, p, old, fs, m', hT.files a b, h1, by have := flat_take_le fs m1; omega⟩⟩
theorem fresh_names {n : Str} {b : List UInt8} : ∀ x, x ∈ namesF (d.fresh n b).1.files → x = n ∨ x ∈ namesF d.files := by
  have hop : ∀ (d : Dsk) (may : Int) (act : List (Str × DFile) → List (Str × DFile)), (∀ x, x ∈ namesF (act d.files) → x = n ∨ x ∈ namesF d.files) → ∀ x, x ∈ namesF (d.op may act).1.files → x = n ∨ x ∈ namesF d.files := by
    intro d may act ha x hx
    obtain ⟨d1, y, hr⟩ : ∃ d1 y, d.op may act = (d1, y) := ⟨_, _, rfl⟩
    rw [hr] at hx
    rcases op_cases hr with ⟨-, hf, -⟩ | ⟨-, hf, -⟩
    · rw [hf] at hx; exact ha x hx
    · rw [hf] at hx; exact .inr hx
  have hset : ∀ (L : List (Str × DFile)) (f : DFile) x, x ∈ namesF (setF L n f) → x = n ∨ x ∈ namesF L := by
    intro L f x hx
    rw [nmF_setF] at hx
    split at hx
    · exact .inr hx
    · rcases List.mem_append.1 hx with h | h
      · exact .inr h
      · exact .inl (by simpa using h)
  have h1 : ∀ d : Dsk, ∀ x, x ∈ namesF (d.gone n).1.files → x = n ∨ x ∈ namesF d.files := fun d => hop d _ _ fun x hx => by rw [namesF_delF] at hx; exact .inr (List.mem_of_mem_erase hx)
  have h2 : ∀ d : Dsk, ∀ x, x ∈ namesF (d.append n b).1.files → x = n ∨ x ∈ namesF d.files := fun d => hop d _ _ fun x hx => hset _ _ x hx
  have h3 : ∀ d : Dsk, ∀ x, x ∈ namesF (d.sync n).1.files → x = n ∨ x ∈ namesF d.files := fun d => hop d _ _ fun x hx => hset _ _ x hx
  intro x hx
  simp only [Dsk.fresh, andThen] at hx
  have key : ∀ r : Dsk × Int, (∀ x, x ∈ namesF r.1.files → x = n ∨ x ∈ namesF d.files) → x ∈ namesF (if r.2 = 0 then r.1.sync n else r).1.files → x = n ∨ x ∈ namesF d.files := by
    intro r hr hx
    split at hx
    · rcases h3 _ x hx with h | h
      · exact .inl h
      · exact hr x h
    · exact hr x hx
  refine key _ (fun x hx => ?_) hx
  split at hx
  · rcases h2 _ x hx with h | h
    · exact .inl h
    · exact h1 _ x h
  · exact h1 _ x hx
theorem Rt.create (h : NoMan d.files) {size : Int} (hs : 64 ≤ size) (hs2 : size ≤ 16777216) :
    ((createD d size).2 = 0 → KInv Wh (createD d size).1.files (newLg size) []) ∧ ((createD d size).2 ≠ 0 → NoMan (createD d size).1.files) := by
  unfold createD
  rw [if_neg (by omega)]
  by_cases hd : d.down = true
  · have : d.read manifestS = ([], 15) := by unfold Dsk.read; rw [hd]; simp
    rw [this, if_neg (by simp), if_pos (by simp)]
    exact ⟨fun h => absurd h (by simp), fun _ => h⟩
  have hd : d.down = false := by simpa using hd
  rw [read_no hd h.2, if_neg (by simp), if_neg (by simp)]
  obtain ⟨b1, b2⟩ := fresh_files (n := segName 0) (b := headB 0) h.1
  have b3 := fresh_names (d := d) (n := segName 0) (b := headB 0)
  have hsm : ¬ manifestS = segName 0 := fun hc => absurd (List.cons.inj hc).1 (by decide)
  have n1 : NoMan (d.begun 0).1.files := ⟨b1.1, fun hm => by
    rcases b3 _ hm with h' | h'
    · exact hsm h'
    · exact h.2 h'⟩
  split
  · rename_i h0
    exact ⟨fun h => absurd h h0, fun _ => n1⟩
  rename_i h0
  have h0 : (d.begun 0).2 = 0 := by
    rcases Decidable.em ((d.begun 0).2 = 0) with h | h
    · exact h
    · exact absurd h h0
  have b4 : fileOf (d.begun 0).1.files (segName 0) = ⟨headB 0, (headB 0).length⟩ := b2 h0
  generalize d.begun 0 = r at n1 b4
  obtain ⟨i1, i2, i3⟩ := install_files (d := r.1) (l := (newLg size).l) n1.1
  refine ⟨fun h0 => ?_, fun h0 => ⟨i1.1, fun hm => ?_⟩⟩
  · obtain ⟨i4, i5⟩ := i2 h0
    have hR : RightP [] ⟨segName 0, 0, 0, false⟩ := (rightL_iff [] _).1 i4
    have hne : ¬ (segName 0 = nextS ∨ segName 0 = manifestS) := by
      rintro (hc | hc)
      · exact absurd (List.cons.inj hc).1 (by decide)
      · exact absurd (List.cons.inj hc).1 (by decide)
    refine ⟨[], _, [], [], 0, ⟨i1.1, rfl, hR, i5, rfl, ?_, Nat.le_refl _, (fun f hf => by cases hf), rfl, rfl, rfl, by simp [newLg], fun k hk => ?_, rfl⟩⟩
    · simp only
      rw [i1.2 _ hne, b4]
      simp [segB]
    · simp only [newLg, List.map_cons, List.map_nil, List.mem_singleton]
      intro hc
      have := segName_inj hc
      subst this
      exact absurd hk (by decide)
  · -- the manifest is not there: the last step failed
    have key : ∀ x, x ∈ namesF (r.1.install (newLg size).l).1.files → (r.1.install (newLg size).l).2 ≠ 0 → x = nextS ∨ x ∈ namesF r.1.files := by
      intro x hx hne
      unfold Dsk.install at hx hne
      split at hx
      · rename_i hr
        rw [if_pos hr] at hne
        unfold andThen at hx hne
        simp only at hx hne
        split at hx
        · rename_i h1
          rw [if_pos h1] at hne
          obtain ⟨d2, y, hy⟩ : ∃ d2 y, (r.1.fresh nextS (manifestB (newLg size).l)).1.rename nextS manifestS = (d2, y) := ⟨_, _, rfl⟩
          rw [hy] at hx hne
          unfold Dsk.rename at hy
          rcases op_cases hy with ⟨h2, -, -⟩ | ⟨-, hf, -⟩
          · exact absurd h2 hne
          · simp only at hx
            rw [hf] at hx
            exact fresh_names x hx
        · exact fresh_names x hx
      · exact .inr hx
    rcases key _ hm h0 with hc | hc
    · exact absurd hc (by decide)
    · exact n1.2 hc
theorem sync0 (hn : (namesF d.files).Nodup) {n : Str} : ((d.sync n).2 = 0 ∧ (d.sync n).1.files = setF d.files n ⟨(fileOf d.files n).bytes, (fileOf d.files n).bytes.length⟩) ∨ ((d.sync n).2 ≠ 0 ∧ (d.sync n).1.files = d.files) := by
  obtain ⟨-, s2, s3⟩ := sync_files (d := d) (n := n) hn
  rcases Decidable.em ((d.sync n).2 = 0) with h | h
  · exact .inl ⟨h, s2 h⟩
  · exact .inr ⟨h, s3 h⟩
theorem TIn.resume (h : TIn Wh d.files l A p old fs [] m) {size : Int} :
    ((resumeD d size l (old ++ fs.flatten).length).2 = 0 → KInv Wh (resumeD d size l (old ++ fs.flatten).length).1.files (onLg d size l (old ++ fs.flatten).length) (old ++ fs.flatten)) ∧
    ((resumeD d size l (old ++ fs.flatten).length).2 ≠ 0 → (resumeD d size l (old ++ fs.flatten).length).1.files = d.files) := by
  unfold resumeD
  split
  · exact ⟨fun h => absurd h (by simp), fun _ => rfl⟩
  split
  · rename_i h0
    exact ⟨fun h => absurd h h0, fun _ => rfl⟩
  rw [h.last]
  rcases sync0 (d := d) (n := p.name) h.nd with ⟨s1, s2⟩ | ⟨s1, s2⟩
  · refine ⟨fun _ => ?_, fun hx => absurd s1 hx⟩
    rw [s2]
    obtain ⟨s, ho, hs⟩ := h.open_
    rw [ho]
    have hT : TIn Wh (setF d.files p.name ⟨segB p.first.toNat fs ++ [], (segB p.first.toNat fs ++ []).length⟩) l A p old fs [] fs.length := by
      refine h.at_ rfl ?_ (Nat.le_refl _) h.fr (.inl rfl)
      rw [List.take_length, List.append_nil]
      exact Nat.le_refl _
    refine ⟨A, p, old, fs, fs.length, ⟨hT.nd, hT.l_, hT.right, hT.man, hT.old_, ?_, Nat.le_refl _, hT.fr, hT.first, rfl, rfl, ?_, hT.free, hT.pname⟩⟩
    · rw [fileOf_setF, if_pos rfl, List.append_nil, List.take_length]
    · simp only [onLg, List.take_length, List.length_append]
      exact Nat.le_refl _
  · exact ⟨fun hx => absurd hx s1, fun _ => s2⟩
theorem Rt.open_ (h : Rt (WholeU U) d.files told sure) {size : Int} :
    ((openD U d size).e = 0 → (openD U d size).es = told ∧ KInv (WholeU U) (openD U d size).d.files (openD U d size).L told ∧ (openD U d size).L.acked = told.length ∧ (openD U d size).L.size = size ∧ (openD U d size).L.over = false) ∧
    ((openD U d size).e ≠ 0 → Rt (WholeU U) (openD U d size).d.files told sure) := by
  have hm := h.mend
  have hm0 := h.mend0
  unfold openD
  split
  · exact ⟨fun h => absurd h (by simp), fun _ => h⟩
  rename_i hs
  have hs : 64 ≤ size ∧ size ≤ 16777216 := by omega
  generalize mendD U d = r at hm hm0
  split
  · rename_i h0
    exact ⟨fun h => absurd h h0, fun _ => hm⟩
  rename_i h0
  have h0 : r.e = 0 := by
    rcases Decidable.em (r.e = 0) with h | h
    · exact h
    · exact absurd h h0
  obtain ⟨hes, ⟨h1, h2, h3, h4⟩ | ⟨A, p, old, fs, m, h1, h2, h3⟩⟩ := hm0 h0
  · rw [if_pos h1]
    obtain ⟨c1, c2⟩ := Rt.create (Wh := WholeU U) h2 hs.1 hs.2
    split
    · rename_i hx
      exact ⟨fun h => absurd h hx, fun _ => .inl ⟨c2 hx, h3, h4⟩⟩
    · rename_i hx
      have hx : (createD r.d size).2 = 0 := by
        rcases Decidable.em ((createD r.d size).2 = 0) with h | h
        · exact h
        · exact absurd h hx
      subst h3
      exact ⟨fun _ => ⟨hes, c1 hx, rfl, rfl, rfl⟩, fun h => absurd rfl h⟩
  · rw [if_neg h1.ne, hes, h2]
    obtain ⟨c1, c2⟩ := h1.resume (size := size)
    split
    · rename_i hx
      exact ⟨fun h => absurd h hx, fun _ => .inr ⟨_, A, p, old, fs, [], m, by simp only; rw [c2 hx]; exact h1, rfl, h3⟩⟩
    · rename_i hx
      have hx : (resumeD r.d size r.ps (old ++ fs.flatten).length).2 = 0 := by
        rcases Decidable.em ((resumeD r.d size r.ps (old ++ fs.flatten).length).2 = 0) with h | h
        · exact h
        · exact absurd h hx
      exact ⟨fun _ => ⟨rfl, c1 hx, rfl, rfl, rfl⟩, fun h => absurd rfl h⟩
end
end Go.Proofs.YtkhcdbafcigeoaaGreatDoor

namespace Go.Proofs.YtkhcdbafcigeoaaGreatDoor
open Go

section
variable {U : List UInt8 → Int × List Ev × Int} {d : Dsk} {l A : List Pc} {p : Pc} {old told : List Ev} {fs : List (List Ev)} {t : List UInt8} {m sure : Nat} {F F' : List (Str × DFile)} {Wh : Pc → List UInt8 → List Ev → Prop}
theorem remove_calm (h : Calm d) {n : Str} (hn : n ∈ namesF d.files) : d.remove n = ({ d with files := delF d.files n }, 0) := by
  unfold Dsk.remove
  rw [show d.there n = 0 by simp [Dsk.there, hn], op_calm h]
theorem mem_of_ne {n : Str} (h : (fileOf F n).bytes ≠ []) : n ∈ namesF F := by
  rcases Decidable.em (n ∈ namesF F) with hm | hm
  · exact hm
  · rw [fileOf_none hm] at h; exact absurd rfl h
theorem TIn.there (h : TIn (WholeU U) F l A p old fs t m) : ∀ x ∈ staysOf l, x ∈ namesF F := by
  have hs : ∀ (A : List Pc) (es : List Ev), sealedF (WholeU U) F A es → ∀ q ∈ A, q.name ∈ namesF F := by
    intro A
    induction A with
    | nil => intro es _ q hq; cases hq
    | cons y A ih =>
      rintro es ⟨b, e1, e2, h1, ⟨-, -, hb, -⟩, -, h4⟩ q hq
      rcases List.mem_cons.1 hq with rfl | hq
      · exact mem_of_ne (by rw [h1]; exact hb)
      · exact ih e2 h4 q hq
  intro x hx
  rcases List.mem_cons.1 hx with rfl | hx
  · exact mem_of_ne (by rw [h.man]; exact manifestB_ne _)
  · obtain ⟨q, hq, rfl⟩ := List.mem_map.1 hx
    rw [h.l_, List.mem_append, List.mem_singleton] at hq
    rcases hq with hq | rfl
    · exact hs A old h.old_ q hq
    · obtain ⟨s, s1, -⟩ := h.open_
      exact mem_of_ne (by rw [s1]; exact seg_ne _ _ _)
theorem crash_calm {d : Dsk} (hn : (namesF d.files).Nodup) (ks : List Int) : Calm (d.crash ks) := ⟨rfl, rfl, by rw [crash_names]; exact hn⟩
end
end Go.Proofs.YtkhcdbafcigeoaaGreatDoor
