/-
  Texts merged by a program of this claim's: RecCalm, RecCut, BuiltPlain, RecUse.
-/
import Derived.Test.YtjapijndljknnaaGreatDoorM30
import Derived.Test.YtjapijndljknnaaGreatDoorM26
/-
  Package recover on a disk that is up and unarmed, in plain words: nothing errs; a second Mend changes nothing.
-/
namespace Go.Proofs.YtjapijndljknnaaGreatDoor
open Go

section
variable {U : List UInt8 → Int × List Ev × Int} {d : Dsk} {l A : List Pc} {p : Pc} {old told : List Ev} {fs : List (List Ev)} {t : List UInt8} {m sure : Nat} {F F' : List (Str × DFile)} {Wh : Pc → List UInt8 → List Ev → Prop}
theorem remove_calm (h : Calm d) {n : Str} (hn : n ∈ namesF d.files) : d.remove n = ({ d with files := delF d.files n }, 0) := by
  unfold Dsk.remove
  rw [show d.there n = 0 by simp [Dsk.there, hn], op_calm h]
theorem rmAll_calm (stays : List Str) : ∀ (l : List Str) (d : Dsk), Calm d → l.Nodup → (∀ n ∈ l, n ∈ namesF d.files) → ∃ F, rmAll stays l d = ({ d with files := F }, 0) ∧ (namesF F).Nodup ∧ ∀ x, x ∈ namesF F ↔ x ∈ namesF d.files ∧ (x ∈ stays ∨ x ∉ l)
  | [], d, h, _, _ => ⟨d.files, rfl, h.names, fun x => by simp⟩
  | n :: l, d, h, hl, hm => by
    have hl' := List.nodup_cons.1 hl
    unfold rmAll
    split
    · rename_i hs
      obtain ⟨F, f1, f2, f3⟩ := rmAll_calm stays l d h hl'.2 fun x hx => hm x (by simp [hx])
      refine ⟨F, f1, f2, fun x => (f3 x).trans ?_⟩
      constructor
      · rintro ⟨a, b | b⟩
        · exact ⟨a, .inl b⟩
        · by_cases hx : x = n
          · subst hx; exact ⟨a, .inl hs⟩
          · exact ⟨a, .inr (by simp [hx, b])⟩
      · rintro ⟨a, b | b⟩
        · exact ⟨a, .inl b⟩
        · exact ⟨a, .inr fun hc => b (by simp [hc])⟩
    · rename_i hs
      rw [remove_calm h (hm n (by simp)), if_neg (by simp)]
      obtain ⟨F, f1, f2, f3⟩ := rmAll_calm stays l { d with files := delF d.files n } (h.delF n) hl'.2 fun x hx => by
        simp only
        rw [namesF_delF, h.names.mem_erase_iff]
        exact ⟨fun e => hl'.1 (e ▸ hx), hm x (by simp [hx])⟩
      refine ⟨F, f1, f2, fun x => (f3 x).trans ?_⟩
      simp only
      rw [namesF_delF, h.names.mem_erase_iff]
      constructor
      · rintro ⟨⟨a, b⟩, c | c⟩
        · exact ⟨b, .inl c⟩
        · exact ⟨b, .inr (by simp [a, c])⟩
      · rintro ⟨a, b | b⟩
        · exact ⟨⟨fun e => hs (e ▸ b), a⟩, .inl b⟩
        · simp only [List.mem_cons, not_or] at b
          exact ⟨⟨b.1, a⟩, .inr b.2⟩
theorem getF_of_ne {n : Str} (h : (fileOf F n).bytes ≠ []) : getF F n = some (fileOf F n) := by
  unfold fileOf at h ⊢
  cases hg : getF F n with
  | none => rw [hg] at h; exact absurd rfl h
  | some f => rfl
theorem mem_of_ne {n : Str} (h : (fileOf F n).bytes ≠ []) : n ∈ namesF F := by
  rcases Decidable.em (n ∈ namesF F) with hm | hm
  · exact hm
  · rw [fileOf_none hm] at h; exact absurd rfl h
theorem cutD_calm (h : Calm d) {l : List Pc} {k : Nat} (hk : k ≤ (fileOf d.files (lastP l).name).bytes.length) : ∃ F, cutD d l (k : Int) = ({ d with files := F }, 0) ∧ (namesF F).Nodup ∧ ∀ x, x ∈ namesF F ↔ x ∈ namesF d.files := by
  unfold cutD
  split
  · rename_i hc
    have hne : (fileOf d.files (lastP l).name).bytes ≠ [] := fun e => by rw [e] at hc; simp at hc; omega
    have hm := mem_of_ne hne
    refine ⟨_, ?_, (h.setF (lastP l).name ⟨(fileOf d.files (lastP l).name).bytes.take k, k⟩).names, fun x => by simp only; rw [nmF_setF, if_pos hm]⟩
    unfold Dsk.cut Dsk.mayCut
    rw [getF_of_ne hne]
    simp only
    rw [if_neg (by omega), op_calm h]
    simp
  · exact ⟨d.files, rfl, h.names, fun x => Iff.rfl⟩
theorem TIn.there (h : TIn (WholeU U) F l A p old fs t m) : ∀ x ∈ staysOf l, x ∈ namesF F := by
  have hs : ∀ (A : List Pc) (es : List Ev), sealedF (WholeU U) F A es → ∀ q ∈ A, q.name ∈ namesF F := by
    intro A
    induction A with
    | nil => intro es _ q hq; cases hq
    | cons y A ih =>
      rintro es ⟨b, e1, e2, h1, ⟨-, -, hb, -⟩, -, h4⟩ q hq
      rcases List.mem_cons.1 hq with rfl | hq
      · exact mem_of_ne (by rw [h1]; exact hb)
      · exact ih e2 h4 q hq
  intro x hx
  rcases List.mem_cons.1 hx with rfl | hx
  · exact mem_of_ne (by rw [h.man]; exact manifestB_ne _)
  · obtain ⟨q, hq, rfl⟩ := List.mem_map.1 hx
    rw [h.l_, List.mem_append, List.mem_singleton] at hq
    rcases hq with hq | rfl
    · exact hs A old h.old_ q hq
    · obtain ⟨s, s1, -⟩ := h.open_
      exact mem_of_ne (by rw [s1]; exact seg_ne _ _ _)
theorem mendWith_calm (h : Calm d) {r : ScanR} (h0 : r.e = 0) {k : Nat} (hg : r.good = k) (hk : k ≤ (fileOf d.files (lastP r.ps).name).bytes.length) :
    ∃ F, mendWith d r = ⟨{ d with files := F }, r.es, r.ps, 0⟩ ∧ (namesF F).Nodup ∧ ∀ x, x ∈ namesF F ↔ x ∈ namesF d.files ∧ x ∈ staysOf r.ps := by
  obtain ⟨F1, c1, c2, c3⟩ := cutD_calm h hk
  have hc : Calm { d with files := F1 } := h.same F1 c2
  obtain ⟨F, f1, f2, f3⟩ := rmAll_calm (staysOf r.ps) ({ d with files := F1 } : Dsk).list { d with files := F1 } hc ((List.mergeSort_perm _ _).nodup_iff.2 c2) (fun n hn => mem_list.1 hn)
  refine ⟨F, ?_, f2, fun x => (f3 x).trans ?_⟩
  · unfold mendWith
    rw [if_neg (by rw [h0]; simp), hg, c1]
    simp only
    rw [if_neg (by simp), f1]
    simp
  · simp only [mem_list]
    rw [c3 x]
    constructor
    · rintro ⟨a, b | b⟩
      · exact ⟨a, b⟩
      · exact absurd a b
    · rintro ⟨a, b⟩
      exact ⟨a, .inl b⟩
/-- Mend on a calm disk. -/
theorem Rt.mendCalm (hc : Calm d) (h : Rt (WholeU U) d.files told sure) : (mendD U d).e = 0 ∧ (mendD U d).es = told ∧ ∃ F, (mendD U d).d = { d with files := F } ∧ (namesF F).Nodup ∧ (((mendD U d).ps = [] ∧ F = [] ∧ told = []) ∨
    ∃ A p old fs m, TIn (WholeU U) F (mendD U d).ps A p old fs [] m ∧ told = old ++ fs.flatten ∧ sure ≤ old.length + (fs.take m).flatten.length ∧ ∀ x, x ∈ namesF F ↔ x ∈ staysOf (mendD U d).ps) := by
  have h0 := h.mend0
  have key : ∃ F, mendD U d = ⟨{ d with files := F }, (scanD U d).es, (scanD U d).ps, 0⟩ ∧ (namesF F).Nodup ∧ ∀ x, x ∈ namesF F ↔ x ∈ namesF d.files ∧ x ∈ staysOf (scanD U d).ps := by
    rcases h with ⟨h1, rfl, rfl⟩ | ⟨l, A, p, old, fs, t, m, h, rfl, hs⟩
    · unfold mendD
      rw [scan_no hc.up h1.2]
      exact mendWith_calm hc rfl (k := 0) rfl (Nat.zero_le _)
    · unfold mendD
      rw [h.scan hc.up]
      refine mendWith_calm hc rfl (k := (segB p.first.toNat fs).length) rfl ?_
      simp only
      obtain ⟨s, s1, -⟩ := h.open_
      rw [h.last, s1]
      simp
  obtain ⟨F, k1, k2, k3⟩ := key
  rw [k1] at h0 ⊢
  simp only at h0 ⊢
  obtain ⟨h2, h3⟩ := h0 trivial
  refine ⟨trivial, h2, F, rfl, k2, ?_⟩
  rcases h3 with ⟨a, b, c, -⟩ | ⟨A, p, old, fs, m, hT, b, c⟩
  · refine .inl ⟨a, ?_, c⟩
    have hz : ∀ x, x ∉ namesF F := fun x hx => by
      have := ((k3 x).1 hx).2
      rw [a] at this
      simp only [staysOf, List.map_nil, List.mem_singleton] at this
      subst this
      exact b.2 hx
    cases F with
    | nil => rfl
    | cons y F => exact absurd (show y.1 ∈ namesF (y :: F) by simp [namesF]) (hz y.1)
  · exact .inr ⟨A, p, old, fs, m, hT, b, c, fun x => ⟨fun hx => ((k3 x).1 hx).2, fun hx => hT.there x hx⟩⟩
theorem newDsk_of (h : Calm d) : ({ d with files := [] } : Dsk) = newDsk d.most := by
  obtain ⟨a, b, -⟩ := h
  cases d
  simp only at a b
  subst a b
  rfl
/-- Open on a calm disk never errs. -/
theorem Rt.openCalm (hc : Calm d) (hm : 40 ≤ d.most) (h : Rt (WholeU U) d.files told sure) {size : Int} (hs : 64 ≤ size) (hs2 : size ≤ 16777216) (ht : told.length ≤ 2305843009213693952) :
    (openD U d size).e = 0 ∧ Calm (openD U d size).d ∧ (openD U d size).d.most = d.most := by
  obtain ⟨m1, m2, F, m3, m4, m5⟩ := h.mendCalm hc
  unfold openD
  rw [if_neg (by omega), if_neg (by rw [m1]; simp), m2, m3]
  rcases m5 with ⟨a, rfl, rfl⟩ | ⟨A, p, old, fs, m, hT, rfl, hs', hn⟩
  · rw [if_pos a, newDsk_of hc]
    obtain ⟨F, h1, h2, -⟩ := create_calm' d.most hm hs hs2
    rw [h1, if_neg (by simp)]
    exact ⟨rfl, h2.calm, rfl⟩
  · rw [if_neg hT.ne]
    have hcF : Calm { d with files := F } := hc.same F m4
    obtain ⟨s, s1, -⟩ := hT.open_
    have hp : p.name ∈ namesF F := hT.there _ (by rw [hT.l_]; simp [staysOf])
    have hr : resumeD { d with files := F } size (mendD U d).ps ((old ++ fs.flatten).length : Nat) = ({ d with files := setF F p.name ⟨(fileOf F p.name).bytes, (fileOf F p.name).bytes.length⟩ }, 0) := by
      have hfi := hT.first
      have hR := hT.rightL
      have hrd := read_of (d := { d with files := F }) hc.up (congrArg DFile.bytes s1) (seg_ne _ _ _)
      unfold resumeD
      rw [if_neg (by rw [hR, hT.last, hfi]; rw [List.length_append] at ht ⊢; rintro (h | h | h | h | h) <;> first | omega | cases h), hT.last, hrd, if_neg (by simp)]
      exact sync_calm hcF hp
    rw [hr, if_neg (by simp)]
    exact ⟨rfl, hcF.setF _ _, rfl⟩
/-- A second Mend changes nothing. -/
theorem mend_again (hc : Calm d) (h : (l = [] ∧ d.files = [] ∧ told = []) ∨ ∃ A p old fs m, TIn (WholeU U) d.files l A p old fs [] m ∧ told = old ++ fs.flatten ∧ ∀ x, x ∈ namesF d.files ↔ x ∈ staysOf l) : mendD U d = ⟨d, told, l, 0⟩ := by
  have hrm : ∀ (stays l : List Str) (d : Dsk), (∀ x ∈ l, x ∈ stays) → rmAll stays l d = (d, 0) := by
    intro stays l
    induction l with
    | nil => intro d _; rfl
    | cons n l ih =>
      intro d hl
      unfold rmAll
      rw [if_pos (hl n (by simp))]
      exact ih d fun x hx => hl x (by simp [hx])
  rcases h with ⟨rfl, h2, rfl⟩ | ⟨A, p, old, fs, m, h, rfl, hn⟩
  · have hc0 : cutD d [] 0 = (d, 0) := by unfold cutD; simp
    unfold mendD
    rw [scan_no hc.up (by rw [h2]; simp [namesF])]
    unfold mendWith
    simp only
    rw [hc0, if_neg (by simp), if_neg (by simp), hrm]
    · simp
    · intro x hx
      have := mem_list.1 hx
      simp only [h2] at this
      cases this
  · have hc0 : cutD d l ((segB p.first.toNat fs).length : Int) = (d, 0) := by
      obtain ⟨s, s1, -⟩ := h.open_
      unfold cutD
      rw [h.last, s1, if_neg]
      simp
    unfold mendD
    rw [h.scan hc.up]
    unfold mendWith
    simp only
    rw [hc0, if_neg (by simp), if_neg (by simp), hrm]
    · simp
    · intro x hx
      exact (hn x).1 (mem_list.1 hx)
end
end Go.Proofs.YtjapijndljknnaaGreatDoor

/-
  Pieces that lack bytes, files of other names, in plain words (package recover).
-/
namespace Go.Proofs.YtjapijndljknnaaGreatDoor
open Go

theorem headR_cut {n k : Nat} (hn : n < 2 ^ 64) (hk : k < (headB n).length) : (headR ((headB n).take k)).2.2 ≠ 0 := by
  have hb : headB n = plainS ++ (uintB n ++ sumB (plainS ++ uintB n)) := by simp [headB, sealB, plainS]
  have hl : (headB n).length = 4 + (uintB n).length + 4 := by rw [hb]; simp [plainS, sumB_len]; omega
  have hlen : ((headB n).take k).length = k := by simp; omega
  unfold headR
  split
  · simp
  split
  · simp
  rename_i h1 h2
  rw [hlen] at h2
  have hcut : (headB n).take k = plainS ++ (uintB n ++ sumB (plainS ++ uintB n)).take (k - 4) := by
    rw [hb, List.take_append, List.take_of_length_le (show plainS.length ≤ k by simp [plainS]; omega)]; rfl
  have h4 : (plainS.length : Int) = 4 := rfl
  by_cases hs : k - 4 < (uintB n).length
  · have hu := getU_cut plainS n (k - 4) hn hs
    rw [h4] at hu
    have e : (headB n).take k = plainS ++ (uintB n).take (k - 4) := by rw [hcut, List.take_append_of_le_length (by omega)]
    rw [e, hu]
    simp
  · have hu := getU_at plainS ((sumB (plainS ++ uintB n)).take (k - 4 - (uintB n).length)) n hn
    rw [h4] at hu
    have e : (headB n).take k = plainS ++ (uintB n ++ (sumB (plainS ++ uintB n)).take (k - 4 - (uintB n).length)) := by rw [hcut, List.take_append, List.take_of_length_le (show (uintB n).length ≤ k - 4 by omega)]
    rw [e, hu]
    simp only
    rw [← e, hlen]
    split
    · simp
    · split
      · rename_i h; exact absurd rfl h
      · rw [if_pos (by simp only [List.length_append, plainS, List.length_cons, List.length_nil]; omega)]
        simp
theorem flat_lt {fs : List (List Ev)} (hf : FrOk fs) {i : Nat} (hi : i < fs.length) : (fs.take i).flatten.length < fs.flatten.length := by
  have h1 := (hf _ (List.getElem_mem hi)).1
  have e : fs = fs.take i ++ fs[i] :: fs.drop (i + 1) := by rw [← List.drop_eq_getElem_cons hi, List.take_append_drop]
  conv => rhs; rw [e]
  simp only [List.flatten_append, List.flatten_cons, List.length_append]
  omega
/-- A segment that lacks bytes has no head, or lacks events. -/
theorem scan_cut {n : Nat} (hn : n ≤ 4611686018427387904) {fs : List (List Ev)} (hf : FrOk fs) {k : Nat} (hk : k < (segB n fs).length) : (scanB ((segB n fs).take k)).2.2.2 ≠ 0 ∨ (scanB ((segB n fs).take k)).2.1.length < fs.flatten.length := by
  by_cases hh : k < (headB n).length
  · left
    have e : (segB n fs).take k = (headB n).take k := by unfold segB; rw [List.take_append_of_le_length (by omega)]
    have := headR_cut (n := n) (by omega) hh
    rw [e]
    unfold scanB
    rw [if_pos this]
    exact this
  · right
    obtain ⟨i, f, j, -, i2, i3, i4⟩ := take_seg n fs 0 k (by simpa [segB] using hh) (Nat.zero_le _)
    have hi : i < fs.length := by
      rcases Nat.lt_or_ge i fs.length with h | h
      · exact h
      · exfalso
        have := congrArg List.length i3
        rw [List.length_take, Nat.min_eq_left (by omega), List.take_of_length_le h] at this
        unfold segB at hk
        simp only [List.length_append] at this hk
        omega
    have hsc := scanB_at (n := n) hn (fs.take i) ((frmB f).take j) (fun g hg => hf g (List.mem_of_mem_take hg)) (tail_none hf i4)
    rw [i3, hsc]
    exact flat_lt hf hi

/-! ### Sealed pieces of the plain coding -/
def SegWh (q : Pc) (b : List UInt8) (es : List Ev) : Prop := ∃ fs, FrOk fs ∧ b = segB q.first.toNat fs ∧ es = fs.flatten ∧ q.count = es.length ∧ q.dense = false ∧ 0 ≤ q.first ∧ q.first ≤ 4611686018427387904 ∧ q.name = segName q.first.toNat
theorem seals_seg : SealsOk SegWh := fun _ fs hf hd hc h0 h1 h2 => ⟨fs, hf, rfl, rfl, hc, hd, h0, h1, h2⟩
section
variable {Wh Wh' : Pc → List UInt8 → List Ev → Prop} {U : List UInt8 → Int × List Ev × Int} {F F' : List (Str × DFile)} {l A : List Pc} {p q : Pc} {old told es all : List Ev} {fs : List (List Ev)} {t b : List UInt8} {m sure : Nat} {d : Dsk} {L : Lg}
theorem SegWh.whole (h : SegWh q b es) : WholeU U q b es := by
  obtain ⟨fs, h1, rfl, rfl, h2, h3, h4, h5, h6⟩ := h
  exact wholeU_of U q fs h1 h3 h2 h4 h5 h6
theorem sealedF_imp (hi : ∀ q b es, Wh q b es → Wh' q b es) : ∀ {A : List Pc} {es : List Ev}, sealedF Wh F A es → sealedF Wh' F A es
  | [], _, h => h
  | _ :: _, _, ⟨b, e1, e2, h1, h2, h3, h4⟩ => ⟨b, e1, e2, h1, hi _ _ _ h2, h3, sealedF_imp hi h4⟩
theorem TIn.imp (hi : ∀ q b es, Wh q b es → Wh' q b es) (h : TIn Wh F l A p old fs t m) : TIn Wh' F l A p old fs t m :=
  ⟨h.nd, h.l_, h.right, h.man, sealedF_imp hi h.old_, h.open_, h.m_, h.fr, h.torn, h.first, h.free, h.pname⟩
theorem Rt.imp (hi : ∀ q b es, Wh q b es → Wh' q b es) (h : Rt Wh F told sure) : Rt Wh' F told sure := by
  rcases h with h | ⟨l, A, p, old, fs, t, m, h, h1, h2⟩
  · exact .inl h
  · exact .inr ⟨l, A, p, old, fs, t, m, h.imp hi, h1, h2⟩
theorem sealedF_at : ∀ {A : List Pc} {es : List Ev}, sealedF Wh F A es → ∀ q ∈ A, ∃ b e, fileOf F q.name = ⟨b, b.length⟩ ∧ Wh q b e
  | y :: A, es, ⟨b, e1, e2, h1, h2, h3, h4⟩, q, hq => by
    rcases List.mem_cons.1 hq with rfl | hq
    · exact ⟨b, e1, h1, h2⟩
    · exact sealedF_at h4 q hq
/-- One sealed piece is spoilt: no log. -/
theorem pcsD_bad (hd : d.down = false) (p q : Pc) (hr : (readFl d q.name).2 = 0) (hb : segBad U q false (readFl d q.name).1) : ∀ (A : List Pc) (out es : List Ev) (g : Int), sealedF (WholeU U) F A es → q ∈ A → (∀ x ∈ A, x.name = q.name → x = q) → (∀ x ∈ A, x.name ≠ q.name → fileOf d.files x.name = fileOf F x.name) →
    pcsD U d (A ++ [p]) out g = ([], 0, 14)
  | y :: A, out, es, g, ⟨b, e1, e2, h1, ⟨h2, h2', hne, _⟩, h3, h4⟩, hq, hu, hs => by
    have hn : decide (A ++ [p] = []) = false := by simp
    rw [List.cons_append]
    unfold pcsD
    rw [hn]
    by_cases hy : y.name = q.name
    · obtain rfl := hu y (by simp) hy
      have hp : pieceD U d y false = ([], 0, 14) := by
        unfold pieceD
        rw [hr, if_neg (by simp), if_pos hb]
      rw [hp, if_pos (by simp)]
    · have hrr := readFl_of hd ((congrArg DFile.bytes (hs y (by simp) hy)).trans (congrArg DFile.bytes h1)) hne
      have hp : pieceD U d y false = (e1, (b.length : Int), 0) := by
        unfold pieceD
        rw [hrr, if_neg (by simp), if_neg]
        · simp only; rw [h2]
        · unfold segBad
          simp only
          rw [h2]
          rintro (h | h | ⟨-, h | h⟩)
          · exact h rfl
          · exact h rfl
          · exact absurd h (by simp)
          · exact h h2'.symm
      rw [hp, if_neg (by simp)]
      refine pcsD_bad hd p q hr hb A _ e2 _ h4 ?_ (fun x hx => hu x (by simp [hx])) (fun x hx => hs x (by simp [hx]))
      rcases List.mem_cons.1 hq with e | hq
      · exact absurd (congrArg Pc.name e).symm hy
      · exact hq
theorem sealed_unique : ∀ {A : List Pc} {seen : List Str} {first : Int}, sealedFrom seen first A = true → (∀ x ∈ A, x.name ∉ seen) ∧ ∀ x ∈ A, ∀ y ∈ A, x.name = y.name → x = y
  | [], _, _, _ => ⟨fun _ h => (by cases h), fun _ h => (by cases h)⟩
  | z :: A, seen, first, h => by
    simp only [sealedFrom, Bool.and_eq_true, decide_eq_true_eq, Bool.not_eq_true', decide_eq_false_iff_not] at h
    obtain ⟨⟨⟨⟨⟨-, s2⟩, -⟩, -⟩, -⟩, s5⟩ := h
    obtain ⟨a, b⟩ := sealed_unique s5
    have hz : ∀ x ∈ A, x.name ≠ z.name := fun x hx e => (a x hx) (by rw [e]; simp)
    refine ⟨fun x hx => ?_, fun x hx y hy e => ?_⟩
    · rcases List.mem_cons.1 hx with rfl | hx
      · exact s2
      · exact fun hc => a x hx (List.mem_cons_of_mem _ hc)
    · rcases List.mem_cons.1 hx with h1 | h1 <;> rcases List.mem_cons.1 hy with h2 | h2
      · rw [h1, h2]
      · subst h1; exact absurd e.symm (hz y h2)
      · subst h2; exact absurd e (hz x h1)
      · exact b x h1 y h2 e
theorem TIn.spoilt (hc : Calm d) (h : TIn SegWh d.files l A p old fs t m) (hq : q ∈ A) {k : Nat} (hk : k < (fileOf d.files q.name).bytes.length) :
    ∃ d', d.cut q.name k = (d', 0) ∧ Calm d' ∧ scanD U d' = ⟨[], [], 0, 14⟩ := by
  obtain ⟨b, e, f1, fs', f2, rfl, rfl, f3, f4, f5, f6⟩ := sealedF_at h.old_ q hq
  rw [f1] at hk
  simp only at hk
  have hne : (fileOf d.files q.name).bytes ≠ [] := by rw [f1]; exact fun e => by rw [show (⟨segB q.first.toNat fs', (segB q.first.toNat fs').length⟩ : DFile).bytes = segB q.first.toNat fs' from rfl] at e; rw [e] at hk; simp at hk
  have hm := mem_of_ne hne
  have hcut : d.cut q.name k = ({ d with files := setF d.files q.name ⟨(fileOf d.files q.name).bytes.take k, k⟩ }, 0) := by
    unfold Dsk.cut Dsk.mayCut
    rw [getF_of_ne hne]
    simp only
    rw [f1]
    rw [if_neg (by simp only; omega), op_calm hc]
    simp [f1]
  refine ⟨_, hcut, hc.setF _ _, ?_⟩
  have hqm : ¬ q.name = manifestS := by
    have := right_name h.right q (by simp [hq])
    exact (okPiece_name this).2.1
  have hman : fileOf (setF d.files q.name ⟨(fileOf d.files q.name).bytes.take k, k⟩) manifestS = ⟨manifestB l, (manifestB l).length⟩ := by
    rw [fileOf_setF, if_neg hqm]; exact h.man
  have hrd := read_of (d := { d with files := setF d.files q.name ⟨(fileOf d.files q.name).bytes.take k, k⟩ }) hc.up (congrArg DFile.bytes hman) (manifestB_ne _)
  have hrq : readFl { d with files := setF d.files q.name ⟨(fileOf d.files q.name).bytes.take k, k⟩ } q.name = ((segB q.first.toNat fs').take k, 0) := by
    have hg : getF (setF d.files q.name ⟨(fileOf d.files q.name).bytes.take k, k⟩) q.name = some ⟨(fileOf d.files q.name).bytes.take k, k⟩ := by
      have h1 := fileOf_setF d.files q.name q.name ⟨(fileOf d.files q.name).bytes.take k, k⟩
      rw [if_pos rfl] at h1
      cases hx : getF (setF d.files q.name ⟨(fileOf d.files q.name).bytes.take k, k⟩) q.name with
      | none =>
        have := (getF_none _ _).1 hx
        exact absurd (show q.name ∈ namesF (setF d.files q.name ⟨(fileOf d.files q.name).bytes.take k, k⟩) by rw [nmF_setF, if_pos hm]; exact hm) this
      | some f =>
        have h2 : (getF (setF d.files q.name ⟨(fileOf d.files q.name).bytes.take k, k⟩) q.name).getD ⟨[], 0⟩ = ⟨(fileOf d.files q.name).bytes.take k, k⟩ := h1
        rw [hx] at h2
        rw [← h2]; rfl
    unfold readFl Dsk.read
    rw [show ({ d with files := setF d.files q.name ⟨(fileOf d.files q.name).bytes.take k, k⟩ } : Dsk).down = false from hc.up, hg]
    simp [f1]
  have hbad : segBad U q false (readFl { d with files := setF d.files q.name ⟨(fileOf d.files q.name).bytes.take k, k⟩ } q.name).1 := by
    rw [hrq]
    unfold segBad segR
    rw [f4]
    simp only [Bool.false_eq_true, if_false]
    rcases scan_cut (n := q.first.toNat) (by omega) f2 hk with h1 | h1
    · exact .inl h1
    · exact .inr (.inr ⟨trivial, .inr (by rw [f3]; omega)⟩)
  have hall := pcsD_bad (U := U) (F := d.files) (d := { d with files := setF d.files q.name ⟨(fileOf d.files q.name).bytes.take k, k⟩ }) hc.up p q (by rw [hrq]) hbad A [] old 0 (sealedF_imp (fun _ _ _ h => h.whole) h.old_) hq
    (fun x hx e => (sealed_unique h.right.sealed_).2 x hx q hq e) (fun x hx e => by simp only; rw [fileOf_setF, if_neg (Ne.symm e)])
  unfold scanD
  rw [hrd]
  simp only
  rw [listedB_at h.rightL]
  simp only
  rw [h.l_, hall]
  simp
end
end Go.Proofs.YtjapijndljknnaaGreatDoor

/-
  A disk with a log of few frames, in plain words: as the laws of package recover build it.
-/
namespace Go.Proofs.YtjapijndljknnaaGreatDoor
open Go

/-- A log of few frames on a calm disk; what its files tell. -/
structure Bt (size : Int) (c : Nat) (d : Dsk) (L : Lg) (all : List Ev) : Prop where
  ak : Ak size c d L
  kin : KInv SegWh d.files L all
theorem Bt.new {size : Int} (hs : 64 ≤ size) (hs2 : size ≤ 16777216) : ∃ d, createD (newDsk 1048576) size = (d, 0) ∧ Bt size 0 d (newLg size) [] := by
  obtain ⟨d, h1, h2⟩ := Ak.new hs hs2
  exact ⟨d, h1, h2, KInv.new 1048576 (by omega) hs hs2 h1⟩
section
variable {size : Int} {c : Nat} {d : Dsk} {L : Lg} {all es : List Ev}
theorem Bt.add (h : Bt size c d L all) (hc : c < 60) (h1 : es.length ≠ 0) (h2 : es.length ≤ 30) (h3 : ∀ e ∈ es, e.Ok) : ∃ d' L', L.add d es = ⟨d', L', 0⟩ ∧ Bt size (c + 1) d' L' (all ++ es) := by
  obtain ⟨d', L', a1, a2, -, -⟩ := h.ak.add hc h1 h2
  have k := h.kin.add (d := d) seals_seg h3
  rw [a1, if_pos rfl] at k
  exact ⟨d', L', a1, a2, k⟩
theorem Bt.sync (h : Bt size c d L all) : ∃ d' L', L.sync d = ⟨d', L', 0⟩ ∧ Bt size c d' L' all := by
  obtain ⟨d', L', a1, a2, -, -⟩ := h.ak.sync
  have k := (h.kin.sync (d := d)).1
  rw [a1] at k
  exact ⟨d', L', a1, a2, k⟩
theorem Bt.len (h : Bt size c d L all) (hc : c ≤ 60) : L.n = all.length ∧ all.length ≤ 1800 := by
  have h1 := h.kin.le
  have h2 := h.ak.n
  omega
theorem Bt.calm (h : Bt size c d L all) : Calm d := by
  obtain ⟨A, p, hi, -⟩ := h.ak.inv
  exact hi.calm
end
/-- What 'built' does with one frame. -/
def buildStep (sync : Int) (i : Nat) (s : Dsk × Lg × List Ev) (f : List Ev) : Dsk × Lg × List Ev :=
  if f.length = 0 ∨ 30 < f.length then s else
  if (i : Int) = sync then (((s.2.1.add s.1 f).L.sync (s.2.1.add s.1 f).d).d, ((s.2.1.add s.1 f).L.sync (s.2.1.add s.1 f).d).L, s.2.2 ++ f) else ((s.2.1.add s.1 f).d, (s.2.1.add s.1 f).L, s.2.2 ++ f)
theorem buildStep_plain {sync : Int} {i : Nat} {d d' : Dsk} {L L' : Lg} {x : Int} {all f : List Ev} (h1 : f.length ≠ 0) (h2 : f.length ≤ 30) (hs : (i : Int) ≠ sync) (ha : L.add d f = ⟨d', L', x⟩) : buildStep sync i (d, L, all) f = (d', L', all ++ f) := by
  unfold buildStep; rw [if_neg (by omega), if_neg hs]; simp only; rw [ha]
theorem buildStep_sync {sync : Int} {i : Nat} {d d' d'' : Dsk} {L L' L'' : Lg} {x y : Int} {all f : List Ev} (h1 : f.length ≠ 0) (h2 : f.length ≤ 30) (hs : (i : Int) = sync) (ha : L.add d f = ⟨d', L', x⟩) (hy : L'.sync d' = ⟨d'', L'', y⟩) : buildStep sync i (d, L, all) f = (d'', L'', all ++ f) := by
  unfold buildStep; rw [if_neg (by omega), if_pos hs]; simp only; rw [ha]; simp only; rw [hy]
/-- The same, with what holds of it. -/
theorem Bt.step {size sync : Int} {c i : Nat} {d : Dsk} {L : Lg} {all f : List Ev} (h : Bt size c d L all) (hc : c < 60) (h1 : f.length ≠ 0) (h2 : f.length ≤ 30) (h3 : ∀ e ∈ f, e.Ok) :
    ∃ d' L', L.add d f = ⟨d', L', 0⟩ ∧ Bt size (c + 1) d' L' (all ++ f) ∧ ((i : Int) ≠ sync → buildStep sync i (d, L, all) f = (d', L', all ++ f)) ∧
      ∃ d'' L'', L'.sync d' = ⟨d'', L'', 0⟩ ∧ Bt size (c + 1) d'' L'' (all ++ f) ∧ ((i : Int) = sync → buildStep sync i (d, L, all) f = (d'', L'', all ++ f)) := by
  obtain ⟨d', L', a1, a2⟩ := h.add hc h1 h2 h3
  obtain ⟨d'', L'', b1, b2⟩ := a2.sync
  exact ⟨d', L', a1, a2, fun hs => buildStep_plain h1 h2 hs a1, d'', L'', b1, b2, fun hs => buildStep_sync h1 h2 hs a1 b1⟩

/-! ### A new disk -/
end Go.Proofs.YtjapijndljknnaaGreatDoor

/-
  Package recover on disks without pieces of the denser coding, in plain words: what the laws of chapter 06 ask.
-/
namespace Go.Proofs.YtjapijndljknnaaGreatDoor
open Go
/-- A denser coding that tells nothing. -/
def U0 : List UInt8 → Int × List Ev × Int := fun _ => (0, [], 1)
theorem whole0 {q : Pc} {b : List UInt8} {es : List Ev} (h : WholeU U0 q b es) : q.dense = false := by
  obtain ⟨h1, -, -⟩ := h
  cases hd : q.dense with
  | false => rfl
  | true =>
    unfold segR at h1
    rw [hd] at h1
    simp [U0] at h1
section
variable {d : Dsk} {l A : List Pc} {p : Pc} {old told all : List Ev} {fs : List (List Ev)} {t : List UInt8} {m sure c : Nat} {L : Lg} {F : List (Str × DFile)} {size : Int}
theorem TIn.den0 (hd : d.down = false) (h : TIn (WholeU U0) d.files l A p old fs t m) : DenFor U0 d := by
  refine .inr ?_
  rw [read_of hd (congrArg DFile.bytes h.man) (manifestB_ne _)]
  simp only
  rw [listedB_at h.rightL, h.l_]
  intro q hq
  rcases List.mem_append.1 hq with hq | hq
  · obtain ⟨b, e, -, hw⟩ := sealedF_at h.old_ q hq
    exact whole0 hw
  · rw [List.mem_singleton] at hq; subst hq; exact h.right.dense
theorem Rt.den0 (hd : d.down = false) (h : Rt (WholeU U0) d.files told sure) : DenFor U0 d := by
  rcases h with ⟨h1, -, -⟩ | ⟨l, A, p, old, fs, t, m, h, -, -⟩
  · refine .inr ?_
    rw [read_no hd h1.2]
    intro q hq
    cases hq
  · exact h.den0 hd
theorem Bt.rt (h : Bt size c d L all) : Rt (WholeU U0) d.files all L.acked := (h.kin.rt).imp fun _ _ _ h => h.whole
/-- What Scan tells. -/
theorem Rt.scanned (hd : d.down = false) (h : Rt (WholeU U0) d.files told sure) : ∃ ps gd, scanD U0 d = ⟨told, ps, gd, 0⟩ := by
  obtain ⟨h1, h2⟩ := h.scan hd
  obtain ⟨s, hs⟩ : ∃ s, scanD U0 d = s := ⟨_, rfl⟩
  rw [hs] at h1 h2 ⊢
  obtain ⟨es, ps, gd, e⟩ := s
  simp only at h1 h2
  subst h1 h2
  exact ⟨ps, gd, rfl⟩
theorem Rt.mended (hc : Calm d) (h : Rt (WholeU U0) d.files told sure) : ∃ d2 ps, mendD U0 d = ⟨d2, told, ps, 0⟩ ∧ Calm d2 ∧ d2.most = d.most ∧ Rt (WholeU U0) d2.files told sure ∧ mendD U0 d2 = ⟨d2, told, ps, 0⟩ := by
  have hm := h.mend
  obtain ⟨m1, m2, F, m3, m4, m5⟩ := h.mendCalm hc
  obtain ⟨r, hr⟩ : ∃ r, mendD U0 d = r := ⟨_, rfl⟩
  rw [hr] at m1 m2 m3 m5 hm ⊢
  obtain ⟨d2, es, ps, e⟩ := r
  simp only at m1 m2 m3 m5 hm
  subst m1 m2 m3
  have hc2 : Calm { d with files := F } := hc.same F m4
  refine ⟨_, ps, rfl, hc2, rfl, hm, mend_again hc2 ?_⟩
  rcases m5 with ⟨a, b, c⟩ | ⟨A, p, old, fs, m, a, b, -, c⟩
  · exact .inl ⟨a, b, c⟩
  · exact .inr ⟨A, p, old, fs, m, a, b, c⟩
end
end Go.Proofs.YtjapijndljknnaaGreatDoor
