/-
  Texts merged by a program of this claim's: DiskP, DiskQ, Low, Texts.
-/
import Derived.Test.YtkhcdbafcigeoaaDoorM8
import Derived.Laws.IdiomStrings
import Derived.Laws.BytesArg
/-
  Sync, Remove, Rename, Cut, Arm and New, whole.
-/
namespace Go.Proofs.YtkhcdbafcigeoaaDoor
open Go Go.RowKit Go.Sort
set_option maxRecDepth 100000
set_option maxHeartbeats 800000

theorem there_ticked (d : Dsk) (n : Str) : d.ticked.there n = d.there n := rfl

theorem Sync_ok {w : World} {b : Nat} {d : Dsk} {S : Nat → Prop} (h : DiskIn w b d S) (n : Str) :
    Calls Tryd.prog 9 #[.pointer (some ⟨b, 0, none⟩), .string ⟨n.toArray⟩] w (Turns S w b (d.sync n)) := by
  have hwB : Nw w ((w.alloc (.cells #[.pointer (some ⟨b, 0, none⟩)] 23)).alloc (.cells #[.string ⟨n.toArray⟩] 9)) := ((Nw.refl w).alloc _).alloc _
  have hB := h.nw hwB
  have f1 : ¬ S w.heap.size := h.out (Nat.le_refl _)
  have f2 : ¬ S (w.heap.size + 1) := h.out (by omega)
  have c1 : ((w.alloc (.cells #[.pointer (some ⟨b, 0, none⟩)] 23)).alloc (.cells #[.string ⟨n.toArray⟩] 9)).cell? ⟨w.heap.size, 0, none⟩ = some (.pointer (some ⟨b, 0, none⟩)) := by simp [go_sem]
  have c2 : ((w.alloc (.cells #[.pointer (some ⟨b, 0, none⟩)] 23)).alloc (.cells #[.string ⟨n.toArray⟩] 9)).cell? ⟨w.heap.size + 1, 0, none⟩ = some (.string ⟨n.toArray⟩) := by simp [go_sem]
  have H := operation_ok hB 42 44 #[.pointer (some ⟨w.heap.size, 0, none⟩), .pointer (some ⟨w.heap.size + 1, 0, none⟩)]
    #[.pointer (some ⟨w.heap.size, 0, none⟩), .pointer (some ⟨w.heap.size + 1, 0, none⟩)] (d.there n) (fun L => setF L n ⟨(fileOf L n).bytes, (fileOf L n).bytes.length⟩)
    (enters_of Tryd.func42 (by kernel_rfl) (by kernel_rfl)) (enters_of Tryd.func44 (by kernel_rfl) (by kernel_rfl))
    (fun _ => Sync1_ok hB n _ _ c2 c1) (fun hm _ w1 ho hd => Sync2_ok hd n _ _ (ho.cell c2 f2) (ho.cell c1 f1) hm)
  have HH := Lib.hid H
  have HW := Lib.hid hwB
  clear H hwB hB h c1 c2 f1 f2
  go_enter Tryd.func9, Tryd.ntmps9
  go_wp2_with (go_at_call 33; refine HH.out.mono ?_)
  rintro e w2 ⟨rfl, hw2⟩
  go_wp2
  go_ret
  exact ⟨rfl, DiskTo.trans HW.out.only hw2⟩

theorem Remove_ok {w : World} {b : Nat} {d : Dsk} {S : Nat → Prop} (h : DiskIn w b d S) (n : Str) :
    Calls Tryd.prog 13 #[.pointer (some ⟨b, 0, none⟩), .string ⟨n.toArray⟩] w (Turns S w b (d.remove n)) := by
  have hwB : Nw w ((w.alloc (.cells #[.pointer (some ⟨b, 0, none⟩)] 23)).alloc (.cells #[.string ⟨n.toArray⟩] 9)) := ((Nw.refl w).alloc _).alloc _
  have hB := h.nw hwB
  have f1 : ¬ S w.heap.size := h.out (Nat.le_refl _)
  have f2 : ¬ S (w.heap.size + 1) := h.out (by omega)
  have c1 : ((w.alloc (.cells #[.pointer (some ⟨b, 0, none⟩)] 23)).alloc (.cells #[.string ⟨n.toArray⟩] 9)).cell? ⟨w.heap.size, 0, none⟩ = some (.pointer (some ⟨b, 0, none⟩)) := by simp [go_sem]
  have c2 : ((w.alloc (.cells #[.pointer (some ⟨b, 0, none⟩)] 23)).alloc (.cells #[.string ⟨n.toArray⟩] 9)).cell? ⟨w.heap.size + 1, 0, none⟩ = some (.string ⟨n.toArray⟩) := by simp [go_sem]
  have H := operation_ok hB 48 49 #[.pointer (some ⟨w.heap.size, 0, none⟩), .pointer (some ⟨w.heap.size + 1, 0, none⟩)]
    #[.pointer (some ⟨w.heap.size, 0, none⟩), .pointer (some ⟨w.heap.size + 1, 0, none⟩)] (d.there n) (fun L => delF L n)
    (enters_of Tryd.func48 (by kernel_rfl) (by kernel_rfl)) (enters_of Tryd.func49 (by kernel_rfl) (by kernel_rfl))
    (fun _ => Remove1_ok hB n _ _ c2 c1) (fun hm _ w1 ho hd => Remove2_ok hd n _ _ (ho.cell c2 f2) (ho.cell c1 f1) hm)
  have HH := Lib.hid H
  have HW := Lib.hid hwB
  clear H hwB hB h c1 c2 f1 f2
  go_enter Tryd.func13, Tryd.ntmps13
  go_wp2_with (go_at_call 33; refine HH.out.mono ?_)
  rintro e w2 ⟨rfl, hw2⟩
  go_wp2
  go_ret
  exact ⟨rfl, DiskTo.trans HW.out.only hw2⟩

theorem Rename_ok {w : World} {b : Nat} {d : Dsk} {S : Nat → Prop} (h : DiskIn w b d S) (n t : Str) (htl : t.length ≤ 9223372036854775807) :
    Calls Tryd.prog 11 #[.pointer (some ⟨b, 0, none⟩), .string ⟨n.toArray⟩, .string ⟨t.toArray⟩] w (Turns S w b (d.rename n t)) := by
  have hwB : Nw w (((w.alloc (.cells #[.pointer (some ⟨b, 0, none⟩)] 23)).alloc (.cells #[.string ⟨n.toArray⟩] 9)).alloc (.cells #[.string ⟨t.toArray⟩] 9)) := (((Nw.refl w).alloc _).alloc _).alloc _
  have hB := h.nw hwB
  have f1 : ¬ S w.heap.size := h.out (Nat.le_refl _)
  have f2 : ¬ S (w.heap.size + 1) := h.out (by omega)
  have f3 : ¬ S (w.heap.size + 1 + 1) := h.out (by omega)
  have c1 : (((w.alloc (.cells #[.pointer (some ⟨b, 0, none⟩)] 23)).alloc (.cells #[.string ⟨n.toArray⟩] 9)).alloc (.cells #[.string ⟨t.toArray⟩] 9)).cell? ⟨w.heap.size, 0, none⟩ = some (.pointer (some ⟨b, 0, none⟩)) := by simp [go_sem]
  have c2 : (((w.alloc (.cells #[.pointer (some ⟨b, 0, none⟩)] 23)).alloc (.cells #[.string ⟨n.toArray⟩] 9)).alloc (.cells #[.string ⟨t.toArray⟩] 9)).cell? ⟨w.heap.size + 1, 0, none⟩ = some (.string ⟨n.toArray⟩) := by simp [go_sem]
  have c3 : (((w.alloc (.cells #[.pointer (some ⟨b, 0, none⟩)] 23)).alloc (.cells #[.string ⟨n.toArray⟩] 9)).alloc (.cells #[.string ⟨t.toArray⟩] 9)).cell? ⟨w.heap.size + 1 + 1, 0, none⟩ = some (.string ⟨t.toArray⟩) := by simp [go_sem]
  have H := operation_ok hB 45 46 #[.pointer (some ⟨w.heap.size + 1 + 1, 0, none⟩), .pointer (some ⟨w.heap.size, 0, none⟩), .pointer (some ⟨w.heap.size + 1, 0, none⟩)]
    #[.pointer (some ⟨w.heap.size, 0, none⟩), .pointer (some ⟨w.heap.size + 1, 0, none⟩), .pointer (some ⟨w.heap.size + 1 + 1, 0, none⟩)] (d.mayRename n t) (fun L => setF (delF L n) t (fileOf L n))
    (enters_of Tryd.func45 (by kernel_rfl) (by kernel_rfl)) (enters_of Tryd.func46 (by kernel_rfl) (by kernel_rfl))
    (fun _ => Rename1_ok hB n t _ _ _ c2 c1 c3 htl) (fun hm _ w1 ho hd => Rename2_ok hd n t _ _ _ (ho.cell c2 f2) (ho.cell c1 f1) (ho.cell c3 f3) f2 f1 f3 hm)
  have HH := Lib.hid H
  have HW := Lib.hid hwB
  clear H hwB hB h c1 c2 c3 f1 f2 f3
  go_enter Tryd.func11, Tryd.ntmps11
  go_wp2_with (go_at_call 33; refine HH.out.mono ?_)
  rintro e w2 ⟨rfl, hw2⟩
  go_wp2
  go_ret
  exact ⟨rfl, DiskTo.trans HW.out.only hw2⟩

theorem Cut_ok {w : World} {b : Nat} {d : Dsk} {S : Nat → Prop} (h : DiskIn w b d S) (n : Str) (k : Int) :
    Calls Tryd.prog 15 #[.pointer (some ⟨b, 0, none⟩), .string ⟨n.toArray⟩, .int .i64 k] w (Turns S w b (d.cut n k)) := by
  have hwB : Nw w (((w.alloc (.cells #[.pointer (some ⟨b, 0, none⟩)] 23)).alloc (.cells #[.string ⟨n.toArray⟩] 9)).alloc (.cells #[.int .i64 k] 3)) := (((Nw.refl w).alloc _).alloc _).alloc _
  have hB := h.nw hwB
  have f1 : ¬ S w.heap.size := h.out (Nat.le_refl _)
  have f2 : ¬ S (w.heap.size + 1) := h.out (by omega)
  have f3 : ¬ S (w.heap.size + 1 + 1) := h.out (by omega)
  have c1 : (((w.alloc (.cells #[.pointer (some ⟨b, 0, none⟩)] 23)).alloc (.cells #[.string ⟨n.toArray⟩] 9)).alloc (.cells #[.int .i64 k] 3)).cell? ⟨w.heap.size, 0, none⟩ = some (.pointer (some ⟨b, 0, none⟩)) := by simp [go_sem]
  have c2 : (((w.alloc (.cells #[.pointer (some ⟨b, 0, none⟩)] 23)).alloc (.cells #[.string ⟨n.toArray⟩] 9)).alloc (.cells #[.int .i64 k] 3)).cell? ⟨w.heap.size + 1, 0, none⟩ = some (.string ⟨n.toArray⟩) := by simp [go_sem]
  have c3 : (((w.alloc (.cells #[.pointer (some ⟨b, 0, none⟩)] 23)).alloc (.cells #[.string ⟨n.toArray⟩] 9)).alloc (.cells #[.int .i64 k] 3)).cell? ⟨w.heap.size + 1 + 1, 0, none⟩ = some (.int .i64 k) := by simp [go_sem]
  have H := operation_ok hB 50 51 #[.pointer (some ⟨w.heap.size, 0, none⟩), .pointer (some ⟨w.heap.size + 1, 0, none⟩), .pointer (some ⟨w.heap.size + 1 + 1, 0, none⟩)]
    #[.pointer (some ⟨w.heap.size, 0, none⟩), .pointer (some ⟨w.heap.size + 1, 0, none⟩), .pointer (some ⟨w.heap.size + 1 + 1, 0, none⟩)] (d.mayCut n k) (fun L => setF L n ⟨(fileOf L n).bytes.take k.toNat, k.toNat⟩)
    (enters_of Tryd.func50 (by kernel_rfl) (by kernel_rfl)) (enters_of Tryd.func51 (by kernel_rfl) (by kernel_rfl))
    (fun _ => Cut1_ok hB n k _ _ _ c2 c1 c3) (fun hm _ w1 ho hd => Cut2_ok hd n k _ _ _ (ho.cell c2 f2) (ho.cell c1 f1) (ho.cell c3 f3) hm)
  have HH := Lib.hid H
  have HW := Lib.hid hwB
  clear H hwB hB h c1 c2 c3 f1 f2 f3
  go_enter Tryd.func15, Tryd.ntmps15
  go_wp2_with (go_at_call 33; refine HH.out.mono ?_)
  rintro e w2 ⟨rfl, hw2⟩
  go_wp2
  go_ret
  exact ⟨rfl, DiskTo.trans HW.out.only hw2⟩

/-- What a call that hands nothing back leaves. -/
def TurnsU (S : Nat → Prop) (w : World) (b : Nat) (d : Dsk) (e : Ending) (w' : World) : Prop := e = .returned (.tuple #[]) ∧ DiskTo S w w' b d

theorem Dsk.Ok.armed {d : Dsk} (ok : d.Ok) (k : Int) (hk : k ≤ 9223372036854775807) : (d.armed k).Ok := by
  unfold Dsk.armed
  split
  · exact ok
  · exact ⟨ok.most0, ok.most1, by show -1 ≤ max k 0; omega, by show max k 0 ≤ _; omega, ok.names, ok.named, ok.few, ok.used, ok.synced⟩

theorem Arm_ok {w : World} {b : Nat} {d : Dsk} {S : Nat → Prop} (h : DiskIn w b d S) (k : Int) (hk : k ≤ 9223372036854775807) :
    Calls Tryd.prog 17 #[.pointer (some ⟨b, 0, none⟩), .int .i64 k] w (TurnsU S w b (d.armed k)) := by
  obtain ⟨m, c0, c1, c2, c3, cf⟩ : ∃ m, w.cell? ⟨b, 0, none⟩ = some (.map (some m)) ∧ w.cell? ⟨b, 1, none⟩ = some (.int .i64 d.most) ∧ w.cell? ⟨b, 2, none⟩ = some (.int .i64 d.arm) ∧ w.cell? ⟨b, 3, none⟩ = some (.bool d.down) ∧ ∀ i, w.frozen? ⟨b, i, none⟩ = false := by
    obtain ⟨m, fs, hD, -⟩ := h
    exact ⟨m, hdr_cells hD.hdr⟩
  have hok := h.ok.armed k hk
  cases hdn : d.down
  case true =>
    have r : Hid (d.armed k = d) := by show d.armed k = d; simp [Dsk.armed, hdn]
    rw [hdn] at c3
    have H := Lib.hid h
    clear h hok hdn c1 c2
    go_enter Tryd.func17, Tryd.ntmps17
    go_wp2_with (go_at_call 53; refine (none_ok _ b m c0).mono ?_; rintro e w' ⟨rfl, rfl⟩)
    refine bodyPost_end (results_none rfl _ _ _) rfl ⟨rfl, ?_⟩
    rw [r.out]; exact DiskTo.refl H.out (Nw.refl _)
  case false =>
    have r : Hid (d.armed k = { d with arm := max k 0 }) := by show d.armed k = _; simp [Dsk.armed, hdn]
    rw [hdn] at c3
    have H := Lib.hid h
    have HO := Lib.hid hok
    have hb := h.own_b
    clear h hok hdn c1
    have hcase : 0 ≤ k ∨ k < 0 := by omega
    rcases hcase with hs | hs
    all_goals
      go_enter Tryd.func17, Tryd.ntmps17
      go_wp2_with (go_at_call 53; refine (none_ok _ b m c0).mono ?_; rintro e w' ⟨rfl, rfl⟩)
      refine bodyPost_end (results_none rfl _ _ _) rfl ⟨rfl, ?_⟩
      have hok := HO.out
      rw [r.out] at hok ⊢
      refine ⟨S, H.out.head (d' := { d with arm := max k 0 }) (fun m0 hm0 => ?_) (fun j hj _ => Below.heap_setCell _ _ _ _ hj) rfl hok, (Only.refl w).setCell (fun _ => hb) _, fun j hj => .inl hj⟩
      rw [heap_setCell_at hm0 2 _]
      have : max k 0 = (if 0 ≤ k then k else 0) := by split <;> omega
      simp [this]
      try omega

/-- A disk that is new. -/
def newDsk (most : Int) : Dsk := ⟨most, [], -1, false⟩
def NewPost (w : World) (most : Int) (e : Ending) (w' : World) : Prop := ∃ b S, e = .returned (.tuple #[.pointer (some ⟨b, 0, none⟩), .int .i64 0]) ∧ DiskIn w' b (newDsk most) S ∧ Nw w w' ∧ ∀ k, S k → w.heap.size ≤ k

theorem New_ok (most : Int) (w : World) (h0 : 0 ≤ most) (h1 : most ≤ 16777216) : Calls Tryd.prog 4 #[.int .i64 most] w (NewPost w most) := by
  have hmm := @run_makeMap Tryd.prog
  go_enter Tryd.func4, Tryd.ntmps4
  go_wp2
  go_ret2
  refine ⟨w.heap.size + 1, fun k => k ∈ dskBlocks (w.heap.size + 1) w.heap.size [], rfl, ⟨w.heap.size, [], ⟨?_, ⟨0, ?_, by simp⟩, rfl, by simp, by simp [dskBlocks], by simp, ⟨h0, h1, by simp [newDsk], by simp [newDsk], by simp [newDsk, namesF], by simp [newDsk, namesF], by simp [newDsk], by simpa [newDsk, usedF] using h0, by simp [newDsk]⟩⟩, fun k => Iff.rfl⟩, ?_, ?_⟩
  · have := heap_alloc_new (w.alloc (.map #[] 0)) (.cells #[.map (some w.heap.size), .int .i64 most, .int .i64 (-1), .bool false] 57)
    rw [World.size_alloc] at this
    exact this
  · rw [heap_alloc_old _ _ (by simp)]; exact heap_alloc_new w _
  · exact ((Nw.refl w).alloc _).alloc _
  · intro k hk; simp [dskBlocks] at hk; omega
theorem New_no (most : Int) (w : World) (h : most < 0 ∨ 16777216 < most) : Calls Tryd.prog 4 #[.int .i64 most] w fun e w' => e = .returned (.tuple #[.pointer none, .int .i64 2]) ∧ w = w' := by
  have hc : most < 0 ∨ (0 ≤ most ∧ 16777216 < most) := by omega
  rcases hc with h | ⟨h1, h⟩
  all_goals
    go_enter Tryd.func4, Tryd.ntmps4
    go_wp2
    go_ret2
    exact ⟨rfl, rfl⟩
end Go.Proofs.YtkhcdbafcigeoaaDoor

/-
  Crash.
-/
namespace Go.Proofs.YtkhcdbafcigeoaaDoor
open Go Go.RowKit Go.Sort
set_option maxRecDepth 100000
set_option maxHeartbeats 1600000

/-! ### Plain -/
theorem namesF_setF {L : List (Str × DFile)} {n : Str} {f : DFile} (h : n ∈ namesF L) : namesF (setF L n f) = namesF L := by
  rcases split_name n L with hn | ⟨A, g, B, rfl, hA⟩
  · exact absurd h hn
  · rw [setF_hit hA]; simp [namesF]
theorem crashF_snoc (n : Str) : ∀ (A : List Str) (ks : List Int) (L : List (Str × DFile)), crashF (A ++ [n]) ks L = setF (crashF A ks L) n (leaves (fileOf (crashF A ks L) n) (ks.getD A.length 0))
  | [], ks, L => by cases ks <;> simp [crashF]
  | a :: A, ks, L => by
    simp only [List.cons_append, crashF]
    rw [crashF_snoc n A ks.tail]
    cases ks <;> simp
theorem namesF_crashF : ∀ (A : List Str) (ks : List Int) (L : List (Str × DFile)), (∀ n ∈ A, n ∈ namesF L) → namesF (crashF A ks L) = namesF L
  | [], _, _, _ => rfl
  | a :: A, ks, L, h => by
    simp only [crashF]
    have h1 : namesF (setF L a (leaves (fileOf L a) (ks.headD 0))) = namesF L := namesF_setF (h a (by simp))
    rw [namesF_crashF A ks.tail _ (fun n hn => by rw [h1]; exact h n (by simp [hn])), h1]


/-- A disk whose files have been turned, from world to world. -/
theorem DiskTo.step {S : Nat → Prop} {w w1 w2 : World} {b : Nat} {d' : Dsk} {S1 : Nat → Prop} (ho : Only S w w1) (hn : ∀ k, S1 k → S k ∨ w.heap.size ≤ k) (h : DiskTo S1 w1 w2 b d') : DiskTo S w w2 b d' := by
  obtain ⟨S2, h1, h2, h3⟩ := h
  refine ⟨S2, h1, ho.trans' h2 (fun k hk hs => ?_), fun k hk => ?_⟩
  · rcases hn k hs with h | h
    · exact h
    · omega
  · rcases h3 k hk with h | h
    · exact hn k h
    · exact .inr (Nat.le_trans ho.size h)

theorem Crash_ok {w : World} {b : Nat} {d : Dsk} {S : Nat → Prop} (h : DiskIn w b d S) (v : Value) (ks : List Int) (hs : Rd i64v w v ks) (hsep : ks ≠ [] → ∀ g, v.ownBlock = some g → ¬ S g) :
    Calls Tryd.prog 19 #[.pointer (some ⟨b, 0, none⟩), v] w (TurnsU S w b (d.crash ks)) := by
  have hL := Lib.hid (List_ok h)
  obtain ⟨m, c0⟩ : ∃ m, w.cell? ⟨b, 0, none⟩ = some (.map (some m)) := by
    obtain ⟨m, fs, hD, -⟩ := h
    exact ⟨m, (hdr_cells hD.hdr).1⟩
  have hlen : d.list.length ≤ 200 := by
    have := h.ok.few
    have hp : d.list.Perm (namesF d.files) := List.mergeSort_perm _ _
    rw [hp.length_eq]; simpa [namesF] using this
  have hin : ∀ n ∈ d.list, n ∈ namesF d.files := fun n hn => (List.mergeSort_perm _ _).mem_iff.1 hn
  obtain ⟨ka, kc, rfl, hkl, hkm, hkel⟩ := hs.elems
  have H := Lib.hid h
  have HS := Lib.hid hs
  have HIN := Lib.hid hin
  have HSEP := Lib.hid hsep
  have HKE := Lib.hid hkel
  clear h hs hin hsep hkel
  unfold maxLen at hkm
  go_enter Tryd.func19, Tryd.ntmps19
  go_wp2_with (first | (go_at_call 53; refine (none_ok _ b m c0).mono ?_; rintro e w' ⟨rfl, rfl⟩) | (go_at_call 31; refine hL.out.mono ?_))
  rintro e w1 ⟨v1, rfl, hss, hw1, hfresh⟩
  obtain ⟨sa, cap, rfl, h1, h2, hel⟩ := hss.elems
  have HE := Lib.hid hel
  have HW1 := Lib.hid hw1
  have HF := Lib.hid hfresh
  clear hss hel hw1 hfresh c0
  go_wp2
  go_loopw [13] (fun i wr => ∃ k : Nat, k ≤ d.list.length ∧ i = .int .i64 k ∧ DiskTo S w1 wr b { d with files := crashF (d.list.take k) ks d.files }) (fun i _ => d.list.length - (intOf i).toNat)
  case atStart => exact ⟨0, Nat.zero_le _, rfl, DiskTo.refl (H.out.nw HW1.out) (Nw.refl _)⟩
  case round =>
    obtain ⟨k, hk, rfl, hto⟩ := hrel
    by_cases hlt : k < d.list.length
    · obtain ⟨g, o, rfl, hg, hc⟩ := HE.out k hlt
      have hfr : ¬ S g := H.out.out (HF.out g rfl)
      obtain ⟨S', hD', ho', hn'⟩ := hto
      have hc1 := ho'.cell hc hfr
      have hth : ({ d with files := crashF (d.list.take k) ks d.files } : Dsk).there d.list[k] = 0 := by
        have e : namesF (crashF (d.list.take k) ks d.files) = namesF d.files := namesF_crashF _ _ _ (fun n hn => HIN.out n (List.take_subset _ _ hn))
        simp only [Dsk.there, e]
        rw [if_pos (HIN.out _ (List.getElem_mem hlt))]
      have hsnoc : crashF (d.list.take (k + 1)) ks d.files = setF (crashF (d.list.take k) ks d.files) d.list[k] (leaves (fileOf (crashF (d.list.take k) ks d.files) d.list[k]) (ks.getD k 0)) := by
        rw [List.take_succ_eq_append_getElem hlt, crashF_snoc, List.length_take, Nat.min_eq_left hk]
      generalize hn0 : d.list[k] = n at *
      generalize hF0 : crashF (d.list.take k) ks d.files = F at *
      obtain ⟨m', fs', hDA, hSA⟩ := hD'
      obtain ⟨c0, -, -, -, -⟩ := hdr_cells hDA.hdr
      obtain ⟨clock, hmap, -⟩ := hDA.map
      obtain ⟨A, f, B, rfl, hfn, hnA, hp, hfo, hmem⟩ := there_split hDA hth
      have hfo' : fileOf F n = f.file := hfo
      have hlk := look_file hmap n
      rw [hp] at hlk
      have hf := hDA.mem
      obtain ⟨fa, fc, hsl⟩ := slice_form hf.own
      have hsy : f.file.synced ≤ f.file.bytes.length := hDA.ok.synced (n, f.file) (by rw [hmem]; simp)
      have hby : f.file.bytes.length ≤ 16777216 := by
        have h1 := hDA.ok.used
        have h2 := hDA.ok.most1
        rw [hmem, usedF_mid] at h1; omega
      have f0 : wr.cell? ⟨f.fb, 0, none⟩ = some (.slice fa f.file.bytes.length fc) := by rw [← hsl]; simp [World.cell?, hf.blk]
      have f1 : wr.cell? ⟨f.fb, 1, none⟩ = some (.int .i64 f.file.synced) := by simp [World.cell?, hf.blk]
      have HLT : Hid (∀ (j : Nat), j ≤ f.file.bytes.length → ∀ w2, Nw wr w2 → Calls Tryd.prog 52 #[.pointer (some ⟨f.fb, 0, none⟩), .int .i64 j] w2 fun e w' => e = .returned (.tuple #[]) ∧ DiskTo S' wr w' b { d with files := setF F n ⟨f.file.bytes.take j, j⟩ }) :=
        fun j hj w2 hw2 => left_turn hDA hSA hw2 hfn hnA j hj
      have HSN := Lib.hid hsnoc
      have HFO := Lib.hid hfo'
      have HO' := Lib.hid ho'
      have HN' := Lib.hid hn'
      have HKC : Hid (∀ hk2 : k < ks.length, ∃ g2 o2, ka = some ⟨g2, o2, none⟩ ∧ wr.cell? ⟨g2, o2 + k, none⟩ = some (.int .i64 ks[k])) := fun hk2 => by
        obtain ⟨g2, o2, hka, -, hcc⟩ := HKE.out k hk2
        exact ⟨g2, o2, hka, ho'.cell (HW1.out.cell hcc) (HSEP.out (fun e => by rw [e] at hk2; exact absurd hk2 (by simp)) g2 (by rw [hka]; rfl))⟩
      generalize hY : f.file.synced = y at *
      generalize hL0 : f.file.bytes.length = Ln at *
      have HY := Lib.hid hY
      have HLn := Lib.hid hL0
      clear hc hfr hth hsnoc hn0 hF0 hDA hSA hmap hfn hnA hp hfo hfo' hmem hf hsl ho' hn' hY hL0
      have fin : ∀ (j : Nat) (w2 : World), j = y + min (ks.getD k 0).toNat (Ln - y) → DiskTo S' wr w2 b { d with files := setF F n ⟨f.file.bytes.take j, j⟩ } → DiskTo S w1 w2 b { d with files := crashF (d.list.take (k + 1)) ks d.files } := by
        intro j w2 hj hto2
        have e : setF F n ⟨f.file.bytes.take j, j⟩ = crashF (d.list.take (k + 1)) ks d.files := by
          rw [HSN.out, HFO.out]; simp only [leaves, HY.out, HLn.out, hj]
        rw [e] at hto2
        exact DiskTo.step HO'.out HN'.out hto2
      have FIN := Lib.hid fin
      clear fin
      by_cases hkk : k < ks.length
      · obtain ⟨g2, o2, rfl, hkc⟩ := HKC.out hkk
        have hget : ks.getD k 0 = ks[k] := by simp [hkk]
        generalize hq : ks[k] = q at *
        have HQ := Lib.hid hget
        clear hget hq
        go_wp2
        have d4 := cellG f0
        have d5 := cellG f1
        clear f0 f1 hlk c0 hc1
        have hw1' : IntKind.i64.wrap ((Ln : Int) - (y : Int)) = (Ln : Int) - (y : Int) := IntWalk.i64_in _ (by omega)
        refine wp_region_tail_below 18 (by kernel_rfl) (by kernel_rfl) ?_
        simp only [List.take_succ_cons, List.take_zero, List.drop_succ_cons, List.drop_zero]
        repeat (first | go_big_quiet_step (fail) | quiet_step (fail))
        refine wpQuiet_nil ?_
        intro w2 hw2
        have hw2 := Nw.of_regrown hw2
        have HL1 := HLT.out (y + min q.toNat (Ln - y)) (by omega) w2 hw2
        have e1 : ((y + min q.toNat (Ln - y) : Nat) : Int) = (y : Int) + min (max q 0) ((Ln : Int) - (y : Int)) := by omega
        rw [e1] at HL1
        clear e1 hw1' hkc
        have HL2 := Lib.hid HL1
        clear d4 d5 hw2 HL1
        go_wp2_with (go_at_call 52; refine HL2.out.mono ?_; rintro e w3 ⟨rfl, hto2⟩)
        have hto3 := Lib.hid (FIN.out (y + min q.toNat (Ln - y)) w3 (by rw [HQ.out]) hto2)
        clear hto2
        go_roundw
        case rel => exact ⟨k + 1, by omega, by go_num, hto3.out⟩
        case measure => simp [intOf]; omega
      · have HQ : Hid (ks.getD k 0 = 0) := by show ks.getD k 0 = 0; simp [List.getD, List.getElem?_eq_none (Nat.le_of_not_lt hkk)]
        go_wp2
        have d4 := cellG f0
        have d5 := cellG f1
        clear f0 f1 hlk c0 hc1
        have hw1' : IntKind.i64.wrap ((Ln : Int) - (y : Int)) = (Ln : Int) - (y : Int) := IntWalk.i64_in _ (by omega)
        refine wp_region_tail_below 18 (by kernel_rfl) (by kernel_rfl) ?_
        simp only [List.take_succ_cons, List.take_zero, List.drop_succ_cons, List.drop_zero]
        repeat (first | go_big_quiet_step (fail) | quiet_step (fail))
        refine wpQuiet_nil ?_
        intro w2 hw2
        have hw2 := Nw.of_regrown hw2
        have HL1 := HLT.out (y + min (0 : Int).toNat (Ln - y)) (by omega) w2 hw2
        have e1 : ((y + min (0 : Int).toNat (Ln - y) : Nat) : Int) = (y : Int) + min 0 ((Ln : Int) - (y : Int)) := by omega
        rw [e1] at HL1
        clear e1 hw1'
        have HL2 := Lib.hid HL1
        clear d4 d5 hw2 HL1
        go_wp2_with (go_at_call 52; refine HL2.out.mono ?_; rintro e w3 ⟨rfl, hto2⟩)
        have hto3 := Lib.hid (FIN.out (y + min (0 : Int).toNat (Ln - y)) w3 (by rw [HQ.out]) hto2)
        clear hto2
        go_roundw
        case rel => exact ⟨k + 1, by omega, by go_num, hto3.out⟩
        case measure => simp [intOf]; omega
    · have hkl : k = d.list.length := by omega
      have e4 : crashF (d.list.take k) ks d.files = crashF d.list ks d.files := by rw [hkl, List.take_length]
      rw [e4] at hto
      obtain ⟨S', hD', ho', hn'⟩ := hto
      obtain ⟨m', c0, c1, c2, c3, cf⟩ : ∃ m', wr.cell? ⟨b, 0, none⟩ = some (.map (some m')) ∧ wr.cell? ⟨b, 1, none⟩ = some (.int .i64 d.most) ∧ wr.cell? ⟨b, 2, none⟩ = some (.int .i64 d.arm) ∧ wr.cell? ⟨b, 3, none⟩ = some (.bool d.down) ∧ ∀ i, wr.frozen? ⟨b, i, none⟩ = false := by
        obtain ⟨m, fs, hD, -⟩ := hD'
        exact ⟨m, hdr_cells hD.hdr⟩
      have HD' := Lib.hid hD'
      have HO' := Lib.hid ho'
      have HN' := Lib.hid hn'
      clear hD' ho' hn' hkl e4 c1 c0
      go_wp2
      refine bodyPost_end (results_none rfl _ _ _) rfl ⟨rfl, ?_⟩
      have hok := HD'.out.ok
      have hok' : (d.crash ks).Ok := ⟨hok.most0, hok.most1, by simp [Dsk.crash], by simp [Dsk.crash], hok.names, hok.named, hok.few, hok.used, hok.synced⟩
      refine DiskTo.trans HW1.out.only ?_
      have hbS : S b := H.out.own_b
      refine ⟨S', HD'.out.head (d' := d.crash ks) (fun m0 hm0 => ?_) (fun j hj _ => ?_) rfl hok', (HO'.out.setCell (fun _ => hbS) _).setCell (fun _ => hbS) _, HN'.out⟩
      · rw [heap_setCell_at (heap_setCell_at hm0 3 _) 2 _]; rfl
      · rw [Below.heap_setCell _ _ _ _ hj, Below.heap_setCell _ _ _ _ hj]
end Go.Proofs.YtkhcdbafcigeoaaDoor

/-
  The statements' own small functions, walked; and a sort that can be reckoned out.
-/
namespace Go.Proofs.YtkhcdbafcigeoaaDoor
open Go Go.RowKit Go.Sort
set_option maxRecDepth 100000
set_option maxHeartbeats 800000

/-! ### A sort by insertion -/
def insS (x : Str) : List Str → List Str
  | [] => [x]
  | a :: l => if x ≤ a then x :: a :: l else a :: insS x l
def sortS : List Str → List Str
  | [] => []
  | a :: l => insS a (sortS l)
theorem insS_perm (x : Str) : ∀ l, (insS x l).Perm (x :: l)
  | [] => List.Perm.refl _
  | a :: l => by
    unfold insS
    split
    · exact List.Perm.refl _
    · exact (List.Perm.cons a (insS_perm x l)).trans (List.Perm.swap x a l)
theorem sortS_perm : ∀ l, (sortS l).Perm l
  | [] => List.Perm.refl _
  | a :: l => (insS_perm a _).trans (List.Perm.cons a (sortS_perm l))
theorem insS_sorted (x : Str) : ∀ l : List Str, l.Pairwise (· ≤ ·) → (insS x l).Pairwise (· ≤ ·)
  | [], _ => by simp [insS]
  | a :: l, h => by
    unfold insS
    split
    · rename_i hxa
      refine List.Pairwise.cons (fun y hy => ?_) h
      rcases List.mem_cons.1 hy with rfl | hy
      · exact hxa
      · exact List.le_trans hxa ((List.pairwise_cons.1 h).1 y hy)
    · rename_i hxa
      have hax : a ≤ x := (List.le_total a x).resolve_right hxa
      refine List.Pairwise.cons (fun y hy => ?_) (insS_sorted x l (List.pairwise_cons.1 h).2)
      rcases List.mem_cons.1 ((insS_perm x l).mem_iff.1 hy) with rfl | hy
      · exact hax
      · exact (List.pairwise_cons.1 h).1 y hy
theorem sortS_sorted : ∀ l : List Str, (sortS l).Pairwise (· ≤ ·)
  | [] => List.Pairwise.nil
  | a :: l => insS_sorted a _ (sortS_sorted l)
theorem sortS_eq (l : List Str) : (l.mergeSort fun x y => decide (x ≤ y)) = sortS l := by
  rw [← Go.mergeSort_of_perm (sortS_perm l)]
  exact List.mergeSort_of_pairwise ((sortS_sorted l).imp (by intro a b h; simpa using h))
theorem list_eq (d : Dsk) : d.list = sortS (namesF d.files) := sortS_eq _
theorem crash_eq (d : Dsk) (ks : List Int) : d.crash ks = { d with files := crashF (sortS (namesF d.files)) ks d.files, arm := -1, down := false } := by
  unfold Dsk.crash; rw [list_eq]

/-! ### Bytes and strings -/
theorem conv_str {w : World} {v : Value} {l : List UInt8} (h : Bs w v l) : (convert 33 9 v).run Tryd.prog w = .ok (.string ⟨l.toArray⟩) w := by
  rcases h with ⟨a, rfl, rfl⟩ | ⟨g, o, cap, rfl, h1, h2, hg, h3⟩
  · cases a with
    | some a => exact run_convert_bytes_back (P := Tryd.prog) w 33 9 5 a 0 [] Tryd.underlying33 Tryd.underlying5 Tryd.underlying9 (fun j hj => absurd hj (by simp))
    | none => exact run_convert_bytes_nil (P := Tryd.prog) w 33 5 Tryd.underlying33 Tryd.underlying5 0 0 9 Tryd.underlying9
  · exact run_convert_bytes_back (P := Tryd.prog) w 33 9 5 ⟨g, o, none⟩ cap l Tryd.underlying33 Tryd.underlying5 Tryd.underlying9 (fun j hj => by
      have := h3 j hj
      cases j with
      | zero => exact this
      | succ j => exact this)

theorem SameBytes_ok {w : World} {v u : Value} {l k : List UInt8} (h : Bs w v l) (h' : Bs w u k) :
    Calls Tryd.prog 23 #[v, u] w fun e w' => e = .returned (.bool (l == k)) ∧ w = w' := by
  have c1 := conv_str h
  have c2 := conv_str h'
  clear h h'
  go_enter Tryd.func23, Tryd.ntmps23
  go_wp2
  go_ret
  exact ⟨rfl, rfl⟩

theorem reads_ok {w : World} {b : Nat} {d : Dsk} {S : Nat → Prop} (h : DiskIn w b d S) (n l : Str) (hr : d.read n = (l, 0)) :
    Calls Tryd.prog 29 #[.pointer (some ⟨b, 0, none⟩), .string ⟨n.toArray⟩, .string ⟨l.toArray⟩] w fun e w' => e = .returned (.bool true) ∧ Nw w w' := by
  have H := Lib.hid h
  have HR := Lib.hid (Read_ok h n)
  rw [hr] at HR
  have hf : (fileOf d.files n).bytes = l := by
    unfold Dsk.read at hr
    split at hr
    · have := congrArg Prod.snd hr; simp at this
    · cases hg : getF d.files n with
      | none => rw [hg] at hr; have := congrArg Prod.snd hr; simp at this
      | some f => rw [hg] at hr; simp at hr; simp [fileOf, hg, hr]
  have HF := Lib.hid hf
  clear h hr hf
  go_enter Tryd.func29, Tryd.ntmps29
  go_wp2_with (go_at_call 21; refine HR.out.mono ?_)
  rintro e w1 ⟨v, rfl, hv, hw, -⟩
  have c1 := conv_str hv.rd
  have HS := Size_ok (H.out.nw hw) n
  rw [HF.out] at HS
  have HS := Lib.hid HS
  clear hv
  go_wp2_with (go_at_call 26; refine HS.out.mono ?_; rintro e w' ⟨rfl, hw2⟩)
  go_ret
  exact ⟨rfl, hw.trans hw2⟩
end Go.Proofs.YtkhcdbafcigeoaaDoor

/-
  SameTexts, walked.
-/
namespace Go.Proofs.YtkhcdbafcigeoaaDoor
open Go Go.RowKit Go.Sort
set_option maxRecDepth 100000
set_option maxHeartbeats 1600000

theorem beq_of_take {l k : List Str} (h : l = k) : (l == k) = true := by simpa using h
theorem nbeq_at {l k : List Str} (i : Nat) (h : l[i]? ≠ k[i]?) : (l == k) = false := by
  rw [Bool.eq_false_iff]; intro e; have : l = k := by simpa using e
  exact h (by rw [this])

theorem SameTexts_ok {w : World} {v u : Value} {l k : List Str} (h : Ss w v l) (h' : Ss w u k) :
    Calls Tryd.prog 30 #[v, u] w fun e w' => e = .returned (.bool (l == k)) ∧ Nw w w' := by
  obtain ⟨la, lc, rfl, hl1, hl2, hle⟩ := h.elems
  obtain ⟨ka, kc, rfl, hk1, hk2, hke⟩ := h'.elems
  unfold maxLen at hl2 hk2
  have HL := Lib.hid hle
  have HK := Lib.hid hke
  clear h h' hle hke
  go_enter Tryd.func30, Tryd.ntmps30
  go_wp2
  go_loopw [5] (fun i wr => ∃ n : Nat, n ≤ l.length ∧ n ≤ k.length ∧ i = .int .i64 n ∧ l.take n = k.take n ∧ Nw w wr) (fun i _ => l.length + k.length - (intOf i).toNat)
  case atStart => exact ⟨0, Nat.zero_le _, Nat.zero_le _, rfl, rfl, Nw.refl _⟩
  case round =>
    obtain ⟨n, hn1, hn2, rfl, ht, hwr⟩ := hrel
    have HT := Lib.hid ht
    have HW := Lib.hid hwr
    clear ht
    by_cases h1 : n < l.length
    · obtain ⟨g, o, rfl, hg, hc⟩ := HL.out n h1
      have hc1 := hwr.cell hc
      by_cases h2 : n < k.length
      · obtain ⟨g2, o2, rfl, hg2, hd⟩ := HK.out n h2
        have hd1 := hwr.cell hd
        by_cases he : l[n] = k[n]
        · have he' : Hid (l.take (n + 1) = k.take (n + 1)) := by
            show l.take (n + 1) = k.take (n + 1)
            rw [List.take_succ_eq_append_getElem h1, List.take_succ_eq_append_getElem h2, HT.out, he]
          have q1 : decide ((l.length : Int) ≤ (n : Int)) = false := by simp; omega
          have q2 : decide ((k.length : Int) ≤ (n : Int)) = false := by simp; omega
          rw [he] at hc1
          clear hc hd hwr he
          go_wp2
          have d1 := cellG hc1
          have d2 := cellG hd1
          refine wp_region_quiet_below (by kernel_rfl) (by kernel_rfl) ?_
          repeat (first | go_big_quiet_step (fail) | quiet_step (fail))
          refine wpQuiet_nil ?_
          intro w2 hw2
          have hw2 := Lib.hid (Nw.of_regrown hw2)
          clear d1 d2 q1 q2 hc1 hd1
          go_wp2
          go_roundw
          case rel => exact ⟨n + 1, by omega, by omega, by go_num, he'.out, HW.out.trans hw2.out⟩
          case measure => simp [intOf]; omega
        · have r : Hid ((l == k) = false) := nbeq_at n (by rw [List.getElem?_eq_getElem h1, List.getElem?_eq_getElem h2]; intro e; exact he (Option.some.inj e))
          have q1 : decide ((l.length : Int) ≤ (n : Int)) = false := by simp; omega
          have q2 : decide ((k.length : Int) ≤ (n : Int)) = false := by simp; omega
          have q3 : (l[n] == k[n]) = false := by simpa using he
          have q4 : (l[n] != k[n]) = true := by simpa using he
          generalize l[n] = ln at *
          generalize k[n] = kn at *
          clear hc hd hwr
          go_wp2
          have d1 := cellG hc1
          have d2 := cellG hd1
          refine wp_region_quiet_below (by kernel_rfl) (by kernel_rfl) ?_
          repeat (first | go_big_quiet_step (fail) | quiet_step (fail))
          refine wpQuiet_nil ?_
          intro w2 hw2
          have hw2 := Lib.hid (Nw.of_regrown hw2)
          clear d1 d2 q1 q2 hc1 hd1
          go_wp2
          go_ret
          exact ⟨by rw [r.out]; rfl, HW.out.trans hw2.out⟩
      · have r : Hid ((l == k) = false) := nbeq_at n (by rw [List.getElem?_eq_getElem h1, List.getElem?_eq_none (by omega)]; simp)
        have q1 : decide ((l.length : Int) ≤ (n : Int)) = false := by simp; omega
        have q2 : decide ((k.length : Int) ≤ (n : Int)) = true := by simp; omega
        clear hc hwr hc1
        go_wp2
        refine wp_region_quiet_below (by kernel_rfl) (by kernel_rfl) ?_
        repeat (first | go_big_quiet_step (fail) | quiet_step (fail))
        refine wpQuiet_nil ?_
        intro w2 hw2
        have hw2 := Lib.hid (Nw.of_regrown hw2)
        clear q1 q2
        go_wp2
        go_ret
        exact ⟨by rw [r.out]; rfl, HW.out.trans hw2.out⟩
    · by_cases h2 : n < k.length
      · have r : Hid ((l == k) = false) := nbeq_at n (by rw [List.getElem?_eq_none (by omega), List.getElem?_eq_getElem h2]; simp)
        have q1 : decide ((l.length : Int) ≤ (n : Int)) = true := by simp; omega
        clear hwr
        go_wp2
        refine wp_region_quiet_below (by kernel_rfl) (by kernel_rfl) ?_
        repeat (first | go_big_quiet_step (fail) | quiet_step (fail))
        refine wpQuiet_nil ?_
        intro w2 hw2
        have hw2 := Lib.hid (Nw.of_regrown hw2)
        clear q1
        go_wp2
        go_ret
        exact ⟨by rw [r.out]; rfl, HW.out.trans hw2.out⟩
      · have r : Hid ((l == k) = true) := beq_of_take (by
          have := HT.out
          rw [List.take_of_length_le (by omega), List.take_of_length_le (by omega)] at this
          exact this)
        clear hwr
        go_wp2
        go_ret
        exact ⟨by rw [r.out]; rfl, HW.out⟩
end Go.Proofs.YtkhcdbafcigeoaaDoor
