/-
  The statements' own small functions, walked; and a sort that can be reckoned out.
-/
import Derived.Test.YtihagdadbeoeoaaDoorDiskQ
import Derived.Laws.IdiomStrings
import Derived.Laws.BytesArg
namespace Go.Proofs.YtihagdadbeoeoaaDoor
open Go Go.RowKit Go.Sort
set_option maxRecDepth 100000
set_option maxHeartbeats 800000

/-! ### A sort by insertion -/
def insS (x : Str) : List Str → List Str
  | [] => [x]
  | a :: l => if x ≤ a then x :: a :: l else a :: insS x l
def sortS : List Str → List Str
  | [] => []
  | a :: l => insS a (sortS l)
theorem insS_perm (x : Str) : ∀ l, (insS x l).Perm (x :: l)
  | [] => List.Perm.refl _
  | a :: l => by
    unfold insS
    split
    · exact List.Perm.refl _
    · exact (List.Perm.cons a (insS_perm x l)).trans (List.Perm.swap x a l)
theorem sortS_perm : ∀ l, (sortS l).Perm l
  | [] => List.Perm.refl _
  | a :: l => (insS_perm a _).trans (List.Perm.cons a (sortS_perm l))
theorem insS_sorted (x : Str) : ∀ l : List Str, l.Pairwise (· ≤ ·) → (insS x l).Pairwise (· ≤ ·)
  | [], _ => by simp [insS]
  | a :: l, h => by
    unfold insS
    split
    · rename_i hxa
      refine List.Pairwise.cons (fun y hy => ?_) h
      rcases List.mem_cons.1 hy with rfl | hy
      · exact hxa
      · exact List.le_trans hxa ((List.pairwise_cons.1 h).1 y hy)
    · rename_i hxa
      have hax : a ≤ x := (List.le_total a x).resolve_right hxa
      refine List.Pairwise.cons (fun y hy => ?_) (insS_sorted x l (List.pairwise_cons.1 h).2)
      rcases List.mem_cons.1 ((insS_perm x l).mem_iff.1 hy) with rfl | hy
      · exact hax
      · exact (List.pairwise_cons.1 h).1 y hy
theorem sortS_sorted : ∀ l : List Str, (sortS l).Pairwise (· ≤ ·)
  | [] => List.Pairwise.nil
  | a :: l => insS_sorted a _ (sortS_sorted l)
theorem sortS_eq (l : List Str) : (l.mergeSort fun x y => decide (x ≤ y)) = sortS l := by
  rw [← Go.mergeSort_of_perm (sortS_perm l)]
  exact List.mergeSort_of_pairwise ((sortS_sorted l).imp (by intro a b h; simpa using h))
theorem list_eq (d : Dsk) : d.list = sortS (namesF d.files) := sortS_eq _
theorem crash_eq (d : Dsk) (ks : List Int) : d.crash ks = { d with files := crashF (sortS (namesF d.files)) ks d.files, arm := -1, down := false } := by
  unfold Dsk.crash; rw [list_eq]

/-! ### Bytes and strings -/
theorem conv_str {w : World} {v : Value} {l : List UInt8} (h : Bs w v l) : (convert 29 9 v).run Tryd.prog w = .ok (.string ⟨l.toArray⟩) w := by
  rcases h with ⟨a, rfl, rfl⟩ | ⟨g, o, cap, rfl, h1, h2, hg, h3⟩
  · cases a with
    | some a => exact run_convert_bytes_back (P := Tryd.prog) w 29 9 5 a 0 [] Tryd.underlying29 Tryd.underlying5 Tryd.underlying9 (fun j hj => absurd hj (by simp))
    | none => exact run_convert_bytes_nil (P := Tryd.prog) w 29 5 Tryd.underlying29 Tryd.underlying5 0 0 9 Tryd.underlying9
  · exact run_convert_bytes_back (P := Tryd.prog) w 29 9 5 ⟨g, o, none⟩ cap l Tryd.underlying29 Tryd.underlying5 Tryd.underlying9 (fun j hj => by
      have := h3 j hj
      cases j with
      | zero => exact this
      | succ j => exact this)

theorem SameBytes_ok {w : World} {v u : Value} {l k : List UInt8} (h : Bs w v l) (h' : Bs w u k) :
    Calls Tryd.prog 23 #[v, u] w fun e w' => e = .returned (.bool (l == k)) ∧ w = w' := by
  have c1 := conv_str h
  have c2 := conv_str h'
  clear h h'
  go_enter Tryd.func23, Tryd.ntmps23
  go_wp2
  go_ret
  exact ⟨rfl, rfl⟩

theorem reads_ok {w : World} {b : Nat} {d : Dsk} {S : Nat → Prop} (h : DiskIn w b d S) (n l : Str) (hr : d.read n = (l, 0)) :
    Calls Tryd.prog 47 #[.pointer (some ⟨b, 0, none⟩), .string ⟨n.toArray⟩, .string ⟨l.toArray⟩] w fun e w' => e = .returned (.bool true) ∧ Nw w w' := by
  have H := Lib.hid h
  have HR := Lib.hid (Read_ok h n)
  rw [hr] at HR
  have hf : (fileOf d.files n).bytes = l := by
    unfold Dsk.read at hr
    split at hr
    · have := congrArg Prod.snd hr; simp at this
    · cases hg : getF d.files n with
      | none => rw [hg] at hr; have := congrArg Prod.snd hr; simp at this
      | some f => rw [hg] at hr; simp at hr; simp [fileOf, hg, hr]
  have HF := Lib.hid hf
  clear h hr hf
  go_enter Tryd.func47, Tryd.ntmps47
  go_wp2_with (go_at_call 22; refine HR.out.mono ?_)
  rintro e w1 ⟨v, rfl, hv, hw, -⟩
  have c1 := conv_str hv.rd
  have HS := Size_ok (H.out.nw hw) n
  rw [HF.out] at HS
  have HS := Lib.hid HS
  clear hv
  go_wp2_with (go_at_call 41; refine HS.out.mono ?_; rintro e w' ⟨rfl, hw2⟩)
  go_ret
  exact ⟨rfl, hw.trans hw2⟩
end Go.Proofs.YtihagdadbeoeoaaDoor
