/-
  Texts merged by a program of this claim's: Ref02A.
-/
import Derived.Test.YtkhcdbafcigeoaaDoorM11
import Derived.Test.YtkhcdbafcigeoaaDoorM9
/-
  The document's disk (amanuensisref02): in plain words, how it lies in memory; its small functions, walked.
-/
namespace Go.Proofs.YtkhcdbafcigeoaaDoor
open Go Go.RowKit Go.Sort
set_option maxRecDepth 100000
set_option maxHeartbeats 1600000

/-! ### Plain words: a disk whose files stand by rising names -/
def rfindI (L : List (Str × DFile)) (n : Str) : Int := match L.findIdx? (fun x => x.1 == n) with | some i => (i : Int) | none => -1
theorem rfind_at {L : List (Str × DFile)} {n : Str} {k : Nat} (hk : k < L.length) (h : ∀ j (hj : j < L.length), j < k → L[j].1 ≠ n) (he : L[k].1 = n) : rfindI L n = k := by
  have : L.findIdx? (fun x => x.1 == n) = some k := by
    rw [List.findIdx?_eq_some_iff_getElem]
    exact ⟨hk, by simpa using he, fun j hj => by simpa using h j (by omega) hj⟩
  simp [rfindI, this]
theorem rfind_none {L : List (Str × DFile)} {n : Str} (h : ∀ j (hj : j < L.length), L[j].1 ≠ n) : rfindI L n = -1 := by
  have : L.findIdx? (fun x => x.1 == n) = none := by
    rw [List.findIdx?_eq_none_iff]
    intro x hx
    obtain ⟨j, hj, rfl⟩ := List.getElem_of_mem hx
    simpa using h j hj
  simp [rfindI, this]
section
variable {X : Nat → Prop}
/-! ### In memory -/
/-- Bytes that lie in blocks of X (all if there are none). -/
def BsX (X : Nat → Prop) (w : World) (b : Value) (l : List UInt8) : Prop := Bs w b l ∧ (l ≠ [] → ∀ g, b.ownBlock = some g → X g)
theorem BsX.nw {X : Nat → Prop} {w w' : World} {b : Value} {l : List UInt8} (h : BsX X w b l) (hw : Nw w w') : BsX X w' b l := ⟨h.1.nw hw, h.2⟩
theorem BsX.len {X : Nat → Prop} {w : World} {b : Value} {l : List UInt8} (h : BsX X w b l) : ∃ a cap, b = .slice a l.length cap ∧ l.length ≤ maxLen := h.1.len
def FCells (X : Nat → Prop) (w : World) : List Value → List (Str × DFile) → Prop
  | cs, [] => cs = []
  | cs, x :: L => ∃ b cs', cs = .string ⟨x.1.toArray⟩ :: b :: .int .i64 x.2.synced :: cs' ∧ BsX X w b x.2.bytes ∧ FCells X w cs' L
theorem FCells.nw {w w' : World} (hw : Nw w w') : ∀ {L : List (Str × DFile)} {cs : List Value}, FCells X w cs L → FCells X w' cs L
  | [], _, h => h
  | _ :: _, _, ⟨b, cs', h1, h2, h3⟩ => ⟨b, cs', h1, h2.nw hw, FCells.nw hw h3⟩
theorem FCells.append {w : World} : ∀ {L M : List (Str × DFile)} {cs ds : List Value}, FCells X w cs L → FCells X w ds M → FCells X w (cs ++ ds) (L ++ M)
  | [], _, _, _, h, h' => by rw [show _ = [] from h]; exact h'
  | _ :: _, _, _, _, ⟨b, cs', h1, h2, h3⟩, h' => ⟨b, cs' ++ _, by rw [h1]; rfl, h2, FCells.append h3 h'⟩
theorem FCells.one {w : World} {n : Str} {f : DFile} {b : Value} (h : BsX X w b f.bytes) : FCells X w [.string ⟨n.toArray⟩, b, .int .i64 f.synced] [(n, f)] := ⟨b, [], rfl, h, rfl⟩
theorem FCells.len {w : World} : ∀ {L : List (Str × DFile)} {cs : List Value}, FCells X w cs L → cs.length = L.length * 3
  | [], _, h => by rw [show _ = [] from h]; rfl
  | _ :: L, _, ⟨b, cs', h1, h2, h3⟩ => by rw [h1]; simp only [List.length_cons, FCells.len h3]; omega
theorem FCells.elem {w : World} : ∀ {L : List (Str × DFile)} {cs : List Value}, FCells X w cs L → ∀ i (h : i < L.length), ∃ b, cs[i * 3]? = some (.string ⟨L[i].1.toArray⟩) ∧ cs[i * 3 + 1]? = some b ∧ cs[i * 3 + 2]? = some (.int .i64 L[i].2.synced) ∧ BsX X w b L[i].2.bytes
  | [], _, _, i, h => absurd h (by simp)
  | _ :: L, _, ⟨b, cs', h1, h2, h3⟩, 0, _ => ⟨b, by rw [h1]; rfl, by rw [h1]; rfl, by rw [h1]; rfl, h2⟩
  | _ :: L, _, ⟨b, cs', h1, h2, h3⟩, i + 1, h => by
    obtain ⟨b', e1, e2, e3, e4⟩ := FCells.elem h3 i (by simpa using h)
    refine ⟨b', ?_, ?_, ?_, e4⟩
    · rw [h1, show (i + 1) * 3 = i * 3 + 3 by omega]; exact e1
    · rw [h1, show (i + 1) * 3 + 1 = i * 3 + 1 + 3 by omega]; exact e2
    · rw [h1, show (i + 1) * 3 + 2 = i * 3 + 2 + 3 by omega]; exact e3
theorem FCells.one_cell {w : World} : ∀ {L : List (Str × DFile)} {cs : List Value}, FCells X w cs L → ∀ u ∈ cs, u.oneCell' = true
  | [], _, h, u, hu => by rw [show _ = [] from h] at hu; cases hu
  | _ :: L, _, ⟨b, cs', h1, h2, h3⟩, u, hu => by
    rw [h1] at hu
    simp only [List.mem_cons] at hu
    rcases hu with rfl | rfl | rfl | hu
    · rfl
    · obtain ⟨a, c, rfl, -⟩ := h2.len; rfl
    · rfl
    · exact FCells.one_cell h3 u hu

/-- A slice of files, anybody's. -/
def FL (X : Nat → Prop) (w : World) (v : Value) (L : List (Str × DFile)) : Prop := ∃ cs, SrcV 3 w v L.length cs ∧ FCells X w cs L ∧ (L ≠ [] → ∀ g, v.ownBlock = some g → X g)
theorem FL.nw {w w' : World} {v : Value} {L : List (Str × DFile)} (h : FL X w v L) (hw : Nw w w') : FL X w' v L := by
  obtain ⟨cs, h1, h2, h3⟩ := h
  exact ⟨cs, h1.nw hw, h2.nw hw, h3⟩
theorem FL.elem {w : World} {v : Value} {L : List (Str × DFile)} (h : FL X w v L) : ∃ a cap, v = .slice a L.length cap ∧ L.length ≤ cap ∧ cap ≤ maxLen ∧ ∀ i (h : i < L.length), ∃ g o b, a = some ⟨g, o, none⟩ ∧
    w.cell? ⟨g, o + i * 3, none⟩ = some (.string ⟨L[i].1.toArray⟩) ∧ w.cell? ⟨g, o + i * 3 + 1, none⟩ = some b ∧ w.cell? ⟨g, o + i * 3 + 2, none⟩ = some (.int .i64 L[i].2.synced) ∧ BsX X w b L[i].2.bytes := by
  obtain ⟨cs, ⟨h0, ⟨a, rfl, hn⟩ | ⟨g, o, cap, rfl, h1, h2, h3, h4⟩⟩, hF, -⟩ := h
  · obtain rfl : L = [] := List.eq_nil_of_length_eq_zero hn
    exact ⟨a, 0, rfl, by simp, by simp, fun i hi => absurd hi (by simp)⟩
  · refine ⟨_, cap, rfl, h1, h2, fun i hi => ?_⟩
    obtain ⟨b, e1, e2, e3, e4⟩ := hF.elem i hi
    have key : ∀ j u, cs[j]? = some u → w.cell? ⟨g, o + j, none⟩ = some u := fun j u hj => by
      obtain ⟨hlt, he⟩ := List.getElem?_eq_some_iff.1 hj
      rw [h4 j hlt, he]
    exact ⟨g, o, b, rfl, key _ _ e1, by rw [Nat.add_assoc]; exact key _ _ e2, by rw [Nat.add_assoc]; exact key _ _ e3, e4⟩
/-- The document's disk as a value. -/
def RefD (X : Nat → Prop) (w : World) (v : Value) (r : Dsk) : Prop := ∃ sv, v = .agg #[.int .i64 r.most, sv, .int .i64 r.arm, .bool r.down] ∧ FL X w sv r.files
theorem RefD.nw {w w' : World} {v : Value} {r : Dsk} (h : RefD X w v r) (hw : Nw w w') : RefD X w' v r := by
  obtain ⟨sv, h1, h2⟩ := h
  exact ⟨sv, h1, h2.nw hw⟩
/-- .. the files' bytes lie in wb, the rest in w. -/
def RefB (X : Nat → Prop) (wb w : World) (v : Value) (r : Dsk) : Prop := ∃ sv cs, v = .agg #[.int .i64 r.most, sv, .int .i64 r.arm, .bool r.down] ∧ SrcV 3 w sv r.files.length cs ∧ FCells X wb cs r.files
/-- .. the list is behind w0. -/
def RefN (X : Nat → Prop) (wb w0 w : World) (v : Value) (r : Dsk) : Prop := ∃ sv cs, v = .agg #[.int .i64 r.most, sv, .int .i64 r.arm, .bool r.down] ∧ SrcV 3 w sv r.files.length cs ∧ FCells X wb cs r.files ∧ ∀ g, sv.ownBlock = some g → w0.heap.size ≤ g
theorem RefN.b {wb w0 w : World} {v : Value} {r : Dsk} (h : RefN X wb w0 w v r) : RefB X wb w v r := by
  obtain ⟨sv, cs, h1, h2, h3, -⟩ := h
  exact ⟨sv, cs, h1, h2, h3⟩
theorem RefD.b {w : World} {v : Value} {r : Dsk} (h : RefD X w v r) : RefB X w w v r := by
  obtain ⟨sv, h1, cs, h2, h3, -⟩ := h
  exact ⟨sv, cs, h1, h2, h3⟩
theorem RefB.nw {wb w w' : World} {v : Value} {r : Dsk} (h : RefB X wb w v r) (hw : Nw w w') : RefB X wb w' v r := by
  obtain ⟨sv, cs, h1, h2, h3⟩ := h
  exact ⟨sv, cs, h1, h2.nw hw, h3⟩
theorem SrcV.elem {wb w : World} {v : Value} {L : List (Str × DFile)} {cs : List Value} (hs : SrcV 3 w v L.length cs) (hF : FCells X wb cs L) : ∃ a cap, v = .slice a L.length cap ∧ L.length ≤ cap ∧ cap ≤ maxLen ∧ ∀ i (h : i < L.length), ∃ g o b, a = some ⟨g, o, none⟩ ∧
    w.cell? ⟨g, o + i * 3, none⟩ = some (.string ⟨L[i].1.toArray⟩) ∧ w.cell? ⟨g, o + i * 3 + 1, none⟩ = some b ∧ w.cell? ⟨g, o + i * 3 + 2, none⟩ = some (.int .i64 L[i].2.synced) ∧ BsX X wb b L[i].2.bytes := by
  obtain ⟨h0, ⟨a, rfl, hn⟩ | ⟨g, o, cap, rfl, h1, h2, h3, h4⟩⟩ := hs
  · obtain rfl : L = [] := List.eq_nil_of_length_eq_zero hn
    exact ⟨a, 0, rfl, by simp, by simp, fun i hi => absurd hi (by simp)⟩
  · refine ⟨_, cap, rfl, h1, h2, fun i hi => ?_⟩
    obtain ⟨b, e1, e2, e3, e4⟩ := hF.elem i hi
    have key : ∀ j u, cs[j]? = some u → w.cell? ⟨g, o + j, none⟩ = some u := fun j u hj => by
      obtain ⟨hlt, he⟩ := List.getElem?_eq_some_iff.1 hj
      rw [h4 j hlt, he]
    exact ⟨g, o, b, rfl, key _ _ e1, by rw [Nat.add_assoc]; exact key _ _ e2, by rw [Nat.add_assoc]; exact key _ _ e3, e4⟩
/-- What a box holds. -/
theorem box_cells {w : World} {p : Nat} {a b c d : Value} {t : TypeId} (h : w.heap[p]? = some (.cells #[a, b, c, d] t (0, 0))) :
    w.cell? ⟨p, 0, none⟩ = some a ∧ w.cell? ⟨p, 1, none⟩ = some b ∧ w.cell? ⟨p, 2, none⟩ = some c ∧ w.cell? ⟨p, 3, none⟩ = some d ∧ w.frozen? ⟨p, 0, none⟩ = false ∧ w.frozen? ⟨p, 1, none⟩ = false ∧ w.frozen? ⟨p, 2, none⟩ = false ∧ w.frozen? ⟨p, 3, none⟩ = false := by
  simp [World.cell?, World.frozen?, h]
theorem box_cells3 {w : World} {p : Nat} {a b c : Value} {t : TypeId} (h : w.heap[p]? = some (.cells #[a, b, c] t (0, 0))) :
    w.cell? ⟨p, 0, none⟩ = some a ∧ w.cell? ⟨p, 1, none⟩ = some b ∧ w.cell? ⟨p, 2, none⟩ = some c ∧ w.frozen? ⟨p, 0, none⟩ = false ∧ w.frozen? ⟨p, 1, none⟩ = false ∧ w.frozen? ⟨p, 2, none⟩ = false := by
  simp [World.cell?, World.frozen?, h]

/-! ### The walks -/
theorem rNew_ok (w : World) (most : Int) (h0 : 0 ≤ most) (h1 : most ≤ 16777216) : Calls Tryd.prog 5 #[.int .i64 most] w fun e w' =>
    e = .returned (.tuple #[.agg #[.int .i64 most, .slice none 0 0, .int .i64 (-1), .bool false], .int .i64 0]) ∧ Nw w w' := by
  go_enter Tryd.func5, Tryd.ntmps5
  go_wp2
  refine bodyPost_ret (v := .tuple #[.agg #[.int .i64 most, .slice none 0 0, .int .i64 (-1), .bool false], .int .i64 0]) (by simp [results, Tryd.results5, go_sem]) rfl ⟨rfl, ?_⟩
  exact (Nw.refl w).alloc _
theorem rNew_no (w : World) (most : Int) (h : most < 0 ∨ 16777216 < most) : Calls Tryd.prog 5 #[.int .i64 most] w fun e w' =>
    e = .returned (.tuple #[.agg #[.int .i64 0, .slice none 0 0, .int .i64 0, .bool false], .int .i64 2]) ∧ Nw w w' := by
  have hc : most < 0 ∨ (0 ≤ most ∧ 16777216 < most) := by omega
  rcases hc with h | ⟨h1, h⟩
  all_goals
    go_enter Tryd.func5, Tryd.ntmps5
    go_wp2
    refine bodyPost_ret (v := .tuple #[.agg #[.int .i64 0, .slice none 0 0, .int .i64 0, .bool false], .int .i64 2]) (by simp [results, Tryd.results5, go_sem]) rfl ⟨rfl, ?_⟩
    exact (Nw.refl w).alloc _

theorem rFind_ok {w : World} {v : Value} {r : Dsk} (h : RefD X w v r) (n : Str) : Calls Tryd.prog 25 #[v, .string ⟨n.toArray⟩] w fun e w' => e = .returned (.int .i64 (rfindI r.files n)) ∧ Nw w w' := by
  obtain ⟨sv, rfl, hFL⟩ := h
  obtain ⟨a, cap, rfl, h1, h2, hel⟩ := hFL.elem
  obtain ⟨most, L, left, down⟩ := r
  simp only at h1 h2 hel hFL ⊢
  have HE := Lib.hid hel
  clear hel hFL
  unfold maxLen at h2
  have HN : Hid (Nw w (w.alloc (.cells #[.int .i64 most, .slice a L.length cap, .int .i64 left, .bool down] 29))) := Lib.hid ((Nw.refl w).alloc _)
  go_enter Tryd.func25, Tryd.ntmps25
  go_wp2
  go_loop [5] (fun i => ∃ k : Nat, k ≤ L.length ∧ i = .int .i64 k ∧ ∀ j (h : j < L.length), j < k → L[j].1 ≠ n) (fun i => L.length - (intOf i).toNat)
  case atStart => exact ⟨0, Nat.zero_le _, rfl, fun j h hj => absurd hj (by omega)⟩
  case round =>
    obtain ⟨k, hk, rfl, hno⟩ := hrel
    have HNO := Lib.hid hno
    clear hno
    by_cases hlt : k < L.length
    · obtain ⟨g, o, b, rfl, c0, -, -, -⟩ := HE.out k hlt
      have c0 := HN.out.cell c0
      by_cases hn : L[k].1 = n
      · have r := Lib.hid (rfind_at hlt HNO.out hn)
        rw [hn] at c0
        clear hn
        go_wp2
        go_ret
        exact ⟨by rw [r.out]; rfl, HN.out⟩
      · have HK : Hid (∀ j (h : j < L.length), j < k + 1 → L[j].1 ≠ n) := Lib.hid (fun j h hj => by
          by_cases e : j = k
          · subst e; exact hn
          · exact HNO.out j h (by omega))
        generalize L[k].1 = nm at *
        have hn' : (nm == n) = false := by simpa using hn
        clear hn
        go_wp2
        go_round
        case rel => exact ⟨k + 1, by omega, by go_num, HK.out⟩
        case measure => simp [intOf]; omega
    · have r := Lib.hid (rfind_none (L := L) (n := n) (fun j hj => HNO.out j hj (by omega)))
      go_wp2
      go_ret
      exact ⟨by rw [r.out]; rfl, HN.out⟩

theorem usedF_take (L : List (Str × DFile)) (k : Nat) (h : k < L.length) : usedF (L.take (k + 1)) = usedF (L.take k) + L[k].2.bytes.length := by
  rw [List.take_succ_eq_append_getElem h, usedF_append]
  simp [usedF]
theorem usedF_le (L : List (Str × DFile)) (k : Nat) : usedF (L.take k) ≤ usedF L := by
  have : usedF L = usedF (L.take k) + usedF (L.drop k) := by rw [← usedF_append, List.take_append_drop]
  omega
theorem rUsed_ok {w : World} {v : Value} {r : Dsk} (h : RefD X w v r) (hu : usedF r.files ≤ 9223372036854775807) : Calls Tryd.prog 38 #[v] w fun e w' => e = .returned (.int .i64 (usedF r.files)) ∧ Nw w w' := by
  obtain ⟨sv, rfl, hFL⟩ := h
  obtain ⟨a, cap, rfl, h1, h2, hel⟩ := hFL.elem
  obtain ⟨most, L, left, down⟩ := r
  simp only at h1 h2 hel hFL hu ⊢
  have HE := Lib.hid hel
  clear hel hFL
  unfold maxLen at h2
  have HN : Hid (Nw w (w.alloc (.cells #[.int .i64 most, .slice a L.length cap, .int .i64 left, .bool down] 29))) := Lib.hid ((Nw.refl w).alloc _)
  go_enter Tryd.func38, Tryd.ntmps38
  go_wp2
  go_loop [3, 4] (fun s i => ∃ k : Nat, k ≤ L.length ∧ i = .int .i64 k ∧ s = .int .i64 (usedF (L.take k))) (fun _ i => L.length - (intOf i).toNat)
  case atStart => exact ⟨0, Nat.zero_le _, rfl, rfl⟩
  case round =>
    obtain ⟨k, hk, rfl, rfl⟩ := hrel
    by_cases hlt : k < L.length
    · obtain ⟨g, o, b, rfl, -, c1, -, hb⟩ := HE.out k hlt
      have c1 := HN.out.cell c1
      obtain ⟨ba, bc, rfl, -⟩ := hb.len
      have e1 := usedF_take L k hlt
      have l1 := usedF_le L (k + 1)
      rw [e1] at l1
      have E1 := Lib.hid e1
      clear e1 hb
      generalize L[k].2.bytes.length = bl at *
      generalize usedF (List.take k L) = u at *
      go_wp2
      go_round
      case rel => exact ⟨k + 1, by omega, by go_num, by rw [E1.out]; go_num⟩
      case measure => simp [intOf]; omega
    · have e : L.take k = L := List.take_of_length_le (by omega)
      have E := Lib.hid e
      clear e
      go_wp2
      go_ret
      exact ⟨by rw [E.out]; rfl, HN.out⟩

/-- The two rows of cells that a disk's box and a result's box are. -/
theorem infoFile : (Tryd.prog.info? 72).map (fun i => (i.zero, i.size, i.bytes)) = some (some (.agg #[.string ⟨#[]⟩, .slice none 0 0, .int .i64 0]), 3, 48) := by kernel_rfl

theorem rwithout_take (L : List (Str × DFile)) (n : Str) (k : Nat) (h : k < L.length) : rwithout (L.take (k + 1)) n = rwithout (L.take k) n ++ (if L[k].1 = n then [] else [L[k]]) := by
  rw [List.take_succ_eq_append_getElem h]
  unfold rwithout
  rw [List.filter_append]
  congr 1
  by_cases e : L[k].1 = n
  · simp [e]
  · have : (L[k].1 == n) = false := by simpa using e
    simp [List.filter_cons, this, e]
theorem rwithout_len (L : List (Str × DFile)) (n : Str) : (rwithout L n).length ≤ L.length := List.length_filter_le _ _

theorem rwithout_ok {wb w : World} {v : Value} {r : Dsk} (h : RefB X wb w v r) (hwb : Nw wb w) (n : Str) (hL : r.files.length ≤ 100000) :
    Calls Tryd.prog 47 #[v, .string ⟨n.toArray⟩] w fun e w' => ∃ v', e = .returned v' ∧ RefN X wb w w' v' { r with files := rwithout r.files n } ∧ Nw w w' := by
  obtain ⟨sv, cs0, rfl, hSV, hFL⟩ := h
  obtain ⟨a, cap, rfl, h1, h2, hel⟩ := SrcV.elem hSV hFL
  obtain ⟨most, L, left, down⟩ := r
  simp only at h1 h2 hel hL ⊢
  have HE := Lib.hid hel
  have HWB := Lib.hid hwb
  clear hel hFL hSV hwb
  unfold maxLen at h2
  obtain ⟨i0, hi, hz0, hz1, hz2⟩ := info_parts infoFile
  have HI := Lib.hid hi
  have HZ0 := Lib.hid hz0
  have HZ1 := Lib.hid hz1
  have HZ2 := Lib.hid hz2
  clear hi hz0 hz1 hz2
  go_enter Tryd.func47, Tryd.ntmps47
  go_wp2
  generalize hW1 : (w.alloc (.cells #[.int .i64 most, .slice a L.length cap, .int .i64 left, .bool down] 29)).alloc (.cells #[.int .i64 0, .slice none 0 0, .int .i64 0, .bool false] 29) = W1
  have HN1 : Hid (Nw w W1) := Lib.hid (by rw [← hW1]; exact ((Nw.refl w).alloc _).alloc _)
  have HB1 : Hid (W1.heap[w.heap.size]? = some (.cells #[.int .i64 most, .slice a L.length cap, .int .i64 left, .bool down] 29 (0, 0))) := Lib.hid (by rw [← hW1]; rw [heap_alloc_old _ _ (by simp)]; exact heap_alloc_new w _)
  have HB2 : Hid (W1.heap[w.heap.size + 1]? = some (.cells #[.int .i64 0, .slice none 0 0, .int .i64 0, .bool false] 29 (0, 0))) := Lib.hid (by rw [← hW1]; have := heap_alloc_new (w.alloc (.cells #[.int .i64 most, .slice a L.length cap, .int .i64 left, .bool down] 29)) (.cells #[.int .i64 0, .slice none 0 0, .int .i64 0, .bool false] 29); simpa using this)
  have hs1 : W1.heap.size = w.heap.size + 2 := by rw [← hW1]; simp
  have HS1 := Lib.hid hs1
  clear hW1 hs1
  go_loopw [5, 6] (fun v i wr => ∃ (k : Nat) (cs : List Value), k ≤ L.length ∧ i = .int .i64 k ∧ Vec 3 wr v (rwithout (L.take k) n).length cs ∧ FCells X wb cs (rwithout (L.take k) n) ∧ Nw W1 wr ∧ ∀ g, v.ownBlock = some g → W1.heap.size ≤ g) (fun _ i _ => L.length - (intOf i).toNat)
  case atStart => exact ⟨0, [], Nat.zero_le _, rfl, Vec.nil, rfl, Nw.refl _, (fun g hg => by cases hg)⟩
  case round =>
    obtain ⟨k, cs, hk, rfl, hv, hfc, hwr, hnew⟩ := hrel
    have HV := Lib.hid hv
    have HFC := Lib.hid hfc
    have HW := Lib.hid hwr
    have HNEW := Lib.hid hnew
    clear hv hfc hwr hnew
    obtain ⟨b0, b1, b2, b3, -⟩ := box_cells (HW.out.at_ HB1.out)
    by_cases hlt : k < L.length
    · obtain ⟨g, o, b, rfl, c0, c1, c2, hb⟩ := HE.out k hlt
      have hN := HN1.out.trans HW.out
      have c0 := hN.cell c0
      have c1 := hN.cell c1
      have c2 := hN.cell c2
      obtain ⟨ba, bc, rfl, -⟩ := hb.len
      have hone : FCells X wb [.string ⟨L[k].1.toArray⟩, .slice ba L[k].2.bytes.length bc, .int .i64 L[k].2.synced] [L[k]] := FCells.one hb
      have hrt := rwithout_take L n k hlt
      have hlen : (rwithout (L.take k) n).length ≤ k := Nat.le_trans (rwithout_len _ _) (by simp; omega)
      clear hb
      generalize L[k] = x at *
      have HRT := Lib.hid hrt
      have HONE := Lib.hid hone
      clear hrt hone hN
      by_cases hn : x.1 = n
      · have f1 : (x.1 == n) = true := by simpa using hn
        have HRT : Hid (rwithout (L.take (k + 1)) n = rwithout (L.take k) n) := Lib.hid (by rw [HRT.out, if_pos hn]; simp)
        clear hn
        go_wp2
        go_roundw
        case rel => exact ⟨k + 1, cs, by omega, by go_num, by rw [HRT.out]; exact HV.out, by rw [HRT.out]; exact HFC.out, HW.out, HNEW.out⟩
        case measure => simp [intOf]; omega
      · have f1 : (x.1 == n) = false := by simpa using hn
        have HRT : Hid (rwithout (L.take (k + 1)) n = rwithout (L.take k) n ++ [x]) := Lib.hid (by rw [HRT.out, if_neg hn])
        clear hn
        obtain ⟨x1, x2, x3⟩ := x
        simp only at *
        have V2 := Lib.hid (HV.out.nw ((Nw.refl wr).alloc (.cells #[.string ⟨x1.toArray⟩, .slice ba x2.length bc, .int .i64 x3] 72)))
        have S2 : Hid (SrcV 3 (wr.alloc (.cells #[.string ⟨x1.toArray⟩, .slice ba x2.length bc, .int .i64 x3] 72)) (.slice (some ⟨wr.heap.size, 0, none⟩) 1 1) 1 [.string ⟨x1.toArray⟩, .slice ba x2.length bc, .int .i64 x3]) := Lib.hid (src_lit wr _ _ 3 1 1 _ rfl (Nat.le_refl 1) (by decide))
        go_wp2_with (at_builtin; refine wpList_append_vec rfl _ _ 27 rfl 72 i0 (.agg #[.string ⟨#[]⟩, .slice none 0 0, .int .i64 0]) 3 48 Tryd.underlying27 HI.out HZ0.out HZ1.out HZ2.out rfl (by decide) rfl rfl V2.out S2.out HONE.out.one_cell ?c1 ?c2 ?_)
        case c1 => simp [maxLen]; omega
        case c2 => omega
        intro v' w' hv' ho hf
        have HV' := Lib.hid hv'
        have HO := Lib.hid ho
        have HF' := Lib.hid hf
        clear hv' ho hf
        have HW' : Hid (Nw W1 w') := Lib.hid ((HW.out.trans ((Nw.refl wr).alloc _)).trans' HO.out (fun k hk e => by have := HNEW.out k e; omega))
        go_wp2
        go_roundw
        case rel => exact ⟨k + 1, cs ++ [.string ⟨x1.toArray⟩, .slice ba x2.length bc, .int .i64 x3], by omega, by go_num, by rw [HRT.out, List.length_append]; exact HV'.out, by rw [HRT.out]; exact HFC.out.append HONE.out, HW'.out, (fun g hg => by
          rcases HF'.out with hf | hf
          · exact HNEW.out g (hf ▸ hg)
          · have := hf g hg; have := HW.out.size; simp at *; omega)⟩
        case measure => simp [intOf]; omega
    · have e : L.take k = L := List.take_of_length_le (by omega)
      rw [e] at HV HFC
      obtain ⟨va, vc, hvv, -⟩ := HV.out.len
      subst hvv
      obtain ⟨-, -, -, -, bf0, bf1, bf2, bf3⟩ := box_cells (HW.out.at_ HB1.out)
      obtain ⟨r0, r1, r2, r3, rf0, rf1, rf2, rf3⟩ := box_cells (HW.out.at_ HB2.out)
      have hsz : w.heap.size + 1 < wr.heap.size := by have := HW.out.size; have := HS1.out; omega
      clear e
      go_wp2
      refine bodyPost_ret (v := .agg #[.int .i64 most, .slice va (rwithout L n).length vc, .int .i64 left, .bool down]) (by simp [results, Tryd.results47, go_sem, r0, r1, r2, r3]) rfl ?_
      have HO : Only (fun k => k = w.heap.size ∨ k = w.heap.size + 1) wr (((((wr.setCell ⟨w.heap.size, 1, none⟩ (.slice va (rwithout L n).length vc)).setCell ⟨w.heap.size + 1, 0, none⟩ (.int .i64 most)).setCell ⟨w.heap.size + 1, 1, none⟩ (.slice va (rwithout L n).length vc)).setCell ⟨w.heap.size + 1, 2, none⟩ (.int .i64 left)).setCell ⟨w.heap.size + 1, 3, none⟩ (.bool down)) :=
        ((((((Only.refl wr).setCell (fun _ => .inl rfl) _).setCell (fun _ => .inr rfl) _).setCell (fun _ => .inr rfl) _).setCell (fun _ => .inr rfl) _).setCell (fun _ => .inr rfl) _)
      have hN := (HN1.out.trans HW.out).trans' HO (fun k hk e => by rcases e with rfl | rfl <;> omega)
      refine ⟨_, rfl, ⟨_, _, rfl, (HV.out.keep HO.size (fun g hg => HO.block g (HV.out.lt g hg) (fun e => ?_))).src, HFC.out, fun g hg => ?_⟩, hN⟩
      · have := HNEW.out g hg
        have := HS1.out
        omega
      · have := HNEW.out g hg
        have := HS1.out
        omega
end
end Go.Proofs.YtkhcdbafcigeoaaDoor
