/-
  Texts merged by a program of this claim's: Ref02A, Ref02B, Ref02C.
-/
import Derived.Test.YtkhcdbafcigeoaaGreatDoorM7
import Derived.Test.YtkhcdbafcigeoaaGreatDoorM14
import Derived.Sort.Walk0
import Derived.Laws.Cover1
/-
  The document's disk (amanuensisref02): in plain words, how it lies in memory; its small functions, walked.
-/
namespace Go.Proofs.YtkhcdbafcigeoaaGreatDoor
open Go Go.RowKit Go.Sort
set_option maxRecDepth 100000
set_option maxHeartbeats 1600000

/-! ### Plain words: a disk whose files stand by rising names -/
section
variable {X : Nat → Prop}
/-! ### In memory -/
/-- Bytes that lie in blocks of X (all if there are none). -/
def BsX (X : Nat → Prop) (w : World) (b : Value) (l : List UInt8) : Prop := Bs w b l ∧ (l ≠ [] → ∀ g, b.ownBlock = some g → X g)
theorem BsX.nw {X : Nat → Prop} {w w' : World} {b : Value} {l : List UInt8} (h : BsX X w b l) (hw : Nw w w') : BsX X w' b l := ⟨h.1.nw hw, h.2⟩
theorem BsX.len {X : Nat → Prop} {w : World} {b : Value} {l : List UInt8} (h : BsX X w b l) : ∃ a cap, b = .slice a l.length cap ∧ l.length ≤ maxLen := h.1.len
def FCells (X : Nat → Prop) (w : World) : List Value → List (Str × DFile) → Prop
  | cs, [] => cs = []
  | cs, x :: L => ∃ b cs', cs = .string ⟨x.1.toArray⟩ :: b :: .int .i64 x.2.synced :: cs' ∧ BsX X w b x.2.bytes ∧ FCells X w cs' L
theorem FCells.nw {w w' : World} (hw : Nw w w') : ∀ {L : List (Str × DFile)} {cs : List Value}, FCells X w cs L → FCells X w' cs L
  | [], _, h => h
  | _ :: _, _, ⟨b, cs', h1, h2, h3⟩ => ⟨b, cs', h1, h2.nw hw, FCells.nw hw h3⟩
theorem FCells.append {w : World} : ∀ {L M : List (Str × DFile)} {cs ds : List Value}, FCells X w cs L → FCells X w ds M → FCells X w (cs ++ ds) (L ++ M)
  | [], _, _, _, h, h' => by rw [show _ = [] from h]; exact h'
  | _ :: _, _, _, _, ⟨b, cs', h1, h2, h3⟩, h' => ⟨b, cs' ++ _, by rw [h1]; rfl, h2, FCells.append h3 h'⟩
theorem FCells.one {w : World} {n : Str} {f : DFile} {b : Value} (h : BsX X w b f.bytes) : FCells X w [.string ⟨n.toArray⟩, b, .int .i64 f.synced] [(n, f)] := ⟨b, [], rfl, h, rfl⟩
theorem FCells.len {w : World} : ∀ {L : List (Str × DFile)} {cs : List Value}, FCells X w cs L → cs.length = L.length * 3
  | [], _, h => by rw [show _ = [] from h]; rfl
  | _ :: L, _, ⟨b, cs', h1, h2, h3⟩ => by rw [h1]; simp only [List.length_cons, FCells.len h3]; omega
theorem FCells.elem {w : World} : ∀ {L : List (Str × DFile)} {cs : List Value}, FCells X w cs L → ∀ i (h : i < L.length), ∃ b, cs[i * 3]? = some (.string ⟨L[i].1.toArray⟩) ∧ cs[i * 3 + 1]? = some b ∧ cs[i * 3 + 2]? = some (.int .i64 L[i].2.synced) ∧ BsX X w b L[i].2.bytes
  | [], _, _, i, h => absurd h (by simp)
  | _ :: L, _, ⟨b, cs', h1, h2, h3⟩, 0, _ => ⟨b, by rw [h1]; rfl, by rw [h1]; rfl, by rw [h1]; rfl, h2⟩
  | _ :: L, _, ⟨b, cs', h1, h2, h3⟩, i + 1, h => by
    obtain ⟨b', e1, e2, e3, e4⟩ := FCells.elem h3 i (by simpa using h)
    refine ⟨b', ?_, ?_, ?_, e4⟩
    · rw [h1, show (i + 1) * 3 = i * 3 + 3 by omega]; exact e1
    · rw [h1, show (i + 1) * 3 + 1 = i * 3 + 1 + 3 by omega]; exact e2
    · rw [h1, show (i + 1) * 3 + 2 = i * 3 + 2 + 3 by omega]; exact e3
theorem FCells.one_cell {w : World} : ∀ {L : List (Str × DFile)} {cs : List Value}, FCells X w cs L → ∀ u ∈ cs, u.oneCell' = true
  | [], _, h, u, hu => by rw [show _ = [] from h] at hu; cases hu
  | _ :: L, _, ⟨b, cs', h1, h2, h3⟩, u, hu => by
    rw [h1] at hu
    simp only [List.mem_cons] at hu
    rcases hu with rfl | rfl | rfl | hu
    · rfl
    · obtain ⟨a, c, rfl, -⟩ := h2.len; rfl
    · rfl
    · exact FCells.one_cell h3 u hu

/-- A slice of files, anybody's. -/
def FL (X : Nat → Prop) (w : World) (v : Value) (L : List (Str × DFile)) : Prop := ∃ cs, SrcV 3 w v L.length cs ∧ FCells X w cs L ∧ (L ≠ [] → ∀ g, v.ownBlock = some g → X g)
theorem FL.nw {w w' : World} {v : Value} {L : List (Str × DFile)} (h : FL X w v L) (hw : Nw w w') : FL X w' v L := by
  obtain ⟨cs, h1, h2, h3⟩ := h
  exact ⟨cs, h1.nw hw, h2.nw hw, h3⟩
theorem FL.elem {w : World} {v : Value} {L : List (Str × DFile)} (h : FL X w v L) : ∃ a cap, v = .slice a L.length cap ∧ L.length ≤ cap ∧ cap ≤ maxLen ∧ ∀ i (h : i < L.length), ∃ g o b, a = some ⟨g, o, none⟩ ∧
    w.cell? ⟨g, o + i * 3, none⟩ = some (.string ⟨L[i].1.toArray⟩) ∧ w.cell? ⟨g, o + i * 3 + 1, none⟩ = some b ∧ w.cell? ⟨g, o + i * 3 + 2, none⟩ = some (.int .i64 L[i].2.synced) ∧ BsX X w b L[i].2.bytes := by
  obtain ⟨cs, ⟨h0, ⟨a, rfl, hn⟩ | ⟨g, o, cap, rfl, h1, h2, h3, h4⟩⟩, hF, -⟩ := h
  · obtain rfl : L = [] := List.eq_nil_of_length_eq_zero hn
    exact ⟨a, 0, rfl, by simp, by simp, fun i hi => absurd hi (by simp)⟩
  · refine ⟨_, cap, rfl, h1, h2, fun i hi => ?_⟩
    obtain ⟨b, e1, e2, e3, e4⟩ := hF.elem i hi
    have key : ∀ j u, cs[j]? = some u → w.cell? ⟨g, o + j, none⟩ = some u := fun j u hj => by
      obtain ⟨hlt, he⟩ := List.getElem?_eq_some_iff.1 hj
      rw [h4 j hlt, he]
    exact ⟨g, o, b, rfl, key _ _ e1, by rw [Nat.add_assoc]; exact key _ _ e2, by rw [Nat.add_assoc]; exact key _ _ e3, e4⟩
/-- The document's disk as a value. -/
def RefD (X : Nat → Prop) (w : World) (v : Value) (r : Dsk) : Prop := ∃ sv, v = .agg #[.int .i64 r.most, sv, .int .i64 r.arm, .bool r.down] ∧ FL X w sv r.files
theorem RefD.nw {w w' : World} {v : Value} {r : Dsk} (h : RefD X w v r) (hw : Nw w w') : RefD X w' v r := by
  obtain ⟨sv, h1, h2⟩ := h
  exact ⟨sv, h1, h2.nw hw⟩
/-- .. the files' bytes lie in wb, the rest in w. -/
def RefB (X : Nat → Prop) (wb w : World) (v : Value) (r : Dsk) : Prop := ∃ sv cs, v = .agg #[.int .i64 r.most, sv, .int .i64 r.arm, .bool r.down] ∧ SrcV 3 w sv r.files.length cs ∧ FCells X wb cs r.files
/-- .. the list is behind w0. -/
def RefN (X : Nat → Prop) (wb w0 w : World) (v : Value) (r : Dsk) : Prop := ∃ sv cs, v = .agg #[.int .i64 r.most, sv, .int .i64 r.arm, .bool r.down] ∧ SrcV 3 w sv r.files.length cs ∧ FCells X wb cs r.files ∧ ∀ g, sv.ownBlock = some g → w0.heap.size ≤ g
theorem RefN.b {wb w0 w : World} {v : Value} {r : Dsk} (h : RefN X wb w0 w v r) : RefB X wb w v r := by
  obtain ⟨sv, cs, h1, h2, h3, -⟩ := h
  exact ⟨sv, cs, h1, h2, h3⟩
theorem RefD.b {w : World} {v : Value} {r : Dsk} (h : RefD X w v r) : RefB X w w v r := by
  obtain ⟨sv, h1, cs, h2, h3, -⟩ := h
  exact ⟨sv, cs, h1, h2, h3⟩
theorem RefB.nw {wb w w' : World} {v : Value} {r : Dsk} (h : RefB X wb w v r) (hw : Nw w w') : RefB X wb w' v r := by
  obtain ⟨sv, cs, h1, h2, h3⟩ := h
  exact ⟨sv, cs, h1, h2.nw hw, h3⟩
theorem SrcV.elem {wb w : World} {v : Value} {L : List (Str × DFile)} {cs : List Value} (hs : SrcV 3 w v L.length cs) (hF : FCells X wb cs L) : ∃ a cap, v = .slice a L.length cap ∧ L.length ≤ cap ∧ cap ≤ maxLen ∧ ∀ i (h : i < L.length), ∃ g o b, a = some ⟨g, o, none⟩ ∧
    w.cell? ⟨g, o + i * 3, none⟩ = some (.string ⟨L[i].1.toArray⟩) ∧ w.cell? ⟨g, o + i * 3 + 1, none⟩ = some b ∧ w.cell? ⟨g, o + i * 3 + 2, none⟩ = some (.int .i64 L[i].2.synced) ∧ BsX X wb b L[i].2.bytes := by
  obtain ⟨h0, ⟨a, rfl, hn⟩ | ⟨g, o, cap, rfl, h1, h2, h3, h4⟩⟩ := hs
  · obtain rfl : L = [] := List.eq_nil_of_length_eq_zero hn
    exact ⟨a, 0, rfl, by simp, by simp, fun i hi => absurd hi (by simp)⟩
  · refine ⟨_, cap, rfl, h1, h2, fun i hi => ?_⟩
    obtain ⟨b, e1, e2, e3, e4⟩ := hF.elem i hi
    have key : ∀ j u, cs[j]? = some u → w.cell? ⟨g, o + j, none⟩ = some u := fun j u hj => by
      obtain ⟨hlt, he⟩ := List.getElem?_eq_some_iff.1 hj
      rw [h4 j hlt, he]
    exact ⟨g, o, b, rfl, key _ _ e1, by rw [Nat.add_assoc]; exact key _ _ e2, by rw [Nat.add_assoc]; exact key _ _ e3, e4⟩
/-! ### The walks -/
end
end Go.Proofs.YtkhcdbafcigeoaaGreatDoor

/-
  The document's disk: 'joined', 'operation', 'with', walked.
-/
namespace Go.Proofs.YtkhcdbafcigeoaaGreatDoor
open Go Go.RowKit Go.Sort
set_option maxRecDepth 100000
set_option maxHeartbeats 1600000
section
variable {X : Nat → Prop}

/-! ### with -/
theorem rins_hit (f x : Str × DFile) : ∀ A : List (Str × DFile), (∀ y ∈ A, ¬ f.1 < y.1) → f.1 < x.1 → rins f (A ++ [x]) = A ++ [f, x]
  | [], _, h => by simp [rins, h]
  | y :: A, hA, h => by
    have := rins_hit f x A (fun z hz => hA z (by simp [hz])) h
    simp [rins, hA y (by simp), this]
theorem rins_done (f x : Str × DFile) : ∀ A : List (Str × DFile), (∃ y ∈ A, f.1 < y.1) → rins f (A ++ [x]) = rins f A ++ [x]
  | [], ⟨_, h, _⟩ => by cases h
  | y :: A, ⟨z, hz, h⟩ => by
    by_cases hy : f.1 < y.1
    · simp [rins, hy]
    · have hzA : z ∈ A := by
        rcases List.mem_cons.1 hz with rfl | hz
        · exact absurd h hy
        · exact hz
      have := rins_done f x A ⟨z, hzA, h⟩
      simp [rins, hy, this]
def WithAt (f : Str × DFile) (L : List (Str × DFile)) (k : Nat) (dn : Bool) (acc : List (Str × DFile)) : Prop :=
  if dn then acc = rins f (L.take k) ∧ ∃ y ∈ L.take k, f.1 < y.1 else acc = L.take k ∧ ∀ y ∈ L.take k, ¬ f.1 < y.1
theorem WithAt.skip {f : Str × DFile} {L : List (Str × DFile)} {k : Nat} {acc : List (Str × DFile)} (h : WithAt f L k false acc) (hk : k < L.length) (hx : ¬ f.1 < L[k].1) : WithAt f L (k + 1) false (acc ++ [L[k]]) := by
  simp only [WithAt, Bool.false_eq_true, if_false] at h ⊢
  rw [List.take_succ_eq_append_getElem hk, h.1]
  exact ⟨rfl, fun y hy => by
    rcases List.mem_append.1 hy with hy | hy
    · exact h.2 y hy
    · rw [List.mem_singleton.1 hy]; exact hx⟩
theorem WithAt.hit {f : Str × DFile} {L : List (Str × DFile)} {k : Nat} {acc : List (Str × DFile)} (h : WithAt f L k false acc) (hk : k < L.length) (hx : f.1 < L[k].1) : WithAt f L (k + 1) true (acc ++ [f] ++ [L[k]]) := by
  simp only [WithAt, Bool.false_eq_true, if_false, if_true] at h ⊢
  rw [List.take_succ_eq_append_getElem hk, h.1, rins_hit f _ _ h.2 hx]
  exact ⟨by simp, L[k], List.mem_append_right _ (List.mem_singleton_self _), hx⟩
theorem WithAt.on {f : Str × DFile} {L : List (Str × DFile)} {k : Nat} {acc : List (Str × DFile)} (h : WithAt f L k true acc) (hk : k < L.length) : WithAt f L (k + 1) true (acc ++ [L[k]]) := by
  simp only [WithAt, if_true] at h ⊢
  rw [List.take_succ_eq_append_getElem hk, h.1, rins_done f _ _ h.2]
  obtain ⟨y, hy, h2⟩ := h.2
  exact ⟨rfl, y, List.mem_append_left _ hy, h2⟩
theorem WithAt.len {f : Str × DFile} {L : List (Str × DFile)} {k : Nat} {dn : Bool} {acc : List (Str × DFile)} (h : WithAt f L k dn acc) (hk : k ≤ L.length) : acc.length = k + dn.toNat := by
  have hl : ∀ A : List (Str × DFile), (rins f A).length = A.length + 1 := by
    intro A
    induction A with
    | nil => rfl
    | cons y A ih => unfold rins; split <;> simp [ih]
  cases dn
  · simp only [WithAt, Bool.false_eq_true, if_false] at h
    rw [h.1]; simp; omega
  · simp only [WithAt, if_true] at h
    rw [h.1, hl]; simp; omega

/-- What grows while the loop goes: files, in a row that was made behind W1; their bytes lie in W0. -/
structure Grow (X : Nat → Prop) (W0 W1 wr : World) (v : Value) (acc : List (Str × DFile)) (cs : List Value) : Prop where
  vec : Vec 3 wr v acc.length cs
  cells : FCells X W0 cs acc
  nw : Nw W1 wr
  new : ∀ g, v.ownBlock = some g → W1.heap.size ≤ g
theorem Grow.push {W0 W1 wr w' : World} {v v' : Value} {acc : List (Str × DFile)} {cs ds : List Value} {x : Str × DFile} {o : Obj} (h : Grow X W0 W1 wr v acc cs) (hd : FCells X W0 ds [x]) (hv : Vec 3 w' v' (acc.length + 1) (cs ++ ds))
    (ho : Only (fun k => v.ownBlock = some k) (wr.alloc o) w') (hf : v'.ownBlock = v.ownBlock ∨ ∀ g, v'.ownBlock = some g → wr.heap.size + 1 ≤ g) : Grow X W0 W1 w' v' (acc ++ [x]) (cs ++ ds) := by
  refine ⟨by rw [List.length_append]; exact hv, h.cells.append hd, (h.nw.alloc o).trans' ho (fun k hk e => by have := h.new k e; omega), fun g hg => ?_⟩
  rcases hf with hf | hf
  · exact h.new g (hf ▸ hg)
  · have := hf g hg; have := h.nw.size; simp at *; omega
end
end Go.Proofs.YtkhcdbafcigeoaaGreatDoor

/-
  The document's disk: Right, Read, Arm, and the operations, walked.
-/
namespace Go.Proofs.YtkhcdbafcigeoaaGreatDoor
open Go Go.RowKit Go.Sort
set_option maxRecDepth 100000
set_option maxHeartbeats 1600000

theorem okChar_iff (c : UInt8) : okChar c = true ↔ (97 ≤ c.toNat ∧ c.toNat ≤ 122) ∨ (48 ≤ c.toNat ∧ c.toNat ≤ 57) ∨ c.toNat = 46 ∨ c.toNat = 45 := by
  have e1 : c = 46 ↔ c.toNat = 46 := ⟨fun h => by rw [h]; rfl, fun h => UInt8.toNat_inj.1 (by rw [h]; rfl)⟩
  have e2 : c = 45 ↔ c.toNat = 45 := ⟨fun h => by rw [h]; rfl, fun h => UInt8.toNat_inj.1 (by rw [h]; rfl)⟩
  simp [okChar, UInt8.le_iff_toNat_le, e1, e2, or_assoc]
theorem all_take (n : Str) (k : Nat) (h : k < n.length) : (n.take (k + 1)).all okChar = ((n.take k).all okChar && okChar n[k]) := by
  rw [List.take_succ_eq_append_getElem h, List.all_append]
  simp
theorem rRight_ok (n : Str) (w : World) (hn : n.length ≤ 9223372036854775807) : Calls Tryz.prog 74 #[.string ⟨n.toArray⟩] w fun e w' => e = .returned (.bool (okName n)) ∧ w = w' := by
  go_enter Tryz.func74, Tryz.ntmps74
  go_wp2
  go_loop [3] (fun i => ∃ k : Nat, k ≤ n.length ∧ i = .int .i64 k ∧ (n.take k).all okChar = true) (fun i => n.length - (intOf i).toNat)
  case atStart => exact ⟨0, Nat.zero_le _, rfl, rfl⟩
  case round =>
    obtain ⟨k, hk, rfl, hall⟩ := hrel
    have HALL := Lib.hid hall
    clear hall
    by_cases hlt : k < n.length
    · have hs := all_take n k hlt
      have hsz : k < (⟨n.toArray⟩ : ByteArray).size := by show k < n.toArray.size; simpa using hlt
      have hc : okChar n[k] = true ↔ (97 ≤ ((⟨n.toArray⟩ : ByteArray)[k]'hsz).toNat ∧ ((⟨n.toArray⟩ : ByteArray)[k]'hsz).toNat ≤ 122) ∨ (48 ≤ ((⟨n.toArray⟩ : ByteArray)[k]'hsz).toNat ∧ ((⟨n.toArray⟩ : ByteArray)[k]'hsz).toNat ≤ 57) ∨ ((⟨n.toArray⟩ : ByteArray)[k]'hsz).toNat = 46 ∨ ((⟨n.toArray⟩ : ByteArray)[k]'hsz).toNat = 45 := okChar_iff n[k]
      cases hok : okChar n[k]
      case true =>
        have r := Lib.hid (show (n.take (k + 1)).all okChar = true by rw [hs, HALL.out, hok]; rfl)
        have hcc := hc.1 hok
        clear hs hc hok
        rcases hcc with ⟨h1, h2⟩ | ⟨h1, h2⟩ | h1 | h1
        · have f1 : (97 : Int) ≤ (((⟨n.toArray⟩ : ByteArray)[k]'hsz).toNat : Int) := by omega
          have f2 : (((⟨n.toArray⟩ : ByteArray)[k]'hsz).toNat : Int) ≤ 122 := by omega
          clear h1 h2
          go_wp2
          go_round
          case rel => exact ⟨k + 1, by omega, by go_num, r.out⟩
          case measure => simp [intOf]; omega
        · have f1 : (48 : Int) ≤ (((⟨n.toArray⟩ : ByteArray)[k]'hsz).toNat : Int) := by omega
          have f2 : (((⟨n.toArray⟩ : ByteArray)[k]'hsz).toNat : Int) ≤ 57 := by omega
          clear h1 h2
          go_wp2
          go_round
          case rel => exact ⟨k + 1, by omega, by go_num, r.out⟩
          case measure => simp [intOf]; omega
        · have f1 : (((⟨n.toArray⟩ : ByteArray)[k]'hsz).toNat : Int) = 46 := by omega
          clear h1
          go_wp2
          go_round
          case rel => exact ⟨k + 1, by omega, by go_num, r.out⟩
          case measure => simp [intOf]; omega
        · have f1 : (((⟨n.toArray⟩ : ByteArray)[k]'hsz).toNat : Int) = 45 := by omega
          clear h1
          go_wp2
          go_round
          case rel => exact ⟨k + 1, by omega, by go_num, r.out⟩
          case measure => simp [intOf]; omega
      case false =>
        have r := Lib.hid (show okName n = false by
          have : n.all okChar = false := by
            rw [Bool.eq_false_iff]
            intro h
            have h2 : (n.take (k + 1)).all okChar = true := by
              rw [List.all_eq_true] at h ⊢
              exact fun x hx => h x (List.mem_of_mem_take hx)
            rw [hs, hok] at h2
            simp at h2
          simp [okName, this])
        have hcc : ¬ ((97 ≤ ((⟨n.toArray⟩ : ByteArray)[k]'hsz).toNat ∧ ((⟨n.toArray⟩ : ByteArray)[k]'hsz).toNat ≤ 122) ∨ (48 ≤ ((⟨n.toArray⟩ : ByteArray)[k]'hsz).toNat ∧ ((⟨n.toArray⟩ : ByteArray)[k]'hsz).toNat ≤ 57) ∨ ((⟨n.toArray⟩ : ByteArray)[k]'hsz).toNat = 46 ∨ ((⟨n.toArray⟩ : ByteArray)[k]'hsz).toNat = 45) := fun h => Bool.false_ne_true (hok.symm.trans (hc.2 h))
        clear hs hc hok
        have hr : ((⟨n.toArray⟩ : ByteArray)[k]'hsz).toNat ≤ 44 ∨ ((⟨n.toArray⟩ : ByteArray)[k]'hsz).toNat = 47 ∨ (58 ≤ ((⟨n.toArray⟩ : ByteArray)[k]'hsz).toNat ∧ ((⟨n.toArray⟩ : ByteArray)[k]'hsz).toNat ≤ 96) ∨ 123 ≤ ((⟨n.toArray⟩ : ByteArray)[k]'hsz).toNat := by omega
        clear hcc
        rcases hr with h1 | h1 | ⟨h1, h2⟩ | h1
        · have f1 : (((⟨n.toArray⟩ : ByteArray)[k]'hsz).toNat : Int) ≤ 44 := by omega
          have f2 : ((((⟨n.toArray⟩ : ByteArray)[k]'hsz).toNat : Int) == 46) = false := by simp; omega
          have f3 : ((((⟨n.toArray⟩ : ByteArray)[k]'hsz).toNat : Int) == 45) = false := by simp; omega
          have f5 : ((((⟨n.toArray⟩ : ByteArray)[k]'hsz).toNat : Int) != 46) = true := by simp; omega
          have f6 : ((((⟨n.toArray⟩ : ByteArray)[k]'hsz).toNat : Int) != 45) = true := by simp; omega
          have f7 : ¬ (((⟨n.toArray⟩ : ByteArray)[k]'hsz).toNat : Int) = 46 := by omega
          have f8 : ¬ (((⟨n.toArray⟩ : ByteArray)[k]'hsz).toNat : Int) = 45 := by omega
          clear h1
          go_wp2
          go_ret
          exact ⟨retB (by rw [r.out]), rfl⟩
        · have f1 : (((⟨n.toArray⟩ : ByteArray)[k]'hsz).toNat : Int) = 47 := by omega
          clear h1
          go_wp2
          go_ret
          exact ⟨retB (by rw [r.out]), rfl⟩
        · have f1 : (58 : Int) ≤ (((⟨n.toArray⟩ : ByteArray)[k]'hsz).toNat : Int) := by omega
          have f4 : (((⟨n.toArray⟩ : ByteArray)[k]'hsz).toNat : Int) ≤ 96 := by omega
          have f2 : ((((⟨n.toArray⟩ : ByteArray)[k]'hsz).toNat : Int) == 46) = false := by simp; omega
          have f3 : ((((⟨n.toArray⟩ : ByteArray)[k]'hsz).toNat : Int) == 45) = false := by simp; omega
          have f5 : ((((⟨n.toArray⟩ : ByteArray)[k]'hsz).toNat : Int) != 46) = true := by simp; omega
          have f6 : ((((⟨n.toArray⟩ : ByteArray)[k]'hsz).toNat : Int) != 45) = true := by simp; omega
          have f7 : ¬ (((⟨n.toArray⟩ : ByteArray)[k]'hsz).toNat : Int) = 46 := by omega
          have f8 : ¬ (((⟨n.toArray⟩ : ByteArray)[k]'hsz).toNat : Int) = 45 := by omega
          clear h1 h2
          go_wp2
          go_ret
          exact ⟨retB (by rw [r.out]), rfl⟩
        · have f1 : (123 : Int) ≤ (((⟨n.toArray⟩ : ByteArray)[k]'hsz).toNat : Int) := by omega
          have f2 : ((((⟨n.toArray⟩ : ByteArray)[k]'hsz).toNat : Int) == 46) = false := by simp; omega
          have f3 : ((((⟨n.toArray⟩ : ByteArray)[k]'hsz).toNat : Int) == 45) = false := by simp; omega
          have f5 : ((((⟨n.toArray⟩ : ByteArray)[k]'hsz).toNat : Int) != 46) = true := by simp; omega
          have f6 : ((((⟨n.toArray⟩ : ByteArray)[k]'hsz).toNat : Int) != 45) = true := by simp; omega
          have f7 : ¬ (((⟨n.toArray⟩ : ByteArray)[k]'hsz).toNat : Int) = 46 := by omega
          have f8 : ¬ (((⟨n.toArray⟩ : ByteArray)[k]'hsz).toNat : Int) = 45 := by omega
          clear h1
          go_wp2
          go_ret
          exact ⟨retB (by rw [r.out]), rfl⟩
    · have hall : n.all okChar = true := by
        have := HALL.out
        rwa [List.take_of_length_le (by omega)] at this
      by_cases h1 : 1 ≤ n.length
      · by_cases h2 : n.length ≤ 40
        · have r := Lib.hid (show okName n = true by
            have : n.isEmpty = false := by simp; intro e; subst e; simp at h1
            simp [okName, this, h2, hall])
          have f1 : decide ((n.length : Int) ≥ 1) = true := by simp; omega
          have f2 : decide ((n.length : Int) ≤ 40) = true := by simp; omega
          clear hall
          go_wp2
          go_ret
          exact ⟨retB (by rw [r.out]), rfl⟩
        · have r := Lib.hid (show okName n = false by simp [okName, h2])
          have f2 : decide ((n.length : Int) ≤ 40) = false := by simp; omega
          clear hall
          go_wp2
          go_ret
          exact ⟨retB (by rw [r.out]), rfl⟩
      · have r := Lib.hid (show okName n = false by
          have : n = [] := List.eq_nil_of_length_eq_zero (by omega)
          subst this; rfl)
        have f1 : decide ((n.length : Int) ≥ 1) = false := by simp; omega
        have f1' : decide (1 ≤ (n.length : Int)) = false := by simp; omega
        clear hall
        go_wp2
        go_ret
        exact ⟨retB (by rw [r.out]), rfl⟩

/-- What the walks ask of a disk's numbers. -/
structure ROk (r : Dsk) : Prop where
  few : r.files.length ≤ 200
  used : usedF r.files ≤ 16777216
  most0 : 0 ≤ r.most
  most1 : r.most ≤ 16777216
  arm0 : -1 ≤ r.arm
  arm1 : r.arm ≤ 9223372036854775807
theorem ROk.of {d r : Dsk} (ok : d.Ok) (h : RefOf d r) : ROk r := by
  refine ⟨?_, ?_, ?_, ?_, ?_, ?_⟩
  · rw [h.len ok]; exact ok.few
  · rw [h.used ok]; have := ok.used; have := ok.most1; omega
  · rw [h.most]; exact ok.most0
  · rw [h.most]; exact ok.most1
  · rw [h.arm]; exact ok.arm0
  · rw [h.arm]; exact ok.arm1

end Go.Proofs.YtkhcdbafcigeoaaGreatDoor
