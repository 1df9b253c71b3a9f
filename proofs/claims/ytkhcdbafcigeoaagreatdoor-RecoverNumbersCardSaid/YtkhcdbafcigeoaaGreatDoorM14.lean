/-
  Texts merged by a program of this claim's: Opens, WorldN, Frames, LogUse, RgnH, RefPlain.
-/
import Derived.Test.YtkhcdbafcigeoaaGreatDoorM13
import Derived.Deep.Fields
import Derived.ChangeSame
import Derived.Test.YtkhcdbafcigeoaaGreatDoorM11
import Derived.Test.YtkhcdbafcigeoaaGreatDoorCards
import Derived.Test.YtkhcdbafcigeoaaGreatDoorTie
import Derived.WalkKit
import Derived.ProofKit
import Derived.OpenShut
import Derived.Deep.DeepHandedRow
import Derived.Deep.DeepWitnessRowRef
import Derived.Lib.LaidTab
import Derived.LaidSub
import Derived.Test.YtkhcdbafcigeoaaGreatDoorM10
import Derived.Test.YtkhcdbafcigeoaaGreatDoorM9
import Derived.Test.YtkhcdbafcigeoaaGreatDoorM12
import Derived.Test.YtkhcdbafcigeoaaGreatDoorM5
namespace Go.Proofs.YtkhcdbafcigeoaaGreatDoor
open Go Go.ChangeShapes Go.WideShapes Go.RowKit Go.Deep
def RdK {α : Type} (k : Nat) (R : List Value → α → Prop) (w : World) (v : Value) (l : List α) : Prop :=
  (∃ a, v = .slice a 0 0 ∧ l = []) ∨ ∃ g o cap, v = .slice (some ⟨g, o, none⟩) l.length cap ∧ l.length ≤ cap ∧ cap ≤ maxLen ∧ g < w.heap.size ∧
    ∀ i (h : i < l.length), ∃ cs : List Value, cs.length = k ∧ (∀ j (hj : j < cs.length), w.cell? ⟨g, o + i * k + j, none⟩ = some cs[j]) ∧ R cs l[i]

theorem RdK.nw {α : Type} {k : Nat} {R : List Value → α → Prop} {w w' : World} {v : Value} {l : List α} (h : RdK k R w v l) (ho : Nw w w') : RdK k R w' v l := by
  rcases h with h | ⟨g, o, cap, rfl, h1, h2, hg, h3⟩
  · exact .inl h
  · refine .inr ⟨g, o, cap, rfl, h1, h2, Nat.lt_of_lt_of_le hg ho.size, fun i hi => ?_⟩
    obtain ⟨cs, hk, hc, hr⟩ := h3 i hi
    exact ⟨cs, hk, fun j hj => ho.cell (hc j hj), hr⟩
theorem RdK.len {α : Type} {k : Nat} {R : List Value → α → Prop} {w : World} {v : Value} {l : List α} (h : RdK k R w v l) : ∃ a cap, v = .slice a l.length cap ∧ l.length ≤ cap ∧ cap ≤ maxLen ∧
    ∀ i (h : i < l.length), ∃ g o, a = some ⟨g, o, none⟩ ∧ g < w.heap.size ∧ ∃ cs : List Value, cs.length = k ∧ (∀ j (hj : j < cs.length), w.cell? ⟨g, o + i * k + j, none⟩ = some cs[j]) ∧ R cs l[i] := by
  rcases h with ⟨a, rfl, rfl⟩ | ⟨g, o, cap, rfl, h1, h2, hg, h3⟩
  · exact ⟨_, _, rfl, by simp, by simp, fun i hi => absurd hi (by simp)⟩
  · exact ⟨_, _, rfl, h1, h2, fun i hi => ⟨g, o, rfl, hg, h3 i hi⟩⟩
theorem RdK.rd {α : Type} {f : α → Value} {R : List Value → α → Prop} {w : World} {v : Value} {l : List α} (h : RdK 1 R w v l) (hR : ∀ cs x, R cs x → cs = [f x]) : Rd f w v l := by
  rcases h with h | ⟨g, o, cap, rfl, h1, h2, hg, h3⟩
  · exact .inl h
  · refine .inr ⟨g, o, cap, rfl, h1, h2, hg, fun i hi => ?_⟩
    obtain ⟨cs, hk, hc, hr⟩ := h3 i hi
    obtain rfl := hR _ _ hr
    simpa using hc 0 (by simp)

theorem list_of {α : Type} {p : Nat → α → Prop} : ∀ n : Nat, (∀ i, i < n → ∃ x, p i x) → ∃ l : List α, l.length = n ∧ ∀ i (h : i < l.length), p i l[i]
  | 0, _ => ⟨[], rfl, fun i h => absurd h (by simp)⟩
  | n + 1, h => by
    obtain ⟨l, hl, hp⟩ := list_of n (fun i hi => h i (Nat.lt_succ_of_lt hi))
    obtain ⟨x, hx⟩ := h n (Nat.lt_succ_self n)
    refine ⟨l ++ [x], by simp [hl], fun i hi => ?_⟩
    by_cases hlt : i < l.length
    · rw [List.getElem_append_left hlt]; exact hp i hlt
    · have : i = n := by simp [hl] at hi hlt; omega
      subst this
      rw [List.getElem_append_right (by omega)]
      simpa using hx

theorem spot_of_cell {w : World} {a : Addr} {v : Value} (h : w.cell? a = some v) : a.spot = none := by
  unfold World.cell? at h
  split at h
  · split at h
    · cases h
    · rename_i hs; simpa using hs
  · cases h
theorem addp (g o n : Nat) : (⟨g, o, none⟩ : Addr).add n = ⟨g, o + n, none⟩ := by
  unfold Addr.add
  split
  · rename_i h; subst h; rfl
  · rfl

section
variable {H : Type} {enc : TypeId × Value → H} {P : Program} {W : World}
def Opener {α : Type} (enc : TypeId × Value → H) (P : Program) (W : World) (t : TypeId) (R : List Value → α → Prop) : Prop :=
  ∀ (fuel : Nat) (cs : List Value) (x : DataW H × List MemPlace), DataW.trod enc P W 0 (fun _ => true) true fuel t cs = some x → ∃ y, R cs y

theorem Opener.slice {α : Type} {R : List Value → α → Prop} {t e : TypeId} {k : Nat} (ht : P.underlying t = some (.slice e)) (hc : P.cellsOf e = k) (hk : 0 < k) (h : Opener enc P W e R) :
    Opener enc P W t (fun cs (l : List α) => ∃ v, cs = [v] ∧ RdK k R W v l) := by
  intro fuel cs x hx
  subst hc
  rcases open_slice ht hx with ⟨rfl, rfl⟩ | ⟨a, len, cap, m, n, D, Pl, rfl, hb, hl, hm, hmm, rfl, hel⟩
  · exact ⟨[], _, rfl, .inl ⟨none, rfl, rfl⟩⟩
  · simp only [if_true] at hmm
    subst hmm
    by_cases h0 : m = 0
    · subst h0
      obtain rfl : len = 0 := by omega
      exact ⟨[], _, rfl, .inl ⟨some a, rfl, rfl⟩⟩
    · obtain ⟨g, o, sp⟩ := a
      obtain ⟨c0, hc0, -⟩ := hel 0 (by omega)
      obtain ⟨-, hl0, hat0⟩ := World.cells?_some hc0
      have h00 := hat0 0 hk
      rw [List.getElem?_eq_getElem (by omega)] at h00
      rw [Nat.zero_mul] at h00
      have hsp : sp = none := spot_of_cell h00
      subst hsp
      have hg : g < W.heap.size := World.block_lt_of_cell? _ _ h00
      obtain ⟨l, hll, hp⟩ := list_of (p := fun i (y : α) => ∃ cs : List Value, cs.length = P.cellsOf e ∧ (∀ j (hj : j < cs.length), W.cell? ⟨g, o + i * P.cellsOf e + j, none⟩ = some cs[j]) ∧ R cs y) len (fun i hi => by
        obtain ⟨cs', hcs, htr⟩ := hel i (by omega)
        obtain ⟨y, hy⟩ := h _ _ _ htr
        obtain ⟨-, hl', hat⟩ := World.cells?_some hcs
        refine ⟨y, cs', hl', fun j hj => ?_, hy⟩
        have := hat j (by omega)
        rw [List.getElem?_eq_getElem hj, addp, addp] at this
        exact this)
      subst hll
      exact ⟨l, _, rfl, .inr ⟨g, o, m, rfl, hl, hm, hg, hp⟩⟩

theorem Opener.imp {α β : Type} {R : List Value → α → Prop} {R' : List Value → β → Prop} {t : TypeId} (h : Opener enc P W t R) (hi : ∀ cs x, R cs x → ∃ y, R' cs y) : Opener enc P W t R' := by
  intro fuel cs x hx
  obtain ⟨y, hy⟩ := h _ _ _ hx
  exact hi _ _ hy
theorem Opener.int {t : TypeId} {k : IntKind} (ht : P.underlying t = some (.int k)) : Opener enc P W t (fun cs (z : Int) => cs = [.int k z] ∧ (Lit.int k z).wf = true) := by
  intro fuel cs x hx
  obtain ⟨z, rfl, -, hw⟩ := DataW.trod_int ht hx
  exact ⟨z, rfl, hw⟩
def isU8 (cs : List Value) (c : UInt8) : Prop := cs = [u8 c]
def isI64 (cs : List Value) (z : Int) : Prop := cs = [.int .i64 z] ∧ -9223372036854775808 ≤ z ∧ z ≤ 9223372036854775807
def isStr (cs : List Value) (s : Str) : Prop := cs = [.string ⟨s.toArray⟩] ∧ s.length ≤ 9223372036854775807
def isBool (cs : List Value) (b : Bool) : Prop := cs = [.bool b]
def isBs (W : World) (cs : List Value) (l : List UInt8) : Prop := ∃ v, cs = [v] ∧ Bs W v l
theorem Opener.u8 {t : TypeId} (ht : P.underlying t = some (.int .u8)) : Opener enc P W t isU8 :=
  (Opener.int ht).imp fun cs z ⟨h, hw⟩ => ⟨UInt8.ofNat z.toNat, by rw [isU8, h, Go.Proofs.YtkhcdbafcigeoaaGreatDoor.u8, ← u8_of_int hw]⟩
theorem Opener.i64 {t : TypeId} (ht : P.underlying t = some (.int .i64)) : Opener enc P W t isI64 :=
  (Opener.int ht).imp fun cs z ⟨h, hw⟩ => ⟨z, h, by
    simp only [Lit.wf, Bool.and_eq_true, decide_eq_true_eq] at hw
    have h1 := hw.1
    have h2 := hw.2
    rw [show IntKind.i64.min = -9223372036854775808 from rfl] at h1
    rw [show IntKind.i64.max = 9223372036854775807 from rfl] at h2
    exact ⟨h1, h2⟩⟩
theorem Opener.str {t : TypeId} (ht : P.underlying t = some .string) : Opener enc P W t isStr := by
  intro fuel cs x hx
  obtain ⟨s, rfl, -, hs⟩ := DataW.trod_string ht hx
  refine ⟨s.data.toList, ?_, ?_⟩
  · simp
  · unfold maxLen at hs
    simpa using hs
theorem Opener.bool {t : TypeId} (ht : P.underlying t = some .bool) : Opener enc P W t isBool := by
  intro fuel cs x hx
  obtain ⟨b, rfl, -⟩ := DataW.trod_bool ht hx
  exact ⟨b, rfl⟩
theorem Opener.bytes {t e : TypeId} (ht : P.underlying t = some (.slice e)) (he : P.underlying e = some (.int .u8)) (hc : P.cellsOf e = 1) : Opener enc P W t (isBs W) :=
  (Opener.slice ht hc (by omega) (Opener.u8 he)).imp fun _ _ ⟨v, hv, h⟩ => ⟨_, v, hv, h.rd fun _ _ h => h⟩
theorem Opener.struct4 {α0 α1 α2 α3 : Type} {R0 : List Value → α0 → Prop} {R1 : List Value → α1 → Prop} {R2 : List Value → α2 → Prop} {R3 : List Value → α3 → Prop} {t : TypeId} {f0 f1 f2 f3 : Field} (hs : P.underlying t = some (.struct #[f0, f1, f2, f3])) (hone : oneCellFields P #[f0, f1, f2, f3] = true) (hC : P.cellsOf t = 4) (h0 : Opener enc P W f0.type R0) (h1 : Opener enc P W f1.type R1) (h2 : Opener enc P W f2.type R2) (h3 : Opener enc P W f3.type R3) :
    Opener enc P W t (fun cs (x : α0 × α1 × α2 × α3) => ∃ v0 v1 v2 v3, cs = [v0, v1, v2, v3] ∧ R0 [v0] x.1 ∧ R1 [v1] x.2.1 ∧ R2 [v2] x.2.2.1 ∧ R3 [v3] x.2.2.2) := by
  intro fuel cs x hx
  obtain ⟨xs, n, _, _, hcl, hlen, hg⟩ := DataW.trod_struct hs hx
  rw [hC] at hcl
  obtain ⟨o0, k0⟩ := hone_of hone 0 f0 rfl
  obtain ⟨o1, k1⟩ := hone_of hone 1 f1 rfl
  obtain ⟨o2, k2⟩ := hone_of hone 2 f2 rfl
  obtain ⟨o3, k3⟩ := hone_of hone 3 f3 rfl
  match cs, hcl with
  | [c0, c1, c2, c3], _ =>
    match xs, hlen with
    | [y0, y1, y2, y3], _ =>
      have g0 := hg 0 f0 rfl
      rw [o0, k0] at g0
      obtain ⟨z0, e0⟩ := h0 n [c0] y0 (by simpa using g0)
      have g1 := hg 1 f1 rfl
      rw [o1, k1] at g1
      obtain ⟨z1, e1⟩ := h1 n [c1] y1 (by simpa using g1)
      have g2 := hg 2 f2 rfl
      rw [o2, k2] at g2
      obtain ⟨z2, e2⟩ := h2 n [c2] y2 (by simpa using g2)
      have g3 := hg 3 f3 rfl
      rw [o3, k3] at g3
      obtain ⟨z3, e3⟩ := h3 n [c3] y3 (by simpa using g3)
      exact ⟨(z0, z1, z2, z3), c0, c1, c2, c3, rfl, e0, e1, e2, e3⟩
theorem Opener.struct5 {α0 α1 α2 α3 α4 : Type} {R0 : List Value → α0 → Prop} {R1 : List Value → α1 → Prop} {R2 : List Value → α2 → Prop} {R3 : List Value → α3 → Prop} {R4 : List Value → α4 → Prop} {t : TypeId} {f0 f1 f2 f3 f4 : Field} (hs : P.underlying t = some (.struct #[f0, f1, f2, f3, f4])) (hone : oneCellFields P #[f0, f1, f2, f3, f4] = true) (hC : P.cellsOf t = 5) (h0 : Opener enc P W f0.type R0) (h1 : Opener enc P W f1.type R1) (h2 : Opener enc P W f2.type R2) (h3 : Opener enc P W f3.type R3) (h4 : Opener enc P W f4.type R4) :
    Opener enc P W t (fun cs (x : α0 × α1 × α2 × α3 × α4) => ∃ v0 v1 v2 v3 v4, cs = [v0, v1, v2, v3, v4] ∧ R0 [v0] x.1 ∧ R1 [v1] x.2.1 ∧ R2 [v2] x.2.2.1 ∧ R3 [v3] x.2.2.2.1 ∧ R4 [v4] x.2.2.2.2) := by
  intro fuel cs x hx
  obtain ⟨xs, n, _, _, hcl, hlen, hg⟩ := DataW.trod_struct hs hx
  rw [hC] at hcl
  obtain ⟨o0, k0⟩ := hone_of hone 0 f0 rfl
  obtain ⟨o1, k1⟩ := hone_of hone 1 f1 rfl
  obtain ⟨o2, k2⟩ := hone_of hone 2 f2 rfl
  obtain ⟨o3, k3⟩ := hone_of hone 3 f3 rfl
  obtain ⟨o4, k4⟩ := hone_of hone 4 f4 rfl
  match cs, hcl with
  | [c0, c1, c2, c3, c4], _ =>
    match xs, hlen with
    | [y0, y1, y2, y3, y4], _ =>
      have g0 := hg 0 f0 rfl
      rw [o0, k0] at g0
      obtain ⟨z0, e0⟩ := h0 n [c0] y0 (by simpa using g0)
      have g1 := hg 1 f1 rfl
      rw [o1, k1] at g1
      obtain ⟨z1, e1⟩ := h1 n [c1] y1 (by simpa using g1)
      have g2 := hg 2 f2 rfl
      rw [o2, k2] at g2
      obtain ⟨z2, e2⟩ := h2 n [c2] y2 (by simpa using g2)
      have g3 := hg 3 f3 rfl
      rw [o3, k3] at g3
      obtain ⟨z3, e3⟩ := h3 n [c3] y3 (by simpa using g3)
      have g4 := hg 4 f4 rfl
      rw [o4, k4] at g4
      obtain ⟨z4, e4⟩ := h4 n [c4] y4 (by simpa using g4)
      exact ⟨(z0, z1, z2, z3, z4), c0, c1, c2, c3, c4, rfl, e0, e1, e2, e3, e4⟩
end
end Go.Proofs.YtkhcdbafcigeoaaGreatDoor

namespace Go.Proofs.YtkhcdbafcigeoaaGreatDoor
open Go Go.ChangeShapes Go.WideShapes Go.ChangeAt Go.RowKit Go.Deep
set_option maxRecDepth 100000
theorem own : ownKnob Tryz.prog.godebug = none := by kernel_rfl
theorem laidOut : laidOutB Tryz.prog = true := by kernel_rfl
def layIn (cs : Array Value) : Obj → Obj
  | .cells _ t frozen => .cells cs t frozen
  | o => o
def lit1 : DataW Unit → List Value
  | .lit (.int k z) => [.int k z]
  | _ => []
def lit2 : DataW Unit → List Value
  | .agg l => l.flatMap lit1
  | d => lit1 d
def lit3 : DataW Unit → List Value
  | .agg l => l.flatMap lit2
  | d => lit2 d
noncomputable def laidHeap (h : Array Obj) : Array Obj :=
  ((((h.modify 0 (layIn (lit3 Rows.laid_unicode_utf8_first).toArray)).modify 1 (layIn (lit3 Rows.laid_unicode_utf8_acceptRanges).toArray)).modify 2 (layIn (lit3 Rows.laid_internal_strconv_uint64pow10).toArray)).modify 4 (layIn (lit3 Rows.laid_math_bits_deBruijn32tab).toArray)).modify 5 (layIn (lit3 Rows.laid_math_bits_deBruijn64tab).toArray)
noncomputable def laidWorld (os : Os) : World :=
  { World.holding Tryz.prog os ⟨#[], #[], []⟩ with heap := laidHeap (World.holding Tryz.prog os ⟨#[], #[], []⟩).heap }
theorem pow_at : Tryz.prog.globalNamed "internal/strconv.uint64pow10" = some 2 := by kernel_rfl
theorem tab_of_laid {L : List (String × DataW Unit)} {W : World} (h : laidMetH Tryz.prog L W)
    (hL : (L.filter fun x => ["internal/strconv.uint64pow10"].contains x.1) = [("internal/strconv.uint64pow10", Lib.tabData .u64 Lib.pow10Tab)]) : Tab W := by
  have h1 := h.filter (fun x => ["internal/strconv.uint64pow10"].contains x.1)
  rw [hL] at h1
  have h2 := (laidMetH_iff.1 h1).1
  rw [show ([("internal/strconv.uint64pow10", (Lib.tabData .u64 Lib.pow10Tab : DataW Unit))].filter fun x => x.2.handleName?.isNone) = [("internal/strconv.uint64pow10", Lib.tabData .u64 Lib.pow10Tab)] by kernel_rfl] at h2
  exact Lib.tabIs_of_head (t := 257) (e := 107) (n := 20) pow_at (by kernel_rfl) (by kernel_rfl) (by kernel_rfl) (by kernel_rfl) (by kernel_rfl) h2

section
variable {H : Type} {enc : TypeId × Value → H} {P : Program} {W : World}
theorem Opener.any {t : TypeId} : Opener enc P W t (fun _ (_ : Unit) => True) := fun _ _ _ _ => ⟨(), trivial⟩
end
end Go.Proofs.YtkhcdbafcigeoaaGreatDoor

namespace Go.Proofs.YtkhcdbafcigeoaaGreatDoor
open Go Go.ChangeShapes Go.WideShapes Go.ChangeAt Go.RowKit Go.Deep
set_option maxRecDepth 100000

theorem flatN_at {α : Type} {k : Nat} {f : α → List Value} : ∀ (l : List α), (∀ x ∈ l, (f x).length = k) → ∀ (i : Nat) (h : i < l.length) (j : Nat), j < k → (l.flatMap f)[i * k + j]? = (f l[i])[j]?
  | [], _, i, h, _, _ => absurd h (by simp)
  | x :: r, hf, 0, _, j, hj => by
    rw [List.flatMap_cons, Nat.zero_mul, Nat.zero_add, List.getElem?_append_left (by rw [hf x (by simp)]; exact hj)]
    rfl
  | x :: r, hf, i + 1, h, j, hj => by
    have hx := hf x (by simp)
    have e : (i + 1) * k + j - k = i * k + j := by rw [Nat.succ_mul]; omega
    have hle : k ≤ (i + 1) * k + j := by rw [Nat.succ_mul]; omega
    rw [List.flatMap_cons, List.getElem?_append_right (by rw [hx]; exact hle), hx, e]
    exact flatN_at r (fun y hy => hf y (by simp [hy])) i (by simpa using h) j hj
theorem flatN_len {α : Type} {k : Nat} {f : α → List Value} : ∀ (l : List α), (∀ x ∈ l, (f x).length = k) → (l.flatMap f).length = l.length * k
  | [], _ => by simp
  | x :: r, hf => by
    rw [List.flatMap_cons, List.length_append, hf x (by simp), flatN_len r (fun y hy => hf y (by simp [hy])), List.length_cons, Nat.succ_mul, Nat.add_comm]
theorem RdK.src {α β : Type} {k : Nat} (hk : 0 < k) {R : List Value → α → Prop} {w : World} {v : Value} {l : List α} (g : α → β) (f : β → List Value) (h : RdK k R w v l) (hR : ∀ cs x, R cs x → cs = f (g x)) (hf : ∀ y, (f y).length = k) :
    SrcV k w v (l.map g).length ((l.map g).flatMap f) := by
  refine ⟨flatN_len _ (fun y _ => hf y), ?_⟩
  rcases h with ⟨a, rfl, rfl⟩ | ⟨b, o, cap, rfl, h1, h2, hg, h3⟩
  · exact .inl ⟨a, rfl, rfl⟩
  · refine .inr ⟨b, o, cap, by simp, by simpa using h1, h2, hg, fun j hj => ?_⟩
    have hl := flatN_len (l.map g) (f := f) (k := k) (fun y _ => hf y)
    have hj' : j < l.length * k := by rw [hl] at hj; simpa using hj
    have hi : j / k < l.length := Nat.div_lt_of_lt_mul (by rw [Nat.mul_comm]; exact hj')
    have hm : j % k < k := Nat.mod_lt _ hk
    obtain ⟨cs, hck, hc, hr⟩ := h3 (j / k) hi
    obtain rfl := hR _ _ hr
    have e : j / k * k + j % k = j := by rw [Nat.mul_comm]; exact Nat.div_add_mod j k
    have e2 : o + j / k * k + j % k = o + j := by omega
    have := hc (j % k) (by rw [hf]; exact hm)
    rw [e2] at this
    rw [this]
    have hat := flatN_at (l.map g) (f := f) (k := k) (fun y _ => hf y) (j / k) (by simpa using hi) (j % k) hm
    rw [e, List.getElem?_eq_getElem hj] at hat
    rw [List.getElem?_eq_getElem (by rw [hf]; exact hm)] at hat
    simp only [List.getElem_map, Option.some.injEq] at hat
    rw [hat]
theorem RdK.mem {α : Type} {k : Nat} {R : List Value → α → Prop} {w : World} {v : Value} {l : List α} (h : RdK k R w v l) : ∀ x ∈ l, ∃ cs, R cs x := by
  intro x hx
  rcases h with ⟨_, _, rfl⟩ | ⟨g, o, cap, _, _, _, _, h3⟩
  · cases hx
  · obtain ⟨i, hi, rfl⟩ := List.getElem_of_mem hx
    obtain ⟨cs, -, -, hr⟩ := h3 i hi
    exact ⟨cs, hr⟩
def isEv (cs : List Value) (e : Ev) : Prop := cs = evV e ∧ e.Ok
def isPc (cs : List Value) (q : Pc) : Prop := cs = pcV q ∧ q.Ok
def isEvs (W : World) (cs : List Value) (l : List Ev) : Prop := ∃ v, cs = [v] ∧ Evs W v l
section
variable {H : Type} {enc : TypeId × Value → H} {W : World}
theorem Opener.ev : Opener enc Tryz.prog W 104 isEv :=
  (Opener.struct5 Tryz.underlying104 (by kernel_rfl) (by kernel_rfl) (Opener.i64 Tryz.underlying3) (Opener.u8 Tryz.underlying102) (Opener.i64 Tryz.underlying3) (Opener.i64 Tryz.underlying3) (Opener.i64 Tryz.underlying3)).imp
    fun cs ⟨t, o, b, a, c⟩ ⟨v0, v1, v2, v3, v4, hc, ⟨h0, p0⟩, h1, ⟨h2, p2⟩, ⟨h3, p3⟩, ⟨h4, p4⟩⟩ => by
      have e1 : v1 = Go.Proofs.YtkhcdbafcigeoaaGreatDoor.u8 o := by simpa [isU8] using h1
      simp only [List.cons.injEq, and_true] at h0 h2 h3 h4
      subst h0 h2 h3 h4 e1
      exact ⟨⟨t, o, b, a, c⟩, by rw [hc]; rfl, ⟨p0, p2, p3, p4⟩⟩
theorem RdK.evs {w : World} {v : Value} {l : List Ev} (h : RdK 5 isEv w v l) : Evs w v l :=
  ⟨by simpa using h.src (by omega) id evV (fun _ _ h => h.1) (fun _ => rfl), fun x hx => by obtain ⟨cs, -, ho⟩ := h.mem x hx; exact ho⟩
theorem RdK.pcs {w : World} {v : Value} {l : List Pc} (h : RdK 4 isPc w v l) : Pcs w v l :=
  ⟨by simpa using h.src (by omega) id pcV (fun _ _ h => h.1) (fun _ => rfl), fun x hx => by obtain ⟨cs, -, ho⟩ := h.mem x hx; exact ho⟩
theorem Opener.evs : Opener enc Tryz.prog W 37 (isEvs W) :=
  (Opener.slice (k := 5) Tryz.underlying37 (by kernel_rfl) (by omega) Opener.ev).imp fun _ l ⟨v, hv, h⟩ => ⟨l, v, hv, h.evs⟩
theorem Opener.pc : Opener enc Tryz.prog W 39 isPc :=
  (Opener.struct4 Tryz.underlying39 (by kernel_rfl) (by kernel_rfl) (Opener.str Tryz.underlying9) (Opener.i64 Tryz.underlying3) (Opener.i64 Tryz.underlying3) (Opener.bool Tryz.underlying4)).imp
    fun cs ⟨n, f, c, d⟩ ⟨v0, v1, v2, v3, hc, ⟨h0, p0⟩, ⟨h1, p1⟩, ⟨h2, p2⟩, h3⟩ => by
      have e3 : v3 = .bool d := by simpa [isBool] using h3
      simp only [List.cons.injEq, and_true] at h0 h1 h2
      subst h0 h1 h2 e3
      exact ⟨⟨n, f, c, d⟩, by rw [hc]; rfl, ⟨p0, p1, p2⟩⟩
end
end Go.Proofs.YtkhcdbafcigeoaaGreatDoor

namespace Go.Proofs.YtkhcdbafcigeoaaGreatDoor
open Go Go.RowKit Go.Sort
set_option maxRecDepth 100000
section
variable {X Y : Nat → Prop} {w0 w w' : World} {p b : Nat} {d d' : Dsk} {L : Lg}
theorem pcs_at {l : List Pc} {a : Option Addr} {n cap : Nat} (h : Pcs w (.slice a n cap) l) (hn : l.length = n) {k : Nat} (hk : k < n) :
    ∃ g o, a = some ⟨g, o, none⟩ ∧ g < w.heap.size ∧ w.cell? ⟨g, o + k * 4, none⟩ = some (.string ⟨(l[k]'(by omega)).name.toArray⟩) ∧ w.cell? ⟨g, o + k * 4 + 1, none⟩ = some (.int .i64 (l[k]'(by omega)).first) ∧
      w.cell? ⟨g, o + k * 4 + 2, none⟩ = some (.int .i64 (l[k]'(by omega)).count) ∧ w.cell? ⟨g, o + k * 4 + 3, none⟩ = some (.bool (l[k]'(by omega)).dense) := by
  obtain ⟨a', cap', hv, -, -, hel⟩ := h.elem
  injection hv with e1 e2 e3
  subst e1
  exact hel k (by omega)
theorem Firsts.apart {m : Nat} (h : Firsts w m) {g i : Nat} {v : Value} (hc : w.cell? ⟨g, i, none⟩ = some v) : g ≠ m := by
  rintro rfl
  obtain ⟨E, ck, hm, -⟩ := h
  unfold World.cell? at hc
  rw [show (⟨g, i, none⟩ : Addr).block = g from rfl, hm] at hc
  cases hc
theorem Ak.call {size : Int} {c : Nat} (h : HasL X w0 w p b d L) (hs : Ak size c d L) (hc : c ≤ 60) (hz : in64 size) (ht : Tab w0) {v : Value} {es : List Ev} (hv : Evs w v es) :
    Calls Tryz.prog 45 #[.pointer (some ⟨p, 0, none⟩), v] w (DidL X w0 w p b (L.add d es).d (L.add d es).L (.int .i64 (L.add d es).e)) := by
  obtain ⟨f1, f2, f3, f4, f5, f6, f7, f8, f9⟩ := hs.facts hc
  exact LAppend_ok h ht ⟨by omega, by omega⟩ f7 (by omega) (by rw [hs.size]; exact hz) hv h.pok
theorem HasL.grow {Z Y : Nat → Prop} (h : HasL X w0 w p b d L) (ho : Only Z w w') (hz : ∀ k, Z k → k < w.heap.size → X k ∧ w0.heap.size ≤ k) (hy : ∀ k, Y k → X k ∨ w.heap.size ≤ k ∧ k < w'.heap.size) : HasL Y w0 w' p b d L := by
  obtain ⟨g, o, cap, h⟩ := h
  have hpl := lt_of_block h.mem.blk
  have hgl := h.mem.last.2.2.2.2.1
  refine ⟨g, o, cap, h.mem.kept (Y := fun k => k = p ∨ k = g) ⟨ho.size, fun j hj hl => ho.block j hl fun e => ?_⟩ (.inl rfl) (.inr rfl), h.disk.put ho (fun k hk hl => ⟨.inl (hz k hk hl).1, (hz k hk hl).2⟩) (fun k hk => ?_), h.p0, fun hc => ?_, h.g0, h.g1.1, fun hc => ?_⟩
  · rcases hj with rfl | rfl
    · exact h.p1 (hz _ e hl).1
    · exact h.g1.2 (hz _ e hl).1
  · rcases hk with hk | hk
    · exact (hy k hk).imp .inl id
    · exact .inl (.inr hk)
  · rcases hy p hc with e | e
    · exact h.p1 e
    · omega
  · rcases hy g hc with e | e
    · exact h.g1.2 e
    · omega
theorem Vec.kept {k : Nat} {v : Value} {n : Nat} {cs : List Value} (h : Vec k w v n cs) (hk : Kept Y w w') (hx : ∀ g, v.ownBlock = some g → Y g) : Vec k w' v n cs :=
  h.keep hk.1 fun g hg => hk.2 g (hx g hg) (h.lt g hg)
theorem Firsts.kept {m : Nat} (h : Firsts w m) (hk : Kept Y w w') (hm : Y m) : Firsts w' m := by
  obtain ⟨l, c, h1, h2⟩ := h
  exact ⟨l, c, (hk.2 m hm (lt_of_block h1)).trans h1, h2⟩
end
end Go.Proofs.YtkhcdbafcigeoaaGreatDoor

namespace Go.Proofs.YtkhcdbafcigeoaaGreatDoor
open Go Go.RowKit Go.Sort
set_option maxRecDepth 100000
section
variable {L : List Oper}
end
end Go.Proofs.YtkhcdbafcigeoaaGreatDoor

namespace Go.Proofs.YtkhcdbafcigeoaaGreatDoor
open Go Go.RowKit Go.Sort

def rwithout (L : List (Str × DFile)) (n : Str) : List (Str × DFile) := L.filter fun x => !(x.1 == n)
def rins (f : Str × DFile) : List (Str × DFile) → List (Str × DFile)
  | [] => [f]
  | x :: L => if f.1 < x.1 then f :: x :: L else x :: rins f L
def rwith (L : List (Str × DFile)) (f : Str × DFile) : List (Str × DFile) := rins f (rwithout L f.1)
def Srt (L : List (Str × DFile)) : Prop := L.Pairwise fun a b => a.1 < b.1

theorem str_tri (a b : Str) : a < b ∨ a = b ∨ b < a := by
  by_cases h1 : a < b
  · exact .inl h1
  · by_cases h2 : b < a
    · exact .inr (.inr h2)
    · exact .inr (.inl (List.le_antisymm (List.not_lt.1 h2) (List.not_lt.1 h1)))

theorem getF_rwithout (L : List (Str × DFile)) (n m : Str) : getF (rwithout L n) m = if n = m then none else getF L m := by
  induction L with
  | nil => simp [rwithout, getF]
  | cons x L ih =>
    obtain ⟨k, f⟩ := x
    unfold rwithout at ih ⊢
    by_cases hk : k = n
    · subst hk
      simp only [List.filter_cons, beq_self_eq_true, Bool.not_true, Bool.false_eq_true, if_false, ih]
      by_cases hm : k = m
      · simp [hm]
      · simp [hm, getF]
    · have hb : (k == n) = false := by simpa using hk
      simp only [List.filter_cons, hb, Bool.not_false, if_true, getF, ih]
      by_cases hm : k = m
      · subst hm; simp [Ne.symm hk]
      · simp [hm]
theorem srt_rwithout {L : List (Str × DFile)} (h : Srt L) (n : Str) : Srt (rwithout L n) := List.Pairwise.filter _ h
theorem not_rwithout (L : List (Str × DFile)) (n : Str) : n ∉ namesF (rwithout L n) := by
  rw [← getF_none, getF_rwithout, if_pos rfl]
theorem getF_rins (f : Str × DFile) (m : Str) : ∀ L : List (Str × DFile), f.1 ∉ namesF L → getF (rins f L) m = if f.1 = m then some f.2 else getF L m
  | [], _ => by obtain ⟨n, g⟩ := f; simp [rins, getF]
  | (k, g) :: L, h => by
    obtain ⟨n, e⟩ := f
    simp only [namesF, List.map_cons, List.mem_cons, not_or] at h
    unfold rins
    split
    · simp [getF]
    · simp only [getF]
      rw [getF_rins (n, e) m L h.2]
      by_cases hk : k = m
      · subst hk; simp [h.1]
      · simp [hk]
theorem mem_rins (f x : Str × DFile) : ∀ L : List (Str × DFile), x ∈ rins f L ↔ x = f ∨ x ∈ L
  | [] => by simp [rins]
  | y :: L => by
    unfold rins
    split
    · simp
    · simp only [List.mem_cons, mem_rins f x L]
      constructor
      · rintro (h | h | h)
        · exact .inr (.inl h)
        · exact .inl h
        · exact .inr (.inr h)
      · rintro (h | h | h)
        · exact .inr (.inl h)
        · exact .inl h
        · exact .inr (.inr h)
theorem srt_rins (f : Str × DFile) : ∀ L : List (Str × DFile), f.1 ∉ namesF L → Srt L → Srt (rins f L)
  | [], _, _ => List.pairwise_singleton _ _
  | x :: L, h, hs => by
    simp only [namesF, List.map_cons, List.mem_cons, not_or] at h
    obtain ⟨h1, h2⟩ := List.pairwise_cons.1 hs
    unfold rins
    split
    · rename_i hlt
      refine List.Pairwise.cons (fun y hy => ?_) hs
      rcases List.mem_cons.1 hy with rfl | hy
      · exact hlt
      · exact List.lt_trans hlt (h1 y hy)
    · rename_i hge
      have hxf : x.1 < f.1 := by
        rcases str_tri x.1 f.1 with h' | h' | h'
        · exact h'
        · exact absurd h'.symm h.1
        · exact absurd h' hge
      refine List.Pairwise.cons (fun y hy => ?_) (srt_rins f L h.2 h2)
      rcases (mem_rins f y L).1 hy with rfl | hy
      · exact hxf
      · exact h1 y hy
theorem getF_rwith (L : List (Str × DFile)) (f : Str × DFile) (m : Str) : getF (rwith L f) m = if f.1 = m then some f.2 else getF L m := by
  unfold rwith
  rw [getF_rins f m _ (not_rwithout L f.1), getF_rwithout]
  split
  · rfl
  · rfl
theorem srt_rwith {L : List (Str × DFile)} (h : Srt L) (f : Str × DFile) : Srt (rwith L f) := srt_rins f _ (not_rwithout L f.1) (srt_rwithout h f.1)
structure RefOf (d r : Dsk) : Prop where
  most : r.most = d.most
  arm : r.arm = d.arm
  down : r.down = d.down
  srt : Srt r.files
  get : ∀ n, getF r.files n = getF d.files n

theorem srt_nodup {L : List (Str × DFile)} (h : Srt L) : (namesF L).Nodup := by
  unfold namesF List.Nodup
  rw [List.pairwise_map]
  exact h.imp fun hab e => by rw [e] at hab; exact List.lt_irrefl _ hab
section
variable {d r : Dsk}
theorem RefOf.file (h : RefOf d r) (n : Str) : fileOf r.files n = fileOf d.files n := by unfold fileOf; rw [h.get]
theorem RefOf.mem (h : RefOf d r) (n : Str) : n ∈ namesF r.files ↔ n ∈ namesF d.files := by
  have h1 := getF_none r.files n
  have h2 := getF_none d.files n
  rw [h.get] at h1
  constructor
  · intro hr; exact Decidable.byContradiction fun hn => (h1.1 (h2.2 hn)) hr
  · intro hd; exact Decidable.byContradiction fun hn => (h2.1 (h1.2 hn)) hd
theorem RefOf.list (ok : d.Ok) (h : RefOf d r) : d.list = namesF r.files := by
  have hp : (namesF r.files).Perm (namesF d.files) := (List.perm_ext_iff_of_nodup (srt_nodup h.srt) ok.names).2 h.mem
  unfold Dsk.list
  rw [← Go.mergeSort_of_perm hp]
  refine List.mergeSort_of_pairwise ?_
  unfold namesF
  rw [List.pairwise_map]
  exact h.srt.imp fun hab => by simpa using List.le_of_lt hab
theorem RefOf.len (ok : d.Ok) (h : RefOf d r) : r.files.length = d.files.length := by
  have hp : (namesF r.files).Perm (namesF d.files) := (List.perm_ext_iff_of_nodup (srt_nodup h.srt) ok.names).2 h.mem
  simpa [namesF] using hp.length_eq
theorem used_names (L : List (Str × DFile)) (hn : (namesF L).Nodup) : usedF L = ((namesF L).map fun n => (fileOf L n).bytes.length).sum := by
  unfold usedF namesF
  rw [List.map_map]
  congr 1
  refine List.map_congr_left fun x hx => ?_
  obtain ⟨n, f⟩ := x
  simp only [Function.comp]
  unfold fileOf
  rw [getF_mem hn hx]
  rfl
theorem RefOf.used (ok : d.Ok) (h : RefOf d r) : usedF r.files = usedF d.files := by
  have hp : (namesF r.files).Perm (namesF d.files) := (List.perm_ext_iff_of_nodup (srt_nodup h.srt) ok.names).2 h.mem
  rw [used_names _ (srt_nodup h.srt), used_names _ ok.names]
  have e : (fun n => (fileOf r.files n).bytes.length) = fun n => (fileOf d.files n).bytes.length := by funext n; rw [h.file]
  rw [e]
  exact (hp.map _).sum_nat
theorem ref_op (h : RefOf d r) {may : Int} {act ract : List (Str × DFile) → List (Str × DFile)} (hs : Srt (ract r.files)) (hg : ∀ m, getF (ract r.files) m = getF (act d.files) m) {d' : Dsk} {x : Int} (hr : d.op may act = (d', x)) :
    ∃ r', r.op may ract = (r', x) ∧ RefOf d' r' := by
  unfold Dsk.op at hr ⊢
  rw [h.down, h.arm]
  split at hr
  · obtain ⟨rfl, rfl⟩ := Prod.mk.inj hr
    rename_i hd
    rw [if_pos hd]; exact ⟨r, rfl, h⟩
  · rename_i hd
    rw [if_neg hd]
    split at hr
    · obtain ⟨rfl, rfl⟩ := Prod.mk.inj hr
      rename_i hm
      rw [if_pos hm]; exact ⟨r, rfl, h⟩
    · rename_i hm
      rw [if_neg hm]
      split at hr
      · obtain ⟨rfl, rfl⟩ := Prod.mk.inj hr
        rename_i ha
        rw [if_pos ha]; exact ⟨_, rfl, h.most, rfl, rfl, h.srt, h.get⟩
      · obtain ⟨rfl, rfl⟩ := Prod.mk.inj hr
        rename_i ha
        rw [if_neg ha]; exact ⟨_, rfl, h.most, rfl, rfl, hs, hg⟩
def Dsk.rAppend (r : Dsk) (n : Str) (b : List UInt8) : Dsk × Int := r.op (r.mayAppend n b) fun L => rwith L (n, ⟨(fileOf L n).bytes ++ b, (fileOf L n).synced⟩)
def Dsk.rSync (r : Dsk) (n : Str) : Dsk × Int := r.op (r.there n) fun L => rwith L (n, ⟨(fileOf L n).bytes, (fileOf L n).bytes.length⟩)
def Dsk.rRename (r : Dsk) (a b : Str) : Dsk × Int := r.op (if okName b then r.there a else 13) fun L => rwith (rwithout L a) (b, fileOf L a)
def Dsk.rRemove (r : Dsk) (n : Str) : Dsk × Int := r.op (r.there n) fun L => rwithout L n
def Dsk.rCut (r : Dsk) (n : Str) (k : Int) : Dsk × Int := r.op (r.mayCut n k) fun L => rwith L (n, ⟨(fileOf L n).bytes.take k.toNat, k.toNat⟩)
def rcrashF : List Int → List (Str × DFile) → List (Str × DFile)
  | _, [] => []
  | ks, (n, f) :: L => (n, leaves f (ks.headD 0)) :: rcrashF ks.tail L
def Dsk.rCrash (r : Dsk) (ks : List Int) : Dsk := { r with files := rcrashF ks r.files, arm := -1, down := false }

theorem there_of (h : RefOf d r) (n : Str) : r.there n = d.there n := by
  unfold Dsk.there
  by_cases hn : n ∈ namesF d.files
  · rw [if_pos hn, if_pos ((h.mem n).2 hn)]
  · rw [if_neg hn, if_neg fun h' => hn ((h.mem n).1 h')]
theorem mayAppend_of (ok : d.Ok) (h : RefOf d r) (n : Str) (b : List UInt8) : r.mayAppend n b = d.mayAppend n b := by
  have e : (n ∉ namesF r.files) = (n ∉ namesF d.files) := by rw [h.mem n]
  unfold Dsk.mayAppend
  simp only [h.used ok, h.most, h.len ok, e]
theorem mayCut_of (h : RefOf d r) (n : Str) (k : Int) : r.mayCut n k = d.mayCut n k := by unfold Dsk.mayCut; rw [h.get]
theorem ref_append (ok : d.Ok) (h : RefOf d r) {n : Str} {b : List UInt8} {d' : Dsk} {x : Int} (hr : d.append n b = (d', x)) : ∃ r', r.rAppend n b = (r', x) ∧ RefOf d' r' := by
  unfold Dsk.rAppend
  rw [mayAppend_of ok h]
  exact ref_op h (srt_rwith h.srt _) (fun m => by rw [getF_rwith, getF_setF, h.get, h.file]) hr
theorem ref_sync (h : RefOf d r) {n : Str} {d' : Dsk} {x : Int} (hr : d.sync n = (d', x)) : ∃ r', r.rSync n = (r', x) ∧ RefOf d' r' := by
  unfold Dsk.rSync
  rw [there_of h]
  exact ref_op h (srt_rwith h.srt _) (fun m => by rw [getF_rwith, getF_setF, h.get, h.file]) hr
theorem rgetF_delF (L : List (Str × DFile)) (hn : (namesF L).Nodup) (a m : Str) : getF (delF L a) m = if a = m then none else getF L m := by
  induction L with
  | nil => simp [delF, getF]
  | cons x L ih =>
    obtain ⟨k, g⟩ := x
    simp only [namesF, List.map_cons, List.nodup_cons] at hn
    by_cases hk : k = a
    · subst hk
      by_cases hm : k = m
      · subst hm
        simp only [delF, if_true]
        exact (getF_none _ _).2 hn.1
      · simp [delF, getF, hm]
    · by_cases hm : k = m
      · subst hm; simp [delF, getF, hk, Ne.symm hk]
      · simp only [delF, hk, if_false, getF, hm]
        exact ih hn.2
theorem ref_remove (ok : d.Ok) (h : RefOf d r) {n : Str} {d' : Dsk} {x : Int} (hr : d.remove n = (d', x)) : ∃ r', r.rRemove n = (r', x) ∧ RefOf d' r' := by
  unfold Dsk.rRemove
  rw [there_of h]
  exact ref_op h (srt_rwithout h.srt _) (fun m => by show getF (rwithout r.files n) m = _; rw [getF_rwithout, rgetF_delF _ ok.names, h.get]) hr
theorem ref_rename (ok : d.Ok) (h : RefOf d r) {a b : Str} {d' : Dsk} {x : Int} (hr : d.rename a b = (d', x)) : ∃ r', r.rRename a b = (r', x) ∧ RefOf d' r' := by
  unfold Dsk.rRename
  rw [there_of h]
  exact ref_op h (srt_rwith (srt_rwithout h.srt _) _) (fun m => by rw [getF_rwith, getF_rwithout, getF_setF, rgetF_delF _ ok.names, h.get, h.file]) hr
theorem ref_cut (h : RefOf d r) {n : Str} {k : Int} {d' : Dsk} {x : Int} (hr : d.cut n k = (d', x)) : ∃ r', r.rCut n k = (r', x) ∧ RefOf d' r' := by
  unfold Dsk.rCut
  rw [mayCut_of h]
  exact ref_op h (srt_rwith h.srt _) (fun m => by rw [getF_rwith, getF_setF, h.get, h.file]) hr
theorem ref_arm (h : RefOf d r) (n : Int) : RefOf (d.armed n) (r.armed n) := by
  unfold Dsk.armed
  rw [h.down]
  split
  · exact h
  · exact ⟨h.most, rfl, rfl, h.srt, h.get⟩
theorem ref_read (h : RefOf d r) (n : Str) : r.read n = d.read n := by unfold Dsk.read; rw [h.down, h.get]
theorem names_rcrash : ∀ (L : List (Str × DFile)) (ks : List Int), namesF (rcrashF ks L) = namesF L
  | [], _ => rfl
  | (n, f) :: L, ks => by
    have := names_rcrash L ks.tail
    simp only [namesF, rcrashF, List.map_cons] at this ⊢
    rw [this]
theorem crashF_rcrash : ∀ (R : List (Str × DFile)) (ks : List Int) (L : List (Str × DFile)), (namesF R).Nodup → (∀ n ∈ namesF R, getF L n = getF R n) → (∀ n ∈ namesF R, n ∈ namesF L) →
    ∀ m, getF (crashF (namesF R) ks L) m = if m ∈ namesF R then getF (rcrashF ks R) m else getF L m
  | [], ks, L, _, _, _, m => by simp [namesF, crashF]
  | (n, f) :: R, ks, L, hn, hg, hm, m => by
    simp only [namesF, List.map_cons, List.nodup_cons] at hn
    have hf : getF L n = some f := by rw [hg n (by simp [namesF])]; simp [getF]
    have hfo : fileOf L n = f := by simp [fileOf, hf]
    show getF (crashF (namesF R) ks.tail (setF L n (leaves (fileOf L n) (ks.headD 0)))) m = _
    rw [hfo, crashF_rcrash R ks.tail _ hn.2 (fun k hk => ?_) (fun k hk => ?_) m]
    · by_cases hmR : m ∈ namesF R
      · have hnm : n ≠ m := fun e => hn.1 (by subst e; exact hmR)
        rw [if_pos hmR, if_pos (by simp only [namesF, List.map_cons, List.mem_cons]; exact .inr hmR)]
        simp [rcrashF, getF, hnm]
      · rw [if_neg hmR, getF_setF]
        by_cases hnm : n = m
        · subst hnm
          rw [if_pos rfl, if_pos (by simp [namesF])]
          simp [rcrashF, getF]
        · rw [if_neg hnm, if_neg (by simp only [namesF, List.map_cons, List.mem_cons, not_or]; exact ⟨fun e => hnm e.symm, hmR⟩)]
    · have hne : n ≠ k := fun e => hn.1 (by subst e; exact hk)
      rw [getF_setF, if_neg hne, hg k (by simp only [namesF, List.map_cons, List.mem_cons]; exact .inr hk)]
      simp [getF, hne]
    · rw [namesF_setF (hm n (by simp [namesF]))]
      exact hm k (by simp only [namesF, List.map_cons, List.mem_cons]; exact .inr hk)
theorem ref_crash (ok : d.Ok) (h : RefOf d r) (ks : List Int) : RefOf (d.crash ks) (r.rCrash ks) := by
  refine ⟨h.most, rfl, rfl, ?_, fun m => ?_⟩
  · show Srt (rcrashF ks r.files)
    have e := names_rcrash r.files ks
    have h1 : (namesF (rcrashF ks r.files)).Pairwise (· < ·) := by
      rw [e]; unfold namesF; rw [List.pairwise_map]; exact h.srt
    unfold namesF at h1
    rw [List.pairwise_map] at h1
    exact h1
  · show getF (rcrashF ks r.files) m = getF (crashF d.list ks d.files) m
    rw [h.list ok, crashF_rcrash r.files ks d.files (srt_nodup h.srt) (fun n _ => (h.get n).symm) (fun n hn => (h.mem n).1 hn) m]
    by_cases hm : m ∈ namesF r.files
    · rw [if_pos hm]
    · rw [if_neg hm, (getF_none _ _).2 (fun hd => hm ((h.mem m).2 hd)), (getF_none _ _).2 (by rw [names_rcrash]; exact hm)]
theorem ref_new (most : Int) : RefOf (newDsk most) (newDsk most) := ⟨rfl, rfl, rfl, List.Pairwise.nil, fun _ => rfl⟩
end
end Go.Proofs.YtkhcdbafcigeoaaGreatDoor
