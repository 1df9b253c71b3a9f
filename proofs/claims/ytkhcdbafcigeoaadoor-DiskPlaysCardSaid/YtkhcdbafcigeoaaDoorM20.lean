/-
  Texts merged by a program of this claim's: Opens, Ops, Alike, Played, Awake.
-/
import Derived.Test.YtkhcdbafcigeoaaDoorM19
import Derived.Deep.Fields
import Derived.ChangeSame
import Derived.Test.YtkhcdbafcigeoaaDoorM10
/-
  What given arguments are, whatever their types: slices of elements of any number of cells, structs, strings, numbers: each type's reading told once ('Opener'), put together as the type is.
-/
namespace Go.Proofs.YtkhcdbafcigeoaaDoor
open Go Go.ChangeShapes Go.WideShapes Go.RowKit Go.Deep

/-- A slice whose elements take k cells each; R tells what an element's cells say. -/
def RdK {α : Type} (k : Nat) (R : List Value → α → Prop) (w : World) (v : Value) (l : List α) : Prop :=
  (∃ a, v = .slice a 0 0 ∧ l = []) ∨ ∃ g o cap, v = .slice (some ⟨g, o, none⟩) l.length cap ∧ l.length ≤ cap ∧ cap ≤ maxLen ∧ g < w.heap.size ∧
    ∀ i (h : i < l.length), ∃ cs : List Value, cs.length = k ∧ (∀ j (hj : j < cs.length), w.cell? ⟨g, o + i * k + j, none⟩ = some cs[j]) ∧ R cs l[i]

theorem RdK.nw {α : Type} {k : Nat} {R : List Value → α → Prop} {w w' : World} {v : Value} {l : List α} (h : RdK k R w v l) (ho : Nw w w') : RdK k R w' v l := by
  rcases h with h | ⟨g, o, cap, rfl, h1, h2, hg, h3⟩
  · exact .inl h
  · refine .inr ⟨g, o, cap, rfl, h1, h2, Nat.lt_of_lt_of_le hg ho.size, fun i hi => ?_⟩
    obtain ⟨cs, hk, hc, hr⟩ := h3 i hi
    exact ⟨cs, hk, fun j hj => ho.cell (hc j hj), hr⟩
theorem RdK.len {α : Type} {k : Nat} {R : List Value → α → Prop} {w : World} {v : Value} {l : List α} (h : RdK k R w v l) : ∃ a cap, v = .slice a l.length cap ∧ l.length ≤ cap ∧ cap ≤ maxLen ∧
    ∀ i (h : i < l.length), ∃ g o, a = some ⟨g, o, none⟩ ∧ g < w.heap.size ∧ ∃ cs : List Value, cs.length = k ∧ (∀ j (hj : j < cs.length), w.cell? ⟨g, o + i * k + j, none⟩ = some cs[j]) ∧ R cs l[i] := by
  rcases h with ⟨a, rfl, rfl⟩ | ⟨g, o, cap, rfl, h1, h2, hg, h3⟩
  · exact ⟨_, _, rfl, by simp, by simp, fun i hi => absurd hi (by simp)⟩
  · exact ⟨_, _, rfl, h1, h2, fun i hi => ⟨g, o, rfl, hg, h3 i hi⟩⟩
theorem RdK.rd {α : Type} {f : α → Value} {R : List Value → α → Prop} {w : World} {v : Value} {l : List α} (h : RdK 1 R w v l) (hR : ∀ cs x, R cs x → cs = [f x]) : Rd f w v l := by
  rcases h with h | ⟨g, o, cap, rfl, h1, h2, hg, h3⟩
  · exact .inl h
  · refine .inr ⟨g, o, cap, rfl, h1, h2, hg, fun i hi => ?_⟩
    obtain ⟨cs, hk, hc, hr⟩ := h3 i hi
    obtain rfl := hR _ _ hr
    simpa using hc 0 (by simp)

theorem list_of {α : Type} {p : Nat → α → Prop} : ∀ n : Nat, (∀ i, i < n → ∃ x, p i x) → ∃ l : List α, l.length = n ∧ ∀ i (h : i < l.length), p i l[i]
  | 0, _ => ⟨[], rfl, fun i h => absurd h (by simp)⟩
  | n + 1, h => by
    obtain ⟨l, hl, hp⟩ := list_of n (fun i hi => h i (Nat.lt_succ_of_lt hi))
    obtain ⟨x, hx⟩ := h n (Nat.lt_succ_self n)
    refine ⟨l ++ [x], by simp [hl], fun i hi => ?_⟩
    by_cases hlt : i < l.length
    · rw [List.getElem_append_left hlt]; exact hp i hlt
    · have : i = n := by simp [hl] at hi hlt; omega
      subst this
      rw [List.getElem_append_right (by omega)]
      simpa using hx

theorem spot_of_cell {w : World} {a : Addr} {v : Value} (h : w.cell? a = some v) : a.spot = none := by
  unfold World.cell? at h
  split at h
  · split at h
    · cases h
    · rename_i hs; simpa using hs
  · cases h
theorem addp (g o n : Nat) : (⟨g, o, none⟩ : Addr).add n = ⟨g, o + n, none⟩ := by
  unfold Addr.add
  split
  · rename_i h; subst h; rfl
  · rfl

section
variable {H : Type} {enc : TypeId × Value → H} {P : Program} {W : World}
def Opener {α : Type} (enc : TypeId × Value → H) (P : Program) (W : World) (t : TypeId) (R : List Value → α → Prop) : Prop :=
  ∀ (fuel : Nat) (cs : List Value) (x : DataW H × List MemPlace), DataW.trod enc P W 0 (fun _ => true) true fuel t cs = some x → ∃ y, R cs y

theorem Opener.slice {α : Type} {R : List Value → α → Prop} {t e : TypeId} {k : Nat} (ht : P.underlying t = some (.slice e)) (hc : P.cellsOf e = k) (hk : 0 < k) (h : Opener enc P W e R) :
    Opener enc P W t (fun cs (l : List α) => ∃ v, cs = [v] ∧ RdK k R W v l) := by
  intro fuel cs x hx
  subst hc
  rcases open_slice ht hx with ⟨rfl, rfl⟩ | ⟨a, len, cap, m, n, D, Pl, rfl, hb, hl, hm, hmm, rfl, hel⟩
  · exact ⟨[], _, rfl, .inl ⟨none, rfl, rfl⟩⟩
  · simp only [if_true] at hmm
    subst hmm
    by_cases h0 : m = 0
    · subst h0
      obtain rfl : len = 0 := by omega
      exact ⟨[], _, rfl, .inl ⟨some a, rfl, rfl⟩⟩
    · obtain ⟨g, o, sp⟩ := a
      obtain ⟨c0, hc0, -⟩ := hel 0 (by omega)
      obtain ⟨-, hl0, hat0⟩ := World.cells?_some hc0
      have h00 := hat0 0 hk
      rw [List.getElem?_eq_getElem (by omega)] at h00
      rw [Nat.zero_mul] at h00
      have hsp : sp = none := spot_of_cell h00
      subst hsp
      have hg : g < W.heap.size := World.block_lt_of_cell? _ _ h00
      obtain ⟨l, hll, hp⟩ := list_of (p := fun i (y : α) => ∃ cs : List Value, cs.length = P.cellsOf e ∧ (∀ j (hj : j < cs.length), W.cell? ⟨g, o + i * P.cellsOf e + j, none⟩ = some cs[j]) ∧ R cs y) len (fun i hi => by
        obtain ⟨cs', hcs, htr⟩ := hel i (by omega)
        obtain ⟨y, hy⟩ := h _ _ _ htr
        obtain ⟨-, hl', hat⟩ := World.cells?_some hcs
        refine ⟨y, cs', hl', fun j hj => ?_, hy⟩
        have := hat j (by omega)
        rw [List.getElem?_eq_getElem hj, addp, addp] at this
        exact this)
      subst hll
      exact ⟨l, _, rfl, .inr ⟨g, o, m, rfl, hl, hm, hg, hp⟩⟩

theorem Opener.imp {α β : Type} {R : List Value → α → Prop} {R' : List Value → β → Prop} {t : TypeId} (h : Opener enc P W t R) (hi : ∀ cs x, R cs x → ∃ y, R' cs y) : Opener enc P W t R' := by
  intro fuel cs x hx
  obtain ⟨y, hy⟩ := h _ _ _ hx
  exact hi _ _ hy
theorem Opener.int {t : TypeId} {k : IntKind} (ht : P.underlying t = some (.int k)) : Opener enc P W t (fun cs (z : Int) => cs = [.int k z] ∧ (Lit.int k z).wf = true) := by
  intro fuel cs x hx
  obtain ⟨z, rfl, -, hw⟩ := DataW.trod_int ht hx
  exact ⟨z, rfl, hw⟩
def isU8 (cs : List Value) (c : UInt8) : Prop := cs = [u8 c]
def isI64 (cs : List Value) (z : Int) : Prop := cs = [.int .i64 z] ∧ -9223372036854775808 ≤ z ∧ z ≤ 9223372036854775807
def isStr (cs : List Value) (s : Str) : Prop := cs = [.string ⟨s.toArray⟩] ∧ s.length ≤ 9223372036854775807
def isBool (cs : List Value) (b : Bool) : Prop := cs = [.bool b]
def isBs (W : World) (cs : List Value) (l : List UInt8) : Prop := ∃ v, cs = [v] ∧ Bs W v l
def isI64s (W : World) (cs : List Value) (l : List Int) : Prop := ∃ v, cs = [v] ∧ Rd i64v W v l ∧ ∀ z ∈ l, -9223372036854775808 ≤ z ∧ z ≤ 9223372036854775807
theorem Opener.u8 {t : TypeId} (ht : P.underlying t = some (.int .u8)) : Opener enc P W t isU8 :=
  (Opener.int ht).imp fun cs z ⟨h, hw⟩ => ⟨UInt8.ofNat z.toNat, by rw [isU8, h, Go.Proofs.YtkhcdbafcigeoaaDoor.u8, ← u8_of_int hw]⟩
theorem Opener.i64 {t : TypeId} (ht : P.underlying t = some (.int .i64)) : Opener enc P W t isI64 :=
  (Opener.int ht).imp fun cs z ⟨h, hw⟩ => ⟨z, h, by
    simp only [Lit.wf, Bool.and_eq_true, decide_eq_true_eq] at hw
    have h1 := hw.1
    have h2 := hw.2
    rw [show IntKind.i64.min = -9223372036854775808 from rfl] at h1
    rw [show IntKind.i64.max = 9223372036854775807 from rfl] at h2
    exact ⟨h1, h2⟩⟩
theorem Opener.str {t : TypeId} (ht : P.underlying t = some .string) : Opener enc P W t isStr := by
  intro fuel cs x hx
  obtain ⟨s, rfl, -, hs⟩ := DataW.trod_string ht hx
  refine ⟨s.data.toList, ?_, ?_⟩
  · simp
  · unfold maxLen at hs
    simpa using hs
theorem Opener.bool {t : TypeId} (ht : P.underlying t = some .bool) : Opener enc P W t isBool := by
  intro fuel cs x hx
  obtain ⟨b, rfl, -⟩ := DataW.trod_bool ht hx
  exact ⟨b, rfl⟩
theorem Opener.bytes {t e : TypeId} (ht : P.underlying t = some (.slice e)) (he : P.underlying e = some (.int .u8)) (hc : P.cellsOf e = 1) : Opener enc P W t (isBs W) :=
  (Opener.slice ht hc (by omega) (Opener.u8 he)).imp fun _ _ ⟨v, hv, h⟩ => ⟨_, v, hv, h.rd fun _ _ h => h⟩
theorem Opener.i64s {t e : TypeId} (ht : P.underlying t = some (.slice e)) (he : P.underlying e = some (.int .i64)) (hc : P.cellsOf e = 1) : Opener enc P W t (isI64s W) :=
  (Opener.slice ht hc (by omega) (Opener.i64 he)).imp fun _ l ⟨v, hv, h⟩ => ⟨l, v, hv, h.rd fun _ _ h => h.1, fun z hz => by
    rcases h with ⟨_, _, rfl⟩ | ⟨g, o, cap, _, _, _, _, h3⟩
    · cases hz
    · obtain ⟨i, hi, rfl⟩ := List.getElem_of_mem hz
      obtain ⟨cs, -, -, hr⟩ := h3 i hi
      exact hr.2⟩

/-- An argument, opened. -/
theorem open_arg {α : Type} {R : List Value → α → Prop} {t : TypeId} {v : Value} {d : DataW H} {ps : List MemPlace} (ho : Opener enc P W t R) (h : DataW.Trod enc P W 0 (fun _ => true) true t v d ps) : ∃ y, R v.cells.toList y := by
  obtain ⟨fuel, hf⟩ := h
  exact ho _ _ _ hf
theorem one_of_slice {r : Reach} {b0 : Nat} {t e : TypeId} {v u : Value} (ht : P.underlying t = some (.slice e)) (hval : Value.okWide P W r b0 t v) (h : v.cells.toList = [u]) : u = v := by
  have hv : ∀ xs, v ≠ .agg xs := fun xs hx => by subst hx; simp [Value.okWide, ht, Cell.okWide, Cell.ok] at hval
  cases v <;> simp_all [Value.cells]
theorem one_of_string {r : Reach} {b0 : Nat} {t : TypeId} {v u : Value} (ht : P.underlying t = some .string) (hval : Value.okWide P W r b0 t v) (h : v.cells.toList = [u]) : u = v := by
  have hv : ∀ xs, v ≠ .agg xs := fun xs hx => by subst hx; simp [Value.okWide, ht, Cell.okWide, Cell.ok] at hval
  cases v <;> simp_all [Value.cells]
theorem one_of_int {r : Reach} {b0 : Nat} {t : TypeId} {k : IntKind} {v u : Value} (ht : P.underlying t = some (.int k)) (hval : Value.okWide P W r b0 t v) (h : v.cells.toList = [u]) : u = v := by
  have hv : ∀ xs, v ≠ .agg xs := fun xs hx => by subst hx; simp [Value.okWide, ht, Cell.okWide, Cell.ok] at hval
  cases v <;> simp_all [Value.cells]
theorem arg_slice {α : Type} {R : List Value → α → Prop} {r : Reach} {b0 : Nat} {t e : TypeId} {k : Nat} {v : Value} {d : DataW H} {ps : List MemPlace} (ht : P.underlying t = some (.slice e)) (hc : P.cellsOf e = k) (hk : 0 < k) (ho : Opener enc P W e R)
    (hval : Value.okWide P W r b0 t v) (h : DataW.Trod enc P W 0 (fun _ => true) true t v d ps) : ∃ l, RdK k R W v l := by
  obtain ⟨l, u, hu, hr⟩ := open_arg (Opener.slice ht hc hk ho) h
  obtain rfl := one_of_slice ht hval hu
  exact ⟨l, hr⟩
theorem arg_bytes {r : Reach} {b0 : Nat} {t e : TypeId} {v : Value} {d : DataW H} {ps : List MemPlace} (ht : P.underlying t = some (.slice e)) (he : P.underlying e = some (.int .u8)) (hc : P.cellsOf e = 1)
    (hval : Value.okWide P W r b0 t v) (h : DataW.Trod enc P W 0 (fun _ => true) true t v d ps) : ∃ l, Bs W v l := by
  obtain ⟨l, u, hu, hr⟩ := open_arg (Opener.bytes ht he hc) h
  obtain rfl := one_of_slice ht hval hu
  exact ⟨l, hr⟩
theorem arg_i64s {r : Reach} {b0 : Nat} {t e : TypeId} {v : Value} {d : DataW H} {ps : List MemPlace} (ht : P.underlying t = some (.slice e)) (he : P.underlying e = some (.int .i64)) (hc : P.cellsOf e = 1)
    (hval : Value.okWide P W r b0 t v) (h : DataW.Trod enc P W 0 (fun _ => true) true t v d ps) : ∃ l, Rd i64v W v l ∧ ∀ z ∈ l, -9223372036854775808 ≤ z ∧ z ≤ 9223372036854775807 := by
  obtain ⟨l, u, hu, hr⟩ := open_arg (Opener.i64s ht he hc) h
  obtain rfl := one_of_slice ht hval hu
  exact ⟨l, hr⟩
theorem arg_str {r : Reach} {b0 : Nat} {t : TypeId} {v : Value} {d : DataW H} {ps : List MemPlace} (ht : P.underlying t = some .string)
    (hval : Value.okWide P W r b0 t v) (h : DataW.Trod enc P W 0 (fun _ => true) true t v d ps) : ∃ s : Str, v = .string ⟨s.toArray⟩ ∧ s.length ≤ 9223372036854775807 := by
  obtain ⟨s, hs, hl⟩ := open_arg (Opener.str ht) h
  exact ⟨s, (one_of_string ht hval hs).symm, hl⟩
theorem arg_i64 {r : Reach} {b0 : Nat} {t : TypeId} {v : Value} {d : DataW H} {ps : List MemPlace} (ht : P.underlying t = some (.int .i64))
    (hval : Value.okWide P W r b0 t v) (h : DataW.Trod enc P W 0 (fun _ => true) true t v d ps) : ∃ z : Int, v = .int .i64 z ∧ -9223372036854775808 ≤ z ∧ z ≤ 9223372036854775807 := by
  obtain ⟨z, hs, hl⟩ := open_arg (Opener.i64 ht) h
  exact ⟨z, (one_of_int ht hval hs).symm, hl⟩
theorem arg_u16 {r : Reach} {b0 : Nat} {t : TypeId} {v : Value} {d : DataW H} {ps : List MemPlace} (ht : P.underlying t = some (.int .u16))
    (hval : Value.okWide P W r b0 t v) (h : DataW.Trod enc P W 0 (fun _ => true) true t v d ps) : ∃ z : Int, v = .int .u16 z ∧ 0 ≤ z ∧ z ≤ 65535 := by
  obtain ⟨z, hs, hw⟩ := open_arg (Opener.int ht) h
  refine ⟨z, (one_of_int ht hval hs).symm, ?_⟩
  simp only [Lit.wf, Bool.and_eq_true, decide_eq_true_eq] at hw
  have h1 := hw.1
  have h2 := hw.2
  rw [show IntKind.u16.min = 0 from rfl] at h1
  rw [show IntKind.u16.max = 65535 from rfl] at h2
  exact ⟨h1, h2⟩
theorem arg_u8 {r : Reach} {b0 : Nat} {t : TypeId} {v : Value} {d : DataW H} {ps : List MemPlace} (ht : P.underlying t = some (.int .u8))
    (hval : Value.okWide P W r b0 t v) (h : DataW.Trod enc P W 0 (fun _ => true) true t v d ps) : ∃ z : UInt8, v = u8 z := by
  obtain ⟨z, hs⟩ := open_arg (Opener.u8 ht) h
  exact ⟨z, (one_of_int ht hval hs).symm⟩

theorem Opener.struct2 {α0 α1 : Type} {R0 : List Value → α0 → Prop} {R1 : List Value → α1 → Prop} {t : TypeId} {f0 f1 : Field} (hs : P.underlying t = some (.struct #[f0, f1])) (hone : oneCellFields P #[f0, f1] = true) (hC : P.cellsOf t = 2) (h0 : Opener enc P W f0.type R0) (h1 : Opener enc P W f1.type R1) :
    Opener enc P W t (fun cs (x : α0 × α1) => ∃ v0 v1, cs = [v0, v1] ∧ R0 [v0] x.1 ∧ R1 [v1] x.2) := by
  intro fuel cs x hx
  obtain ⟨xs, n, _, _, hcl, hlen, hg⟩ := DataW.trod_struct hs hx
  rw [hC] at hcl
  obtain ⟨o0, k0⟩ := hone_of hone 0 f0 rfl
  obtain ⟨o1, k1⟩ := hone_of hone 1 f1 rfl
  match cs, hcl with
  | [c0, c1], _ =>
    match xs, hlen with
    | [y0, y1], _ =>
      have g0 := hg 0 f0 rfl
      rw [o0, k0] at g0
      obtain ⟨z0, e0⟩ := h0 n [c0] y0 (by simpa using g0)
      have g1 := hg 1 f1 rfl
      rw [o1, k1] at g1
      obtain ⟨z1, e1⟩ := h1 n [c1] y1 (by simpa using g1)
      exact ⟨(z0, z1), c0, c1, rfl, e0, e1⟩
theorem Opener.struct3 {α0 α1 α2 : Type} {R0 : List Value → α0 → Prop} {R1 : List Value → α1 → Prop} {R2 : List Value → α2 → Prop} {t : TypeId} {f0 f1 f2 : Field} (hs : P.underlying t = some (.struct #[f0, f1, f2])) (hone : oneCellFields P #[f0, f1, f2] = true) (hC : P.cellsOf t = 3) (h0 : Opener enc P W f0.type R0) (h1 : Opener enc P W f1.type R1) (h2 : Opener enc P W f2.type R2) :
    Opener enc P W t (fun cs (x : α0 × α1 × α2) => ∃ v0 v1 v2, cs = [v0, v1, v2] ∧ R0 [v0] x.1 ∧ R1 [v1] x.2.1 ∧ R2 [v2] x.2.2) := by
  intro fuel cs x hx
  obtain ⟨xs, n, _, _, hcl, hlen, hg⟩ := DataW.trod_struct hs hx
  rw [hC] at hcl
  obtain ⟨o0, k0⟩ := hone_of hone 0 f0 rfl
  obtain ⟨o1, k1⟩ := hone_of hone 1 f1 rfl
  obtain ⟨o2, k2⟩ := hone_of hone 2 f2 rfl
  match cs, hcl with
  | [c0, c1, c2], _ =>
    match xs, hlen with
    | [y0, y1, y2], _ =>
      have g0 := hg 0 f0 rfl
      rw [o0, k0] at g0
      obtain ⟨z0, e0⟩ := h0 n [c0] y0 (by simpa using g0)
      have g1 := hg 1 f1 rfl
      rw [o1, k1] at g1
      obtain ⟨z1, e1⟩ := h1 n [c1] y1 (by simpa using g1)
      have g2 := hg 2 f2 rfl
      rw [o2, k2] at g2
      obtain ⟨z2, e2⟩ := h2 n [c2] y2 (by simpa using g2)
      exact ⟨(z0, z1, z2), c0, c1, c2, rfl, e0, e1, e2⟩
theorem Opener.struct4 {α0 α1 α2 α3 : Type} {R0 : List Value → α0 → Prop} {R1 : List Value → α1 → Prop} {R2 : List Value → α2 → Prop} {R3 : List Value → α3 → Prop} {t : TypeId} {f0 f1 f2 f3 : Field} (hs : P.underlying t = some (.struct #[f0, f1, f2, f3])) (hone : oneCellFields P #[f0, f1, f2, f3] = true) (hC : P.cellsOf t = 4) (h0 : Opener enc P W f0.type R0) (h1 : Opener enc P W f1.type R1) (h2 : Opener enc P W f2.type R2) (h3 : Opener enc P W f3.type R3) :
    Opener enc P W t (fun cs (x : α0 × α1 × α2 × α3) => ∃ v0 v1 v2 v3, cs = [v0, v1, v2, v3] ∧ R0 [v0] x.1 ∧ R1 [v1] x.2.1 ∧ R2 [v2] x.2.2.1 ∧ R3 [v3] x.2.2.2) := by
  intro fuel cs x hx
  obtain ⟨xs, n, _, _, hcl, hlen, hg⟩ := DataW.trod_struct hs hx
  rw [hC] at hcl
  obtain ⟨o0, k0⟩ := hone_of hone 0 f0 rfl
  obtain ⟨o1, k1⟩ := hone_of hone 1 f1 rfl
  obtain ⟨o2, k2⟩ := hone_of hone 2 f2 rfl
  obtain ⟨o3, k3⟩ := hone_of hone 3 f3 rfl
  match cs, hcl with
  | [c0, c1, c2, c3], _ =>
    match xs, hlen with
    | [y0, y1, y2, y3], _ =>
      have g0 := hg 0 f0 rfl
      rw [o0, k0] at g0
      obtain ⟨z0, e0⟩ := h0 n [c0] y0 (by simpa using g0)
      have g1 := hg 1 f1 rfl
      rw [o1, k1] at g1
      obtain ⟨z1, e1⟩ := h1 n [c1] y1 (by simpa using g1)
      have g2 := hg 2 f2 rfl
      rw [o2, k2] at g2
      obtain ⟨z2, e2⟩ := h2 n [c2] y2 (by simpa using g2)
      have g3 := hg 3 f3 rfl
      rw [o3, k3] at g3
      obtain ⟨z3, e3⟩ := h3 n [c3] y3 (by simpa using g3)
      exact ⟨(z0, z1, z2, z3), c0, c1, c2, c3, rfl, e0, e1, e2, e3⟩
theorem Opener.struct5 {α0 α1 α2 α3 α4 : Type} {R0 : List Value → α0 → Prop} {R1 : List Value → α1 → Prop} {R2 : List Value → α2 → Prop} {R3 : List Value → α3 → Prop} {R4 : List Value → α4 → Prop} {t : TypeId} {f0 f1 f2 f3 f4 : Field} (hs : P.underlying t = some (.struct #[f0, f1, f2, f3, f4])) (hone : oneCellFields P #[f0, f1, f2, f3, f4] = true) (hC : P.cellsOf t = 5) (h0 : Opener enc P W f0.type R0) (h1 : Opener enc P W f1.type R1) (h2 : Opener enc P W f2.type R2) (h3 : Opener enc P W f3.type R3) (h4 : Opener enc P W f4.type R4) :
    Opener enc P W t (fun cs (x : α0 × α1 × α2 × α3 × α4) => ∃ v0 v1 v2 v3 v4, cs = [v0, v1, v2, v3, v4] ∧ R0 [v0] x.1 ∧ R1 [v1] x.2.1 ∧ R2 [v2] x.2.2.1 ∧ R3 [v3] x.2.2.2.1 ∧ R4 [v4] x.2.2.2.2) := by
  intro fuel cs x hx
  obtain ⟨xs, n, _, _, hcl, hlen, hg⟩ := DataW.trod_struct hs hx
  rw [hC] at hcl
  obtain ⟨o0, k0⟩ := hone_of hone 0 f0 rfl
  obtain ⟨o1, k1⟩ := hone_of hone 1 f1 rfl
  obtain ⟨o2, k2⟩ := hone_of hone 2 f2 rfl
  obtain ⟨o3, k3⟩ := hone_of hone 3 f3 rfl
  obtain ⟨o4, k4⟩ := hone_of hone 4 f4 rfl
  match cs, hcl with
  | [c0, c1, c2, c3, c4], _ =>
    match xs, hlen with
    | [y0, y1, y2, y3, y4], _ =>
      have g0 := hg 0 f0 rfl
      rw [o0, k0] at g0
      obtain ⟨z0, e0⟩ := h0 n [c0] y0 (by simpa using g0)
      have g1 := hg 1 f1 rfl
      rw [o1, k1] at g1
      obtain ⟨z1, e1⟩ := h1 n [c1] y1 (by simpa using g1)
      have g2 := hg 2 f2 rfl
      rw [o2, k2] at g2
      obtain ⟨z2, e2⟩ := h2 n [c2] y2 (by simpa using g2)
      have g3 := hg 3 f3 rfl
      rw [o3, k3] at g3
      obtain ⟨z3, e3⟩ := h3 n [c3] y3 (by simpa using g3)
      have g4 := hg 4 f4 rfl
      rw [o4, k4] at g4
      obtain ⟨z4, e4⟩ := h4 n [c4] y4 (by simpa using g4)
      exact ⟨(z0, z1, z2, z3, z4), c0, c1, c2, c3, c4, rfl, e0, e1, e2, e3, e4⟩
theorem Opener.struct6 {α0 α1 α2 α3 α4 α5 : Type} {R0 : List Value → α0 → Prop} {R1 : List Value → α1 → Prop} {R2 : List Value → α2 → Prop} {R3 : List Value → α3 → Prop} {R4 : List Value → α4 → Prop} {R5 : List Value → α5 → Prop} {t : TypeId} {f0 f1 f2 f3 f4 f5 : Field} (hs : P.underlying t = some (.struct #[f0, f1, f2, f3, f4, f5])) (hone : oneCellFields P #[f0, f1, f2, f3, f4, f5] = true) (hC : P.cellsOf t = 6) (h0 : Opener enc P W f0.type R0) (h1 : Opener enc P W f1.type R1) (h2 : Opener enc P W f2.type R2) (h3 : Opener enc P W f3.type R3) (h4 : Opener enc P W f4.type R4) (h5 : Opener enc P W f5.type R5) :
    Opener enc P W t (fun cs (x : α0 × α1 × α2 × α3 × α4 × α5) => ∃ v0 v1 v2 v3 v4 v5, cs = [v0, v1, v2, v3, v4, v5] ∧ R0 [v0] x.1 ∧ R1 [v1] x.2.1 ∧ R2 [v2] x.2.2.1 ∧ R3 [v3] x.2.2.2.1 ∧ R4 [v4] x.2.2.2.2.1 ∧ R5 [v5] x.2.2.2.2.2) := by
  intro fuel cs x hx
  obtain ⟨xs, n, _, _, hcl, hlen, hg⟩ := DataW.trod_struct hs hx
  rw [hC] at hcl
  obtain ⟨o0, k0⟩ := hone_of hone 0 f0 rfl
  obtain ⟨o1, k1⟩ := hone_of hone 1 f1 rfl
  obtain ⟨o2, k2⟩ := hone_of hone 2 f2 rfl
  obtain ⟨o3, k3⟩ := hone_of hone 3 f3 rfl
  obtain ⟨o4, k4⟩ := hone_of hone 4 f4 rfl
  obtain ⟨o5, k5⟩ := hone_of hone 5 f5 rfl
  match cs, hcl with
  | [c0, c1, c2, c3, c4, c5], _ =>
    match xs, hlen with
    | [y0, y1, y2, y3, y4, y5], _ =>
      have g0 := hg 0 f0 rfl
      rw [o0, k0] at g0
      obtain ⟨z0, e0⟩ := h0 n [c0] y0 (by simpa using g0)
      have g1 := hg 1 f1 rfl
      rw [o1, k1] at g1
      obtain ⟨z1, e1⟩ := h1 n [c1] y1 (by simpa using g1)
      have g2 := hg 2 f2 rfl
      rw [o2, k2] at g2
      obtain ⟨z2, e2⟩ := h2 n [c2] y2 (by simpa using g2)
      have g3 := hg 3 f3 rfl
      rw [o3, k3] at g3
      obtain ⟨z3, e3⟩ := h3 n [c3] y3 (by simpa using g3)
      have g4 := hg 4 f4 rfl
      rw [o4, k4] at g4
      obtain ⟨z4, e4⟩ := h4 n [c4] y4 (by simpa using g4)
      have g5 := hg 5 f5 rfl
      rw [o5, k5] at g5
      obtain ⟨z5, e5⟩ := h5 n [c5] y5 (by simpa using g5)
      exact ⟨(z0, z1, z2, z3, z4, z5), c0, c1, c2, c3, c4, c5, rfl, e0, e1, e2, e3, e4, e5⟩
end
end Go.Proofs.YtkhcdbafcigeoaaDoor

/-
  The statements' scripts: what a call of a script is, what it does to a disk; two disks held against one another.
-/
namespace Go.Proofs.YtkhcdbafcigeoaaDoor
open Go Go.RowKit Go.Sort
set_option maxRecDepth 100000
set_option maxHeartbeats 1600000

structure OpR where
  kind : Int
  n : Int
  name : Str
  tgt : Str
  b : List UInt8
  keeps : List Int
/-- What an element's cells say. -/
structure OpIs (W : World) (cs : List Value) (o : OpR) (vb vk : Value) : Prop where
  cells : cs = [.int .i64 o.kind, .int .i64 o.n, .string ⟨o.name.toArray⟩, .string ⟨o.tgt.toArray⟩, vb, vk]
  bs : Bs W vb o.b
  ks : Rd i64v W vk o.keeps
  name : o.name.length ≤ 9223372036854775807
  tgt : o.tgt.length ≤ 9223372036854775807
  n0 : -9223372036854775808 ≤ o.n
  n1 : o.n ≤ 9223372036854775807
def isOp (W : World) (cs : List Value) (o : OpR) : Prop := ∃ vb vk, OpIs W cs o vb vk

theorem opener_op {H : Type} {enc : TypeId × Value → H} {W : World} : Opener enc Tryd.prog W 36 (isOp W) := by
  refine Opener.imp (Opener.struct6 Tryd.underlying36 (by kernel_rfl) (by kernel_rfl) (Opener.i64 Tryd.underlying3) (Opener.i64 Tryd.underlying3) (Opener.str Tryd.underlying9) (Opener.str Tryd.underlying9)
    (Opener.bytes Tryd.underlying33 Tryd.underlying5 (by kernel_rfl)) (Opener.i64s Tryd.underlying34 Tryd.underlying3 (by kernel_rfl))) ?_
  rintro cs ⟨k, n, a, b, l, ks⟩ ⟨v0, v1, v2, v3, v4, v5, rfl, h0, h1, h2, h3, ⟨u4, h4, hb⟩, ⟨u5, h5, hk, -⟩⟩
  have e0 := List.singleton_inj.1 h0.1
  have e1 := List.singleton_inj.1 h1.1
  have e2 := List.singleton_inj.1 h2.1
  have e3 := List.singleton_inj.1 h3.1
  have e4 := List.singleton_inj.1 h4
  have e5 := List.singleton_inj.1 h5
  exact ⟨⟨k, n, a, b, l, ks⟩, u4, u5, by rw [e0, e1, e2, e3, e4, e5], hb, hk, h2.2, h3.2, h1.2.1, h1.2.2⟩

/-- What a call does. -/
def Dsk.does (d : Dsk) (o : OpR) : Dsk × Int :=
  if o.kind = 1 ∨ o.kind = 2 ∨ o.kind = 3 then d.append o.name o.b
  else if o.kind = 4 ∨ o.kind = 5 then d.sync o.name
  else if o.kind = 6 then d.rename o.name o.tgt
  else if o.kind = 7 then d.remove o.name
  else if o.kind = 8 then d.cut o.name o.n
  else if o.kind = 9 then (d.armed o.n, 0)
  else if o.kind = 10 then (d.crash o.keeps, 0)
  else (d, 0)
def OpR.small (o : OpR) : Bool := decide (o.b.length ≤ 200) && decide (o.name.length ≤ 100) && decide (o.tgt.length ≤ 100) && decide (o.keeps.length ≤ 300)
def OpR.agg (o : OpR) (vb vk : Value) : Value := .agg #[.int .i64 o.kind, .int .i64 o.n, .string ⟨o.name.toArray⟩, .string ⟨o.tgt.toArray⟩, vb, vk]

section
variable {X : Nat → Prop} {w0 w : World} {b : Nat} {d d' : Dsk}
theorem DidX.nw {w1 w2 : World} {v : Value} {e : Ending} (hw : Nw w w1) (h : DidX X w0 w1 b d' v e w2) : DidX X w0 w b d' v e w2 := ⟨h.1, h.2.1, hw.kept.trans h.2.2⟩
end

theorem ret_small {a b : Bool} (h : a = b) : Ending.returned (.bool b) = .returned (.bool a) := by rw [h]
end Go.Proofs.YtkhcdbafcigeoaaDoor

/-
  Two disks that look the same: 'alike' says so.
-/
namespace Go.Proofs.YtkhcdbafcigeoaaDoor
open Go Go.RowKit Go.Sort
set_option maxRecDepth 100000
set_option maxHeartbeats 1600000

section
variable {w : World} {b : Nat} {d : Dsk} {S : Nat → Prop}
theorem DiskIn.sizeC (h1 : DiskIn w b d S) (n : Str) {k : Nat} (hk : (fileOf d.files n).bytes.length = k) :
    Calls Tryd.prog 26 #[.pointer (some ⟨b, 0, none⟩), .string ⟨n.toArray⟩] w fun e w' => e = .returned (.int .i64 k) ∧ Nw w w' := by
  subst hk; exact Size_ok h1 n
theorem DiskIn.syncedC (h1 : DiskIn w b d S) (n : Str) {k : Nat} (hk : (fileOf d.files n).synced = k) :
    Calls Tryd.prog 27 #[.pointer (some ⟨b, 0, none⟩), .string ⟨n.toArray⟩] w fun e w' => e = .returned (.int .i64 k) ∧ Nw w w' := by
  subst hk; exact Synced_ok h1 n
theorem DiskIn.usedC (h1 : DiskIn w b d S) {k : Nat} (hk : usedF d.files = k) :
    Calls Tryd.prog 28 #[.pointer (some ⟨b, 0, none⟩)] w fun e w' => e = .returned (.int .i64 k) ∧ Nw w w' := by
  subst hk; exact Used_ok h1
theorem DiskIn.downC (h1 : DiskIn w b d S) {x : Bool} (hx : d.down = x) :
    Calls Tryd.prog 32 #[.pointer (some ⟨b, 0, none⟩)] w fun e w' => e = .returned (.bool x) ∧ w = w' := by
  subst hx; exact Down_ok h1
theorem DiskIn.readC (h1 : DiskIn w b d S) (n : Str) {l : List UInt8} {x : Int} (hr : d.read n = (l, x)) :
    Calls Tryd.prog 21 #[.pointer (some ⟨b, 0, none⟩), .string ⟨n.toArray⟩] w fun e w' => ∃ v, e = .returned (.tuple #[v, .int .i64 x]) ∧ Own w' v l ∧ Nw w w' ∧ ∀ g, v.ownBlock = some g → w.heap.size ≤ g := by
  have := Read_ok h1 n
  rw [hr] at this
  exact this
theorem DiskIn.listC (h1 : DiskIn w b d S) {l : List Str} (hl : d.list = l) :
    Calls Tryd.prog 31 #[.pointer (some ⟨b, 0, none⟩)] w fun e w' => ∃ v, e = .returned v ∧ Ss w' v l ∧ Nw w w' ∧ ∀ g, v.ownBlock = some g → w.heap.size ≤ g := by
  have := List_ok h1
  rw [hl] at this
  exact this
end

structure Like (da db : Dsk) : Prop where
  list : da.list = db.list
  down : da.down = db.down
  used : usedF da.files = usedF db.files
  read : ∀ n, da.read n = db.read n
  synced : ∀ n, (fileOf da.files n).synced = (fileOf db.files n).synced
theorem Like.refl (d : Dsk) : Like d d := ⟨rfl, rfl, rfl, fun _ => rfl, fun _ => rfl⟩

end Go.Proofs.YtkhcdbafcigeoaaDoor

/-
  Two disks behind the same script.
-/
namespace Go.Proofs.YtkhcdbafcigeoaaDoor
open Go Go.RowKit Go.Sort
set_option maxRecDepth 100000
set_option maxHeartbeats 1600000

theorem isOp.nw {W w : World} {cs : List Value} {o : OpR} (h : isOp W cs o) (hw : Nw W w) : isOp w cs o := by
  obtain ⟨vb, vk, h1, h2, h3, h4, h5, h6, h7⟩ := h
  exact ⟨vb, vk, h1, h2.nw hw, h3.nw hw, h4, h5, h6, h7⟩
theorem RdK.imp {α : Type} {k : Nat} {R R' : List Value → α → Prop} {w : World} {v : Value} {l : List α} (h : RdK k R w v l) (hi : ∀ cs x, R cs x → R' cs x) : RdK k R' w v l := by
  rcases h with h | ⟨g, o, cap, rfl, h1, h2, hg, h3⟩
  · exact .inl h
  · refine .inr ⟨g, o, cap, rfl, h1, h2, hg, fun i hi' => ?_⟩
    obtain ⟨cs, hk, hc, hr⟩ := h3 i hi'
    exact ⟨cs, hk, hc, hi _ _ hr⟩

def Dsk.step (d : Dsk) (o : OpR) : Dsk := if o.small then (d.does o).1 else d
def Dsk.plays (d : Dsk) (l : List OpR) : Dsk := l.foldl Dsk.step d
theorem plays_succ (d : Dsk) (l : List OpR) (k : Nat) (h : k < l.length) : d.plays (l.take (k + 1)) = (d.plays (l.take k)).step l[k] := by
  unfold Dsk.plays
  rw [List.take_succ_eq_append_getElem h, List.foldl_append]
  rfl

/-- The cells of an element that is a call. -/
theorem op_cells {W w : World} {g o : Nat} {cs : List Value} {x : OpR} {vb vk : Value} (ho : OpIs W cs x vb vk) (hc : ∀ j (hj : j < cs.length), w.cell? ⟨g, o + j, none⟩ = some cs[j]) :
    w.cell? ⟨g, o, none⟩ = some (.int .i64 x.kind) ∧ w.cell? ⟨g, o + 1, none⟩ = some (.int .i64 x.n) ∧ w.cell? ⟨g, o + 2, none⟩ = some (.string ⟨x.name.toArray⟩) ∧ w.cell? ⟨g, o + 3, none⟩ = some (.string ⟨x.tgt.toArray⟩) ∧
    w.cell? ⟨g, o + 4, none⟩ = some vb ∧ w.cell? ⟨g, o + 5, none⟩ = some vk := by
  have e := ho.cells
  subst e
  exact ⟨hc 0 (by simp), hc 1 (by simp), hc 2 (by simp), hc 3 (by simp), hc 4 (by simp), hc 5 (by simp)⟩

end Go.Proofs.YtkhcdbafcigeoaaDoor

/-
  The chapter's examples, as every statement asks them.
-/
namespace Go.Proofs.YtkhcdbafcigeoaaDoor
open Go Go.RowKit Go.Sort
set_option maxRecDepth 100000
set_option maxHeartbeats 1600000

def aw0 : Dsk := newDsk 100
def aw1 : Dsk := (aw0.append [97] [120, 121, 122]).1
def aw2 : Dsk := (aw1.sync [97]).1
def aw3 : Dsk := (aw2.append [97] [117, 118]).1
def aw4 : Dsk := (aw3.append [98] [119]).1
def aw5 : Dsk := { aw4 with files := crashF (sortS (namesF aw4.files)) [1] aw4.files, arm := -1, down := false }
def aw6 : Dsk := (aw5.rename [97] [98]).1
def aw7 : Dsk := aw6.armed 1
def aw8 : Dsk := (aw7.sync [98]).1
def aw9 : Dsk := (aw8.remove [98]).1
def aw10 : Dsk := { aw9 with files := crashF (sortS (namesF aw9.files)) [] aw9.files, arm := -1, down := false }
def aw11 : Dsk := (aw10.append [65] []).1

theorem op_eq {d' : Dsk} {r : Dsk × Int} {x : Int} (h1 : r.1 = d') (h2 : r.2 = x) : r = (d', x) := Prod.ext h1 h2
theorem r1 : aw0.append [97] [120, 121, 122] = (aw1, 0) := op_eq rfl (by decide +kernel)
theorem r2 : aw1.sync [97] = (aw2, 0) := op_eq rfl (by decide +kernel)
theorem r3 : aw2.append [97] [117, 118] = (aw3, 0) := op_eq rfl (by decide +kernel)
theorem r4 : aw3.append [98] [119] = (aw4, 0) := op_eq rfl (by decide +kernel)
theorem r5 : aw4.crash [1] = aw5 := crash_eq _ _
theorem r6 : aw5.rename [97] [98] = (aw6, 0) := op_eq rfl (by decide +kernel)
theorem r7 : aw6.armed 1 = aw7 := rfl
theorem r8 : aw7.sync [98] = (aw8, 0) := op_eq rfl (by decide +kernel)
theorem r9 : aw8.remove [98] = (aw9, 15) := op_eq rfl (by decide +kernel)
theorem r10 : aw9.crash [] = aw10 := crash_eq _ _
theorem r11 : aw10.append [65] [] = (aw11, 13) := op_eq rfl (by decide +kernel)
theorem q1 : (fileOf aw4.files [97]).bytes.length = 5 ∧ (fileOf aw4.files [97]).synced = 3 ∧ usedF aw4.files = 6 := by decide +kernel
theorem q2 : aw5.read [97] = ([120, 121, 122, 117], 0) ∧ aw5.read [98] = ([], 0) := by decide +kernel
theorem q3 : aw6.list = [[98]] ∧ aw6.read [98] = ([120, 121, 122, 117], 0) := by rw [list_eq]; decide +kernel
theorem q4 : aw9.read [98] = ([], 15) ∧ aw9.down = true := by decide +kernel
theorem q5 : aw10.read [98] = ([120, 121, 122, 117], 0) := by decide +kernel

theorem awake_ok (w : World) : Calls Tryd.prog 6 #[] w fun e w' => e = .returned (.bool true) ∧ Nw w w' := by
  have kc := fun (w : World) (C : Array Value) (n c : Nat) => Go.Lib.run_convert_bytes_const (P := Tryd.prog) w 33 5 C n c Tryd.underlying33 Tryd.underlying5
  go_enter Tryd.func6, Tryd.ntmps6
  go_wp2_with fail
  refine (Has.new 100 _ (by omega) (by omega)).mono ?_
  rintro e w1 ⟨b, rfl, H1⟩
  go_wp2_with fail
  refine (H1.append' [97] [120, 121, 122] _ _ (rd_lit w1 _ _ _ _ 3 rfl (by decide) (by decide)) (.inr rfl) (by decide) (by decide) r1).mono ?_
  rintro e w2 ⟨rfl, H2⟩
  go_wp2_with fail
  refine (H2.sync [97] r2).mono ?_
  rintro e w3 ⟨rfl, H3⟩
  go_wp2_with fail
  refine (H3.append' [97] [117, 118] _ _ (rd_lit w3 _ _ _ _ 2 rfl (by decide) (by decide)) (.inr rfl) (by decide) (by decide) r3).mono ?_
  rintro e w4 ⟨rfl, H4⟩
  go_wp2_with fail
  refine (H4.append' [98] [119] _ _ (rd_lit w4 _ _ _ _ 1 rfl (by decide) (by decide)) (.inr rfl) (by decide) (by decide) r4).mono ?_
  rintro e w5 ⟨rfl, H5⟩
  go_wp2_with fail
  refine (H5.size [97] q1.1).mono ?_
  rintro e w6 ⟨rfl, H6⟩
  go_wp2_with fail
  refine (H6.synced [97] q1.2.1).mono ?_
  rintro e w7 ⟨rfl, H7⟩
  go_wp2_with fail
  refine (H7.used q1.2.2).mono ?_
  rintro e w8 ⟨rfl, H8⟩
  go_wp2_with fail
  refine (H8.crash' _ [1] _ (rd_lit w8 _ _ _ _ 1 rfl (by decide) (by decide)) (.inr rfl) r5).mono ?_
  rintro e w9 ⟨rfl, H9⟩
  go_wp2_with fail
  refine (H9.reads [97] [120, 121, 122, 117] q2.1).mono ?_
  rintro e w10 ⟨rfl, H10⟩
  go_wp2_with fail
  refine (H10.reads [98] [] q2.2).mono ?_
  rintro e w11 ⟨rfl, H11⟩
  go_wp2_with fail
  refine (H11.rename [97] [98] (by decide) r6).mono ?_
  rintro e w12 ⟨rfl, H12⟩
  go_wp2_with fail
  refine (H12.list q3.1).mono ?_
  rintro e w13 ⟨v13, rfl, hv13, H13, -⟩
  go_wp2_with fail
  refine (SameTexts_ok (hv13.nw ((Nw.refl w13).alloc _)) (rd_lit (f := encStr) w13 _ _ [[98]] _ 1 rfl (by decide) (by decide))).mono ?_
  rintro e w14 ⟨rfl, hw14⟩
  have H14 := (H13.nw ((Nw.refl w13).alloc _)).nw hw14
  clear hw14 hv13
  go_wp2_with fail
  refine (H14.reads [98] [120, 121, 122, 117] q3.2).mono ?_
  rintro e w15 ⟨rfl, H15⟩
  go_wp2_with fail
  refine (H15.arm 1 (by omega) r7).mono ?_
  rintro e w16 ⟨rfl, H16⟩
  go_wp2_with fail
  refine (H16.sync [98] r8).mono ?_
  rintro e w17 ⟨rfl, H17⟩
  go_wp2_with fail
  refine (H17.remove [98] r9).mono ?_
  rintro e w18 ⟨rfl, H18⟩
  go_wp2_with fail
  refine (H18.read [98] q4.1).mono ?_
  rintro e w19 ⟨v19, rfl, -, H19, -⟩
  go_wp2_with fail
  refine (H19.down q4.2).mono ?_
  rintro e w20 ⟨rfl, H20⟩
  go_wp2_with fail
  refine (H20.crash (.slice none 0 0) [] (.inl ⟨_, rfl, rfl⟩) r10).mono ?_
  rintro e w21 ⟨rfl, H21⟩
  go_wp2_with fail
  refine (H21.reads [98] [120, 121, 122, 117] q5).mono ?_
  rintro e w22 ⟨rfl, H22⟩
  go_wp2_with fail
  refine (H22.append [65] [] (.slice none 0 0) (.inl ⟨_, rfl, rfl⟩) (by decide) (by decide) r11).mono ?_
  rintro e w23 ⟨rfl, H23⟩
  go_wp2
  go_ret
  exact ⟨rfl, H23.base⟩
end Go.Proofs.YtkhcdbafcigeoaaDoor
