/-
  Texts merged by a program of this claim's: Grd, Rgn, Piece, RgnO, Tab, Iter, WordsPlain, WordsA, ShelfW.
-/
import Derived.Test.YtcmaedoolinijaaGreatDoorM1
import Derived.WalkKit
import Derived.Laws.RangeString
import Derived.Lib.IndexMore
import Derived.Lib.IndexLaws
import Derived.Test.YtcmaedoolinijaaGreatDoorChecked
import Derived.WalkSpells
import Derived.Shelf.Strings.Builder1
import Derived.Shelf.Strings.Builder2
import Derived.Shelf.Strings.OnBuilder
import Derived.Shelf.Small.Strs
import Derived.Shelf.Strings.BuilderF
import Derived.Shelf.Strconv.Itoa0
import Derived.Shelf.Strconv.Itoa1
import Derived.Shelf.LaysM
import Derived.Shelf.Strconv.Itoa2
import Derived.Shelf.Strconv.Itoa3
import Derived.Shelf.Strconv.Itoa4
import Derived.Shelf.Strconv.ParseIntEmpty
import Derived.Shelf.Strconv.Clone
import Derived.Shelf.Strconv.SyntaxError
import Derived.Shelf.LaysC
import Derived.Shelf.Strconv.ToError
import Derived.Shelf.Strconv.Lower
import Derived.Shelf.Strconv.ParseUint10
import Derived.Shelf.Strconv.ParseUint10Empty
import Derived.Shelf.Strconv.ParseUint10Any
import Derived.Shelf.Strconv.ParseInt10
import Derived.Shelf.Strconv.RangeError
import Derived.Shelf.Strconv.ToErrorRange
import Derived.Shelf.Strconv.ParseUintEmpty
import Derived.Shelf.Strconv.ParseUint10b64
import Derived.Shelf.Strconv.ParseUint10b32
import Derived.Shelf.Strconv.ParseUint10b16
import Derived.Shelf.Strconv.ParseUint10b8
import Derived.Shelf.Strconv.ParseUint10At
import Derived.Shelf.Strconv.ParseInt10At64
import Derived.Shelf.Strconv.ParseInt10At32
import Derived.Shelf.Strconv.ParseInt10At16
import Derived.Shelf.Strconv.ParseInt10At8
import Derived.Shelf.Strconv.ParseInt10All
import Derived.Shelf.Strconv.ParseIntPublic10
import Derived.Shelf.Strings.Search1
import Derived.Shelf.Strings.Search2
import Derived.Shelf.Strings.Search3
import Derived.Shelf.Strings.Cut
import Derived.Shelf.Strings.Count
import Derived.Shelf.Strings.Shaped
import Derived.Shelf.Strings.Split
import Derived.Shelf.Strings.Fields
import Derived.Shelf.Strings.Replace
import Derived.Shelf.Unicode.Latin
import Derived.Shelf.Unicode.DecodeSlow
import Derived.Shelf.Unicode.Is16White
import Derived.Shelf.Unicode.IsSpaceAny
import Derived.Shelf.Unicode.Is16Any
import Derived.Shelf.Unicode.Is32Any
import Derived.Shelf.Unicode.ExclAny
import Derived.Shelf.Slices.Turned
import Derived.Test.YtcmaedoolinijaaGreatDoorProg
namespace Go.Proofs.YtcmaedoolinijaaGreatDoor
open Go Go.RowKit
section
variable {P : Program} {L : List Oper} {C : World → Prop} {Q : Exit → Act → World → Prop}
theorem yielded_at {tmps : Array Value} {j dj : Nat} {oj : Oper} {x : Bool} (hj : L[j]? = some oj) (hjd : oj.dst = some dj) (hy : tmps[dj]? = some (.bool x)) : yielded L.toArray tmps j = some x := by
  unfold yielded
  rw [at_list hj]
  simp only [Option.bind_some, hjd, hy]
theorem put_at {a : Act} {d dj : Nat} {v : Value} (h : d ≠ dj) : (a.put (some d) v).tmps[dj]? = a.tmps[dj]? := by
  simp [Act.put, h]
end
end Go.Proofs.YtcmaedoolinijaaGreatDoor

namespace Go.Proofs.YtcmaedoolinijaaGreatDoor
open Go Go.RowKit
def puts (A : Act) : List (Nat × Value) → Act
  | [] => A
  | (d, v) :: l => (puts A l).put (some d) v
section
variable {A : Act} {l : List (Nat × Value)} {t : Nat} {v : Value}
theorem eval_of {a : Act} (h : a.tmps[t]? = some v) : a.eval (.tmp t) = v := by
  unfold Act.eval
  simp only [Array.getD_eq_getD_getElem?, h, Option.getD_some]
variable {P : Program} {L : List Oper} {C : World → Prop} {Q : Exit → Act → World → Prop} {K : Act → World → Prop} {w : World} {i : Nat} {st : List Stp} {o : Oper} {d : Nat}
theorem w_none {f : Nat → Option Bool} (h : o.guard = none) : Region.wanted o f = true := by unfold Region.wanted; rw [h]
abbrev Consts (ρ : Operand → Value) : Prop := (∀ c, ρ (.const c) = c) ∧ (∀ f, ρ (.func f) = .func (.func f) #[] #[])
end
end Go.Proofs.YtcmaedoolinijaaGreatDoor

namespace Go.Proofs.YtcmaedoolinijaaGreatDoor
open Go
def regionOf (n : Nat) : Code → Option Code
  | .region k ops d => if k = n then some (.region k ops d) else none
  | .seq a b => match regionOf n a with
    | some c => some c
    | none => regionOf n b
  | .cond _ a b => match regionOf n a with
    | some c => some c
    | none => regionOf n b
  | .block _ c => regionOf n c
  | .loop c => regionOf n c
  | .scope c => regionOf n c
  | _ => none
def PanicOk (Q : Exit → Act → World → Prop) : Prop := ∀ (c : List PanicEntry) (a : Act) (d : Tmp) (v : Value) (w : World), Q (.panic c) (a.put (some d) v) w → Q (.panic c) a w
end Go.Proofs.YtcmaedoolinijaaGreatDoor

namespace Go.Proofs.YtcmaedoolinijaaGreatDoor
open Go Go.RowKit Go.Sort
set_option maxRecDepth 100000
theorem forall_nil {p : Nat × Value → Prop} : ∀ x ∈ ([] : List (Nat × Value)), p x := fun _ h => by cases h
theorem forall_cons {p : Nat × Value → Prop} {a : Nat × Value} {l : List (Nat × Value)} (h : p a) (h' : ∀ x ∈ l, p x) : ∀ x ∈ a :: l, p x := fun x hx => by
  rcases List.mem_cons.1 hx with rfl | hx
  · exact h
  · exact h' x hx
section
variable {L : List Oper}
theorem wanted_un {o oj : Oper} {tmps : Array Value} {j dj : Nat} {b : Bool} (hg : o.guard = some (j, b)) (hj : L[j]? = some oj) (hjd : oj.dst = some dj) (hy : tmps[dj]? = some undef) : Region.wanted o (yielded L.toArray tmps) = false := by
  unfold Region.wanted
  rw [hg]
  have : yielded L.toArray tmps j = none := by
    unfold yielded
    rw [at_list hj]
    simp only [Option.bind_some, hjd, hy]
    rfl
  simp only [this]
  cases b <;> rfl
end
end Go.Proofs.YtcmaedoolinijaaGreatDoor

namespace Go.Proofs.YtcmaedoolinijaaGreatDoor
open Go Go.RowKit Go.Sort
set_option maxRecDepth 100000
structure Ent where
  p : Value → World → Prop
  m : ∀ v w w', p v w → Nw w w' → p v w'
def isV (V : Value) : Ent := ⟨fun v _ => v = V, fun _ _ _ h _ => h⟩
def anyV : Ent := ⟨fun _ _ => True, fun _ _ _ h _ => h⟩
def got (tab : List Ent) (i : Nat) : Ent := tab[i]?.getD anyV
section
variable {P : Program} {L lit : List Oper} {o : Oper} {a A0 : Act} {w w5 : World} {R : Value → World → Prop} {dst : List Nat} {i : Nat}
def OpOk (P : Program) (L : List Oper) (o : Oper) (a : Act) (w : World) (R : Value → World → Prop) : Prop :=
  (Region.wanted o (yielded L.toArray a.tmps) = false ∧ R undef w) ∨
  (Region.wanted o (yielded L.toArray a.tmps) = true ∧ ((∃ v w', (execOp a.eval o).run P w = .ok (.value v) w' ∧ R v w') ∨ ∃ f args, (execOp a.eval o).run P w = .ok (.enter f args) w ∧ Calls P f args w fun e w' => ∃ v, e = .returned v ∧ R v w'))
theorem OpOk.wp {Q : Exit → Act → World → Prop} {K : Act → World → Prop} {d : Nat} (ho : L[i]? = some o) (hd : o.dst = some d) (h : OpOk P L o a w R) (hK : ∀ v w', R v w' → K (a.put (some d) v) w') : wpOp P L.toArray Q i K a w := by
  simp only [wpOp, at_list ho]
  rcases h with ⟨hw, h⟩ | ⟨hw, ⟨v, w', hr, h⟩ | ⟨f, args, hr, hc⟩⟩
  · rw [if_neg (by rw [hw]; simp), hd]
    exact hK _ _ h
  · rw [if_pos hw]
    refine .inl ?_
    unfold Oper.wp
    rw [hr]
    simp only [Oper.upon]
    rw [hd]
    exact hK _ _ h
  · rw [if_pos hw]
    refine .inl ?_
    unfold Oper.wp
    rw [hr]
    simp only [Oper.upon]
    refine hc.mono fun e w' he => ?_
    obtain ⟨v, rfl, h⟩ := he
    rw [hd]
    exact hK _ _ h
theorem OpOk.skip (h : Region.wanted o (yielded L.toArray a.tmps) = false) (hR : R undef w) : OpOk P L o a w R := .inl ⟨h, hR⟩
theorem OpOk.val (v : Value) (h : Region.wanted o (yielded L.toArray a.tmps) = true) (fs : List (Nat × Value)) (hf : ∀ x ∈ fs, a.tmps[x.1]? = some x.2)
    (hv : ∀ ρ : Operand → Value, (∀ x ∈ fs, ρ (.tmp x.1) = x.2) → Consts ρ → (execOp ρ o).run P w = .ok (.value v) w) (hR : R v w) : OpOk P L o a w R :=
  .inr ⟨h, .inl ⟨v, w, hv _ (fun x hx => eval_of (hf x hx)) ⟨fun _ => rfl, fun _ => rfl⟩, hR⟩⟩
theorem OpOk.made (v : Value) (w' : World) (h : Region.wanted o (yielded L.toArray a.tmps) = true) (fs : List (Nat × Value)) (hf : ∀ x ∈ fs, a.tmps[x.1]? = some x.2)
    (hv : ∀ ρ : Operand → Value, (∀ x ∈ fs, ρ (.tmp x.1) = x.2) → Consts ρ → (execOp ρ o).run P w = .ok (.value v) w') (hR : R v w') : OpOk P L o a w R :=
  .inr ⟨h, .inl ⟨v, w', hv _ (fun x hx => eval_of (hf x hx)) ⟨fun _ => rfl, fun _ => rfl⟩, hR⟩⟩
theorem OpOk.call {f : FuncId} {args : Array Value} {R' : Ending → World → Prop} (h : Region.wanted o (yielded L.toArray a.tmps) = true) (fs : List (Nat × Value)) (hf : ∀ x ∈ fs, a.tmps[x.1]? = some x.2)
    (hv : ∀ ρ : Operand → Value, (∀ x ∈ fs, ρ (.tmp x.1) = x.2) → Consts ρ → (execOp ρ o).run P w = .ok (.enter f args) w) (hc : Calls P f args w R') (hR : ∀ e w', R' e w' → ∃ v, e = .returned v ∧ R v w') : OpOk P L o a w R :=
  .inr ⟨h, .inr ⟨f, args, hv _ (fun x hx => eval_of (hf x hx)) ⟨fun _ => rfl, fun _ => rfl⟩, hc.mono hR⟩⟩
theorem tab_yielded {tmps : Array Value} {j dj : Nat} {x : Bool} (hL : L.map Oper.dst = dst.map some) (hj : dst[j]? = some dj) (hy : tmps[dj]? = some (.bool x)) : yielded L.toArray tmps j = some x := by
  have h : (L.map Oper.dst)[j]? = (dst.map some)[j]? := by rw [hL]
  rw [List.getElem?_map, List.getElem?_map, hj] at h
  cases h2 : L[j]? with
  | none => rw [h2] at h; cases h
  | some oj => rw [h2] at h; exact yielded_at h2 (by simpa using h) hy
theorem tab_yes {tmps : Array Value} {j dj : Nat} {b : Bool} (hL : L.map Oper.dst = dst.map some) (hg : o.guard = some (j, b)) (hj : dst[j]? = some dj) (hy : tmps[dj]? = some (.bool b)) : Region.wanted o (yielded L.toArray tmps) = true := by
  unfold Region.wanted
  rw [hg]
  simp only [tab_yielded hL hj hy]
  cases b <;> rfl
theorem tab_no {tmps : Array Value} {j dj : Nat} {b : Bool} (hL : L.map Oper.dst = dst.map some) (hg : o.guard = some (j, b)) (hj : dst[j]? = some dj) (hy : tmps[dj]? = some (.bool (!b))) : Region.wanted o (yielded L.toArray tmps) = false := by
  unfold Region.wanted
  rw [hg]
  simp only [tab_yielded hL hj hy]
  cases b <;> rfl
theorem tab_un {tmps : Array Value} {j dj : Nat} {b : Bool} (hL : L.map Oper.dst = dst.map some) (hg : o.guard = some (j, b)) (hj : dst[j]? = some dj) (hy : tmps[dj]? = some undef) : Region.wanted o (yielded L.toArray tmps) = false := by
  have h : (L.map Oper.dst)[j]? = (dst.map some)[j]? := by rw [hL]
  rw [List.getElem?_map, List.getElem?_map, hj] at h
  cases h2 : L[j]? with
  | none => rw [h2] at h; cases h
  | some oj => rw [h2] at h; exact wanted_un hg h2 (by simpa using h) hy
theorem wp_region_tab {id : Nat} {Q : Exit → Act → World → Prop} (dst : List Nat) (tab : List Ent) (hm : P.follows .mixedOrders = true) (hb : Region.backB lit.toArray = true) (hdst : lit.map Oper.dst = dst.map some) (hnd : dst.Nodup) (hin : ∀ d ∈ dst, d < A0.tmps.size)
    (hs : ∀ L : List Oper, L.map Oper.dst = dst.map some → EachO (fun i o => ∀ a w, Nw w5 w → (∀ t v, dst.contains t = false → A0.tmps[t]? = some v → a.tmps[t]? = some v) → (∀ j d, waits o j = true → dst[j]? = some d → ∃ v, a.tmps[d]? = some v ∧ (got tab j).p v w) →
      OpOk P L o a w fun v w' => Nw w w' ∧ (got tab i).p v w') 0 lit)
    (he : ∀ a w, Nw w5 w → a.tmps.size = A0.tmps.size → a.defers = A0.defers → (∀ t, dst.contains t = false → a.tmps[t]? = A0.tmps[t]?) → (∀ i d, dst[i]? = some d → ∃ v, a.tmps[d]? = some v ∧ (got tab i).p v w) → Q .normal a w) :
    (Code.region id lit.toArray true).wp P Q A0 w5 := by
  have hlen : lit.length = dst.length := by have := congrArg List.length hdst; simpa using this
  refine wp_region_any hm (wpAny_inv (fun D a w => Nw w5 w ∧ a.tmps.size = A0.tmps.size ∧ a.defers = A0.defers ∧ (∀ t, dst.contains t = false → a.tmps[t]? = A0.tmps[t]?) ∧ ∀ i d, D i → dst[i]? = some d → ∃ v, a.tmps[d]? = some v ∧ (got tab i).p v w) hb
    (fun D i o ho h1 h2 a w h3 => ?_) (fun D a w h1 h2 => ?_) _ _ (fun _ => False) A0 w5.drew (by simp) (fun i hi => ?_) (by simp) ?_)
  · obtain ⟨k1, k2, k3, k4, k5⟩ := h3
    have ho' : lit[i]? = some o := by simpa using ho
    have hd : ∃ d, dst[i]? = some d ∧ o.dst = some d := by
      have h : (lit.map Oper.dst)[i]? = (dst.map some)[i]? := by rw [hdst]
      rw [List.getElem?_map, List.getElem?_map, ho'] at h
      cases h2 : dst[i]? with
      | none => rw [h2] at h; cases h
      | some d => rw [h2] at h; exact ⟨d, rfl, by simpa using h⟩
    obtain ⟨d, hd, hod⟩ := hd
    have hdm : d ∈ dst := List.mem_of_getElem? hd
    have hE := of_each (hs lit hdst) i o ho' a w k1 (fun t v ht hv => by rw [k4 t ht]; exact hv) (fun j dj hj hdj => k5 j dj (waits_of h1 j hj) hdj)
    refine hE.wp ho' hod fun v w' ⟨n, hp⟩ => ⟨k1.trans n, ?_, ?_, ?_, ?_⟩
    · simp [Act.put, k2]
    · simp [Act.put, k3]
    · intro t ht
      have hne : d ≠ t := fun e => by
        subst e
        have : dst.contains d = true := by simpa using hdm
        rw [this] at ht
        cases ht
      rw [put_at hne]
      exact k4 t ht
    · intro j dj hj hdj
      by_cases hji : j = i
      · subst hji
        rw [hd] at hdj
        cases hdj
        have hlt : d < a.tmps.size := by rw [k2]; exact hin d hdm
        exact ⟨v, by simp [Act.put, hlt], hp⟩
      · have hne : d ≠ dj := fun e => by
          subst e
          obtain ⟨p1, q1⟩ := List.getElem?_eq_some_iff.1 hd
          obtain ⟨p2, q2⟩ := List.getElem?_eq_some_iff.1 hdj
          exact hji ((List.getElem_inj hnd).1 (q2.trans q1.symm))
        obtain ⟨u, e1, e2⟩ := k5 j dj (hj.resolve_left hji) hdj
        exact ⟨u, by rw [put_at hne]; exact e1, (got tab j).m _ _ _ e2 n⟩
  · obtain ⟨k1, k2, k3, k4, k5⟩ := h2
    refine he a w k1 k2 k3 k4 fun i d hd => k5 i d (h1 i ?_) hd
    obtain ⟨p1, -⟩ := List.getElem?_eq_some_iff.1 hd
    simp only [List.size_toArray]
    omega
  · rw [getD_replicate_false]; simp
  · exact ⟨(Nw.refl w5).drew, rfl, rfl, fun _ _ => rfl, fun _ _ h => h.elim⟩
def laid (dst : List Nat) (l : List Value) (S : Nat → Value) : List Value := l.zipIdx.map fun x => bif dst.contains x.2 then S x.2 else x.1
theorem frame_lit {l : List Value} (hA : A0 = ⟨l.toArray, []⟩) (hsz : a.tmps.size = A0.tmps.size) (hdf : a.defers = A0.defers) (old : ∀ t, dst.contains t = false → a.tmps[t]? = A0.tmps[t]?) {l' : List Value} (hl : laid dst l (fun t => (a.tmps[t]?).getD undef) = l') : a = ⟨l'.toArray, []⟩ := by
  subst hA hl
  obtain ⟨tm, df⟩ := a
  simp only at hsz hdf old ⊢
  subst hdf
  congr 1
  apply Array.ext_getElem?
  intro t
  simp only [laid]
  by_cases ht : t < l.length
  · have ht' : t < tm.size := by rw [hsz]; simpa using ht
    have e : ((l.zipIdx.map fun x => bif dst.contains x.2 then tm[x.2]?.getD undef else x.1).toArray)[t]? = some (bif dst.contains t then tm[t]?.getD undef else l[t]) := by
      rw [List.getElem?_toArray, List.getElem?_map, List.getElem?_zipIdx, List.getElem?_eq_getElem ht]
      simp
    rw [e]
    cases hc : dst.contains t with
    | true => simp [ht']
    | false =>
      have := old t hc
      rw [this]
      simp [ht]
  · rw [Array.getElem?_eq_none (by rw [hsz]; simpa using ht), Array.getElem?_eq_none (by simpa [laid] using ht)]
theorem tab_frame {Q : Exit → Act → World → Prop} {a b : Act} {w : World} (h : a = b) (h' : Q .normal b w) : Q .normal a w := h ▸ h'
end
theorem name_act {P : Program} {c : Code} {Q : Exit → Act → World → Prop} {a : Act} {w : World} (h : ∀ B : Act, B = a → Code.wp P c Q B w) : Code.wp P c Q a w := h a rfl
end Go.Proofs.YtcmaedoolinijaaGreatDoor

namespace Go.Proofs.YtcmaedoolinijaaGreatDoor
open Go Go.RowKit
def iterTo (w : World) (b : Nat) (s : ByteArray) (pos : Nat) : World := { w with heap := w.heap.setIfInBounds b (.stringIter s pos) }
section
variable {P : Program} {w : World} {b : Nat} {s : ByteArray} {pos : Nat}
theorem run_next_at (ty : TypeId) (hb : w.heap[b]? = some (.stringIter s pos)) (h : pos < s.size) (ha : (s[pos]'h).toNat < 128) :
    (Instr.next (.pointer (some ⟨b, 0, none⟩)) true ty).run P w = .ok (.tuple #[.bool true, .int .i64 pos, .int .i32 (s[pos]'h).toNat]) (iterTo w b s (pos + 1)) := by
  simp only [Instr.next, getObj, setObj, Sem.run_bind, Sem.run, hb, Result.andThen, h, if_true, decode_ascii s pos h ha, iterTo]
  simp [goInt, Sem.run, hb]
theorem run_next_over (ty : TypeId) (hb : w.heap[b]? = some (.stringIter s pos)) (h : ¬ pos < s.size) :
    (Instr.next (.pointer (some ⟨b, 0, none⟩)) true ty).run P w = .ok (.tuple #[.bool false]) w := by
  simp [Instr.next, getObj, Sem.run, hb, h]
@[simp] theorem size_iterTo (p : Nat) : (iterTo w b s p).heap.size = w.heap.size := by simp [iterTo]
theorem iterTo_at (hb : b < w.heap.size) (p : Nat) : (iterTo w b s p).heap[b]? = some (.stringIter s p) := by simp [iterTo, hb]
theorem iterTo_other {k : Nat} (hk : k ≠ b) (p : Nat) : (iterTo w b s p).heap[k]? = w.heap[k]? := by
  simp [iterTo, Array.getElem?_setIfInBounds_ne (Ne.symm hk)]
theorem iterTo_only {S : Nat → Prop} {v : World} (h : Only S v w) (hb : b < v.heap.size → S b) (p : Nat) : Only S v (iterTo w b s p) :=
  h.trans' (T := fun k => k = b) ⟨rfl, rfl, rfl, by simp, fun k _ hn => iterTo_other hn p⟩ (fun k hk e => by subst e; exact hb hk)
theorem iterTo_nw {v : World} (h : Nw v w) (hb : v.heap.size ≤ b) (p : Nat) : Nw v (iterTo w b s p) := iterTo_only h (fun h => absurd h (by omega)) p
end
def tabA (f : Nat → Nat) : Array Value := ((List.range 256).map fun i => Value.int .u8 (f i : Int)).toArray
@[simp] theorem size_tabA (f : Nat → Nat) : (tabA f).size = 256 := by simp [tabA]
theorem get_tabA (f : Nat → Nat) (i : Nat) (h : i < 256) : (tabA f)[i]? = some (.int .u8 (f i : Int)) := by
  simp [tabA, h]
theorem set_tabA (f : Nat → Nat) (i c : Nat) : (tabA f).setIfInBounds i (.int .u8 (c : Int)) = tabA (fun j => if j = i then c else f j) := by
  apply Array.ext_getElem?
  intro j
  rw [Array.getElem?_setIfInBounds]
  by_cases hij : i = j
  · subst hij
    by_cases hi : i < 256
    · rw [if_pos rfl, if_pos (by simpa using hi), get_tabA _ _ hi, if_pos rfl]
    · rw [if_pos rfl, if_neg (by simpa using hi)]
      exact (Array.getElem?_eq_none (by simpa using hi)).symm
  · rw [if_neg hij]
    by_cases hj : j < 256
    · rw [get_tabA _ _ hj, get_tabA _ _ hj, if_neg (Ne.symm hij)]
    · rw [Array.getElem?_eq_none (by simpa using hj), Array.getElem?_eq_none (by simpa using hj)]
theorem tabA_congr {f g : Nat → Nat} (h : ∀ i, i < 256 → f i = g i) : tabA f = tabA g := by
  unfold tabA
  congr 1
  exact List.map_congr_left fun i hi => by rw [h i (List.mem_range.1 hi)]
end Go.Proofs.YtcmaedoolinijaaGreatDoor

namespace Go.Proofs.YtcmaedoolinijaaGreatDoor
set_option maxRecDepth 100000
open Go Go.Lib
def clsN (b : Nat) : Nat :=
  if b = 9 ∨ b = 10 ∨ b = 13 ∨ b = 32 then 1 else if b = 35 then 2 else if 48 ≤ b ∧ b ≤ 57 then 3
  else if 97 ≤ b ∧ b ≤ 122 ∨ 65 ≤ b ∧ b ≤ 90 ∨ b = 95 then 4
  else if b = 60 ∨ b = 43 ∨ b = 45 ∨ b = 42 ∨ b = 40 ∨ b = 41 ∨ b = 123 ∨ b = 125 ∨ b = 59 ∨ b = 61 then 5 else 0
theorem clsN_lt (b : Nat) : clsN b < 6 := by unfold clsN; repeat (first | omega | split)
theorem clsN_ten {b : UInt8} (h : clsN b.toNat = 2) : b = 35 := by
  unfold clsN at h
  split at h
  · simp at h
  split at h
  · rename_i h2; exact UInt8.toNat_inj.1 (by simpa using h2)
  repeat' (split at h)
  all_goals omega
def passB : Bool → List UInt8 → Nat
  | _, [] => 0
  | true, b :: l => if b = 10 then 1 + passB false l else 1 + passB true l
  | false, b :: l => if clsN b.toNat = 1 then 1 + passB false l else if clsN b.toNat = 2 then 1 + passB true l else 0
theorem passB_le : ∀ (m : Bool) (l : List UInt8), passB m l ≤ l.length
  | _, [] => by simp [passB]
  | true, b :: l => by
    have h1 := passB_le true l
    have h2 := passB_le false l
    simp only [passB, List.length_cons]
    split <;> omega
  | false, b :: l => by
    have h1 := passB_le true l
    have h2 := passB_le false l
    simp only [passB, List.length_cons]
    split
    · omega
    split <;> omega
theorem passB_blank {b : UInt8} {l : List UInt8} (h : clsN b.toNat = 1) : passB false (b :: l) = 1 + passB false l := by simp [passB, h]
theorem passB_remark {b : UInt8} {l : List UInt8} (h : clsN b.toNat = 2) : passB false (b :: l) = passB true (b :: l) := by
  have e := clsN_ten h
  subst e
  rw [passB, passB, if_neg (by decide), if_pos h, if_neg (by decide)]
theorem passB_stop {b : UInt8} {l : List UInt8} (h1 : clsN b.toNat ≠ 1) (h2 : clsN b.toNat ≠ 2) : passB false (b :: l) = 0 := by simp [passB, h1, h2]
theorem passB_end : ∀ (l : List UInt8), indexByte l 10 = -1 → passB true l = l.length
  | [], _ => rfl
  | b :: l, h => by
    have hb : b ≠ 10 := fun e => (indexByte_none h 0) (by simp [e])
    have hl : indexByte l 10 = -1 := by
      simp only [indexByte] at h
      split at h
      · simp at h
      · split at h
        · rename_i h1; simpa using h1
        · have := indexByte_ge l 10; omega
    have := passB_end l hl
    simp only [passB, hb, if_false, List.length_cons]
    omega
theorem passB_line : ∀ (k : Nat) (l : List UInt8), indexByte l 10 = (k : Int) → passB true l = k + passB false (l.drop k)
  | k, [], h => by simp [indexByte] at h
  | 0, b :: l, h => by
    have hb : b = 10 := by have := (indexByte_some (o := 0) h).1; simpa using this
    subst hb
    rw [passB, if_pos rfl, List.drop_zero, passB, if_pos (by decide)]
    omega
  | k + 1, b :: l, h => by
    have hb : b ≠ 10 := fun e => (indexByte_some (o := k + 1) h).2 0 (by omega) (by simp [e])
    have hl : indexByte l 10 = (k : Int) := by
      simp only [indexByte] at h
      split at h
      · simp at h
        omega
      · split at h
        · omega
        · omega
    have := passB_line k l hl
    simp only [passB, hb, if_false, List.drop_succ_cons]
    omega
def more4 (b : UInt8) (c : UInt8) : Bool := clsN c.toNat = 3 || (clsN c.toNat = 4 && clsN b.toNat = 4)
def endB : List UInt8 → Nat
  | [] => 0
  | b :: l => if clsN b.toNat = 5 then (if (b :: l).take 2 = [45, 62] ∨ (b :: l).take 2 = [61, 61] then 2 else 1) else 1 + (l.takeWhile (more4 b)).length
theorem endB_le : ∀ (l : List UInt8), endB l ≤ l.length
  | [] => by simp [endB]
  | b :: l => by
    have h : (l.takeWhile (more4 b)).length ≤ l.length := (List.takeWhile_prefix _).length_le
    simp only [endB, List.length_cons]
    split
    · split
      · rename_i h2
        cases l with
        | nil => simp at h2
        | cons c l => simp
      · omega
    · omega
theorem endB_pos {l : List UInt8} (h : l ≠ []) : 0 < endB l := by
  cases l with
  | nil => exact absurd rfl h
  | cons b l => simp only [endB]; repeat (first | omega | split)
def numGo : List UInt8 → Int → Option Int
  | [], n => some n
  | c :: l, n => if n > (9223372036854775807 - (c - 48).toNat) / 10 then none else numGo l (n * 10 + (c - 48).toNat)
theorem numGo_in : ∀ {l : List UInt8} {n m : Int}, 0 ≤ n → n < 9223372036854775808 → numGo l n = some m → 0 ≤ m ∧ m < 9223372036854775808
  | [], n, m, h0, h1, h => by simp only [numGo, Option.some.injEq] at h; omega
  | c :: l, n, m, h0, h1, h => by
    simp only [numGo] at h
    split at h
    · simp at h
    · rename_i hc
      exact numGo_in (by omega) (by omega) h
def keysB : List UInt8 := " acquire add arrive barrier broadcast cond do done else if lock lockfor loop mutex once put queue read release rlock runlock rwlock sem set signal take thread tryacquire trylock unlock var wait waitfor waiton wlock write wunlock ".toUTF8.data.toList
structure Tok where
  kind : Nat
  s : List UInt8
  n : Int
  line : Int
  at_ : Int
  end_ : Int
deriving DecidableEq
def Tok.none : Tok := ⟨0, [], 0, 0, 0, 0⟩
def tokF (s : List UInt8) (line a e : Int) : Tok × Int × Int :=
  let c := clsN (s.headD 0).toNat
  if c = 3 then (match numGo s 0 with | some n => (⟨1, [], n, line, a, e⟩, 0, 0) | .none => (Tok.none, 100, line))
  else if c = 4 then (⟨if Lib.contains keysB (32 :: s ++ [32]) then 3 else 2, s, 0, line, a, e⟩, 0, 0)
  else if c = 5 ∧ s ≠ [61] then (⟨4, s, 0, line, a, e⟩, 0, 0) else (Tok.none, 100, line)
def nextF (t : List UInt8) (at_ : Int) : Tok × Int × Int :=
  if t.length > 16384 then (Tok.none, 3, 0) else if at_ < 0 ∨ at_ > t.length then (Tok.none, 2, 0) else
  let a := at_.toNat + passB false (t.drop at_.toNat)
  let line : Int := (t.take a).count 10 + 1
  if a = t.length then (⟨5, [], 0, line, a, a⟩, 0, 0) else
  tokF ((t.drop a).take (endB (t.drop a))) line a (a + endB (t.drop a))
def nameB (s : List UInt8) : Bool := let r := nextF s 0; decide (r.2.1 = 0) && decide (r.1.kind = 2) && decide (r.1.end_ - r.1.at_ = s.length)
end Go.Proofs.YtcmaedoolinijaaGreatDoor

namespace Go.Proofs.YtcmaedoolinijaaGreatDoor
open Go Go.RowKit Go.Sort
set_option maxRecDepth 100000
set_option maxHeartbeats 3200000
structure Tb (w wr : World) (f : Nat → Nat) : Prop where
  nw : Nw w wr
  size : w.heap.size + 2 ≤ wr.heap.size
  z : wr.heap[w.heap.size]? = some (.cells Tryz.zeroCells174 174 (0, 0))
  tab : wr.heap[w.heap.size + 1]? = some (.cells (tabA f) 174 (0, 0))
theorem Tb.set {w wr : World} {f : Nat → Nat} (h : Tb w wr f) (i c : Nat) : Tb w (wr.setCell ⟨w.heap.size + 1, i, none⟩ (.int .u8 (c : Int))) (fun j => if j = i then c else f j) where
  nw := h.nw.trans' (T := fun k => k = w.heap.size + 1) (Only.setCell (S := fun k => k = w.heap.size + 1) (p := ⟨w.heap.size + 1, i, none⟩) (Only.refl wr) (fun _ => rfl) _) (fun k hk e => absurd hk (by omega))
  size := by have := h.size; simpa using this
  z := by rw [heap_setCell_other _ _ _ _ (by simp)]; exact h.z
  tab := by rw [← set_tabA]; exact heap_setCell_same _ _ _ _ _ _ h.tab
theorem Tb.cell {w wr : World} {f : Nat → Nat} (h : Tb w wr f) (i : Nat) (hi : i < 256) : wr.cell? ⟨w.heap.size + 1, i, none⟩ = some (.int .u8 (f i : Int)) := by
  rw [cell_of_row _ _ _ _ _ _ h.tab, get_tabA _ _ hi]
theorem Tb.fz {w wr : World} {f : Nat → Nat} (h : Tb w wr f) (i : Nat) : wr.frozen? ⟨w.heap.size + 1, i, none⟩ = false := by
  have := h.tab
  simp [World.frozen?, this]
theorem Tb.iter {w wr : World} {f : Nat → Nat} (h : Tb w wr f) (b : Nat) (hb : w.heap.size + 1 < b) (s : ByteArray) (p : Nat) : Tb w (iterTo wr b s p) f where
  nw := iterTo_nw h.nw (by omega) p
  size := by simpa using h.size
  z := by rw [iterTo_other (by omega)]; exact h.z
  tab := by rw [iterTo_other (by omega)]; exact h.tab
theorem Tb.alloc {w wr : World} {f : Nat → Nat} (h : Tb w wr f) (o : Obj) : Tb w (wr.alloc o) f where
  nw := h.nw.alloc o
  size := by have := h.size; simp; omega
  z := by rw [heap_alloc_old _ _ (by have := h.size; omega)]; exact h.z
  tab := by rw [heap_alloc_old _ _ (by have := h.size; omega)]; exact h.tab
theorem Tb.congr {w wr : World} {f g : Nat → Nat} (h : Tb w wr f) (hfg : ∀ i, i < 256 → f i = g i) : Tb w wr g := ⟨h.nw, h.size, h.z, by rw [← tabA_congr hfg]; exact h.tab⟩
theorem zero174 : Tryz.zeroCells174 = tabA (fun _ => 0) := by kernel_rfl
def f1 (k j : Nat) : Nat := if j ∈ [9, 10, 13, 32].take k then 1 else 0
def f2 (k j : Nat) : Nat := if j = 35 then 2 else if 48 ≤ j ∧ j < 48 + k then 3 else f1 4 j
def f3 (k j : Nat) : Nat := if 97 ≤ j ∧ j < 97 + k ∨ 65 ≤ j ∧ j < 65 + k then 4 else f2 10 j
def f4 (k j : Nat) : Nat := if j ∈ [60, 43, 45, 42, 40, 41, 123, 125, 59, 61].take k then 5 else if j = 95 then 4 else f3 26 j
theorem tab_one (f : Nat → Nat) : (tabA f).all (·.oneCell') = true := by
  rw [Array.all_eq_true_iff_forall_mem]
  intro v hv
  simp only [tabA, List.mem_toArray, List.mem_map] at hv
  obtain ⟨i, -, rfl⟩ := hv
  rfl
theorem info174 : (Tryz.prog.info? 174).map (·.size) = some 256 := by kernel_rfl
theorem f4_cls : ∀ j, j < 256 → f4 10 j = clsN j := by decide +kernel
theorem classes_ok {w : World} : Calls Tryz.prog 100 #[] w fun z w' => z = .returned (.agg (tabA clsN)) ∧ Nw w w' := by
  go_enter Tryz.func100, Tryz.ntmps100
  go_wp2_with fail
  have T0 : Tb w (((w.alloc (Obj.cells Tryz.zeroCells174 174)).alloc (Obj.cells Tryz.zeroCells174 174)).iter ⟨#[9, 10, 13, 32]⟩ 0) (f1 0) := by
    refine ⟨((Nw.refl w).alloc _).alloc _ |>.alloc _, by simp [World.iter], ?_, ?_⟩
    · rw [World.iter, heap_alloc_old _ _ (by simp; omega), heap_alloc_old _ _ (by simp)]
      exact heap_alloc_new _ _
    · rw [World.iter, heap_alloc_old _ _ (by simp), zero174]
      have := heap_alloc_new (w.alloc (Obj.cells (tabA fun _ => 0) 174)) (Obj.cells (tabA fun _ => 0) 174)
      rw [World.size_alloc] at this
      exact this
  have T0 := Lib.hid T0
  go_loopw [3] (fun _ wr => ∃ k : Nat, k ≤ 4 ∧ Tb w wr (f1 k) ∧ w.heap.size + 2 < wr.heap.size ∧ wr.heap[w.heap.size + 2]? = some (.stringIter ⟨#[9, 10, 13, 32]⟩ k)) (fun _ wr => 4 - wr.iterPos (w.heap.size + 2))
  case atStart =>
    refine ⟨0, by omega, T0.out, by simp [World.iter], ?_⟩
    have := World.iter_heap ((w.alloc (Obj.cells Tryz.zeroCells174 174)).alloc (Obj.cells Tryz.zeroCells174 174)) ⟨#[9, 10, 13, 32]⟩ 0
    rw [World.size_alloc, World.size_alloc] at this
    exact this
  case round =>
    obtain ⟨k, hk, hT, hs, hI⟩ := hrel
    have hip : ∀ (W : World) (b p : Nat) (s : ByteArray), W.heap[b]? = some (.stringIter s p) → W.iterPos b = p := fun W b p s h => by simp [World.iterPos, h]
    by_cases hk4 : k < 4
    · obtain ⟨b, hb⟩ : ∃ b : Nat, ([9, 10, 13, 32] : List Nat)[k]? = some b := ⟨_, List.getElem?_eq_getElem (by simpa using hk4)⟩
      have hb2 : b < 128 ∧ ∀ ty, (Instr.next (.pointer (some ⟨w.heap.size + 1 + 1, 0, none⟩)) true ty).run Tryz.prog wr = .ok (.tuple #[.bool true, .int .i64 k, .int .i32 b]) (iterTo wr (w.heap.size + 2) ⟨#[9, 10, 13, 32]⟩ (k + 1)) := by
        have : k = 0 ∨ k = 1 ∨ k = 2 ∨ k = 3 := by omega
        rcases this with rfl | rfl | rfl | rfl <;> (obtain rfl := Option.some.inj hb; exact ⟨by decide, fun ty => run_next_at ty hI (by decide) (by decide)⟩)
      obtain ⟨hb1, hnx⟩ := hb2
      have hT1 := hT.iter (w.heap.size + 2) (by omega) ⟨#[9, 10, 13, 32]⟩ (k + 1)
      have hc := hT1.cell b (by omega)
      have hfz := hT1.fz b
      have HT1 := Lib.hid hT1
      have HS := Lib.hid hs
      have HIP := Lib.hid hip
      have HI := Lib.hid hI
      have HT := Lib.hid hT
      have HB := Lib.hid hb
      clear hT1 hs hip hI hb hT
      go_wp2_with fail
      refine ⟨⟨k + 1, by omega, (HT1.out.set b 1).congr fun j hj => ?_, by simpa using HS.out, ?_⟩, ?_⟩
      · have hb := HB.out
        have : k = 0 ∨ k = 1 ∨ k = 2 ∨ k = 3 := by omega
        rcases this with rfl | rfl | rfl | rfl <;> (obtain rfl := Option.some.inj hb; revert j; decide +kernel)
      · rw [heap_setCell_other _ _ _ _ (by simp)]
        exact iterTo_at (by have := HS.out; omega) _
      · rw [HIP.out _ _ _ _ HI.out, HIP.out _ _ (k + 1) ⟨#[9, 10, 13, 32]⟩ (by
          rw [heap_setCell_other _ _ _ _ (by simp)]
          exact iterTo_at (by have := HS.out; omega) _)]
        omega
    · obtain rfl : k = 4 := by omega
      have hnx : ∀ ty, (Instr.next (.pointer (some ⟨w.heap.size + 1 + 1, 0, none⟩)) true ty).run Tryz.prog wr = .ok (.tuple #[.bool false]) wr := fun ty => run_next_over ty hI (by decide)
      have hc := hT.cell 35 (by omega)
      have hfz := hT.fz 35
      have hT2 := (hT.set 35 2).congr (g := f2 0) (by decide +kernel)
      have HT2 := Lib.hid hT2
      have HIP := Lib.hid hip
      clear hT2 hI hs hT hip T0
      go_wp2_with fail
      clear hc hnx hfz
      obtain ⟨wa, hwa⟩ : ∃ wa, wr.setCell ⟨w.heap.size + 1, 35, none⟩ (.int .u8 2) = wa := ⟨_, rfl⟩
      have T2 : Hid (Tb w wa (f2 0)) := Lib.hid (by rw [← hwa]; exact HT2.out)
      rw [hwa]
      clear hwa HT2 HIP hk hk4
      go_loopw [4] (fun c wq => ∃ (k : Nat) (z : Int), k ≤ 10 ∧ z = 48 + k ∧ c = .int .i32 z ∧ Tb w wq (f2 k)) (fun c _ => 58 - (intOf c).toNat)
      case atStart => exact ⟨0, 48, by omega, rfl, rfl, T2.out⟩
      case round =>
        obtain ⟨k, z, hk, hz, rfl, hT⟩ := hrel
        have HZ := Lib.hid hz
        by_cases hk4 : k < 10
        · have q : decide (z ≤ 57) = true := by simp; omega
          have hx : IntKind.i32.wrap (z + 1) = z + 1 := by rw [wraps_i32 _ (by omega) (by omega)]
          obtain rfl : z = ((48 + k : Nat) : Int) := by omega
          clear hz
          have hc := hT.cell (48 + k) (by omega)
          have hfz := hT.fz (48 + k)
          have HT := Lib.hid hT
          clear hT T2
          go_wp2_with fail
          refine ⟨⟨k + 1, _, by omega, ?_, rfl, (HT.out.set (48 + k) 3).congr fun j hj => ?_⟩, by simp [intOf]; omega⟩
          · omega
          · unfold f2
            repeat (first | omega | split)
        · have q : decide (z ≤ 57) = false := by simp; omega
          obtain rfl : k = 10 := by omega
          clear hz
          have T3 := Lib.hid (hT.congr (g := f3 0) (by decide +kernel))
          clear hT T2
          go_wp2_with fail
          go_loopw [5] (fun c wq => ∃ (k : Nat) (z : Int), k ≤ 26 ∧ z = 97 + k ∧ c = .int .i32 z ∧ Tb w wq (f3 k)) (fun c _ => 123 - (intOf c).toNat)
          case atStart => exact ⟨0, 97, by omega, rfl, rfl, T3.out⟩
          case round =>
            obtain ⟨k, z, hk, hz, rfl, hT⟩ := hrel
            have HZ := Lib.hid hz
            by_cases hk4 : k < 26
            · have q : decide (z ≤ 122) = true := by simp; omega
              have hx : IntKind.i32.wrap (z + 1) = z + 1 := by rw [wraps_i32 _ (by omega) (by omega)]
              have hx1 : IntKind.i32.wrap (z - 97) = (k : Int) := by rw [wraps_i32 _ (by omega) (by omega)]; omega
              have hx2 : IntKind.i32.wrap ((k : Int) + 65) = ((k + 65 : Nat) : Int) := by rw [wraps_i32 _ (by omega) (by omega)]; omega
              obtain rfl : z = ((97 + k : Nat) : Int) := by omega
              clear hz
              have hc := hT.cell (97 + k) (by omega)
              have hfz := hT.fz (97 + k)
              have hT1 := hT.set (97 + k) 4
              have hc1 := hT.cell (k + 65) (by omega)
              have hfz1 := hT.fz (k + 65)
              have hn1 : ¬ 97 + k = k + 65 := by omega
              have hn2 : ¬ k + 65 = 97 + k := by omega
              have HT := Lib.hid (hT1.set (k + 65) 4)
              clear hT hT1 T3
              go_wp2_with fail
              refine ⟨⟨k + 1, _, by omega, ?_, rfl, HT.out.congr fun j hj => ?_⟩, by simp [intOf]; omega⟩
              · omega
              · unfold f3
                repeat (first | omega | split)
            · have q : decide (z ≤ 122) = false := by simp; omega
              obtain rfl : k = 26 := by omega
              clear hz
              have hc := hT.cell 95 (by omega)
              have hfz := hT.fz 95
              have hsz := hT.size
              have hT4 := (hT.set 95 4).congr (g := f4 0) (by decide +kernel)
              have T4 := Lib.hid hT4
              have HS0 := Lib.hid hsz
              clear hT hT4 T3 hsz
              go_wp2_with fail
              clear hc hfz
              obtain ⟨wb, hwb⟩ : ∃ wb, wr.setCell ⟨w.heap.size + 1, 95, none⟩ (.int .u8 4) = wb := ⟨_, rfl⟩
              obtain ⟨g, hg⟩ : ∃ g, wr.heap.size = g := ⟨_, rfl⟩
              have T5 : Hid (Tb w wb (f4 0) ∧ wb.heap.size = g ∧ w.heap.size + 1 < g) := Lib.hid ⟨by rw [← hwb]; exact T4.out, by rw [← hwb, ← hg]; simp, by have := HS0.out; omega⟩
              rw [hwb, hg]
              clear hwb hg T4 HS0 hk hk4 q HZ
              go_loopw [7] (fun _ wr => ∃ k : Nat, k ≤ 10 ∧ Tb w wr (f4 k) ∧ g < wr.heap.size ∧ wr.heap[g]? = some (.stringIter ⟨#[60, 43, 45, 42, 40, 41, 123, 125, 59, 61]⟩ k)) (fun _ wr => 10 - wr.iterPos g)
              case atStart =>
                refine ⟨0, by omega, T5.out.1.alloc _, by rw [World.iter, World.size_alloc, T5.out.2.1]; omega, ?_⟩
                rw [← T5.out.2.1]
                exact World.iter_heap wb ⟨#[60, 43, 45, 42, 40, 41, 123, 125, 59, 61]⟩ 0
              case round =>
                obtain ⟨k, hk, hT, hs, hI⟩ := hrel
                have hip : ∀ (W : World) (b p : Nat) (s : ByteArray), W.heap[b]? = some (.stringIter s p) → W.iterPos b = p := fun W b p s h => by simp [World.iterPos, h]
                by_cases hk4 : k < 10
                · obtain ⟨b, hb⟩ : ∃ b : Nat, ([60, 43, 45, 42, 40, 41, 123, 125, 59, 61] : List Nat)[k]? = some b := ⟨_, List.getElem?_eq_getElem (by simpa using hk4)⟩
                  have hb2 : b < 128 ∧ ∀ ty, (Instr.next (.pointer (some ⟨g, 0, none⟩)) true ty).run Tryz.prog wr = .ok (.tuple #[.bool true, .int .i64 k, .int .i32 b]) (iterTo wr g ⟨#[60, 43, 45, 42, 40, 41, 123, 125, 59, 61]⟩ (k + 1)) := by
                    have : k = 0 ∨ k = 1 ∨ k = 2 ∨ k = 3 ∨ k = 4 ∨ k = 5 ∨ k = 6 ∨ k = 7 ∨ k = 8 ∨ k = 9 := by omega
                    rcases this with rfl | rfl | rfl | rfl | rfl | rfl | rfl | rfl | rfl | rfl <;> (obtain rfl := Option.some.inj hb; exact ⟨by decide, fun ty => run_next_at ty hI (by decide) (by decide)⟩)
                  obtain ⟨hb1, hnx⟩ := hb2
                  have hT1 := hT.iter g T5.out.2.2 ⟨#[60, 43, 45, 42, 40, 41, 123, 125, 59, 61]⟩ (k + 1)
                  have hc := hT1.cell b (by omega)
                  have hfz := hT1.fz b
                  have HT1 := Lib.hid hT1
                  have HS := Lib.hid hs
                  have HIP := Lib.hid hip
                  have HI := Lib.hid hI
                  have HT := Lib.hid hT
                  have HB := Lib.hid hb
                  clear hT1 hs hip hI hb hT
                  go_wp2_with fail
                  refine ⟨⟨k + 1, by omega, (HT1.out.set b 5).congr fun j hj => ?_, by simpa using HS.out, ?_⟩, ?_⟩
                  · have hb := HB.out
                    have : k = 0 ∨ k = 1 ∨ k = 2 ∨ k = 3 ∨ k = 4 ∨ k = 5 ∨ k = 6 ∨ k = 7 ∨ k = 8 ∨ k = 9 := by omega
                    rcases this with rfl | rfl | rfl | rfl | rfl | rfl | rfl | rfl | rfl | rfl <;> (obtain rfl := Option.some.inj hb; revert j; decide +kernel)
                  · rw [heap_setCell_other _ _ _ _ (by have := T5.out.2.2; simp; omega)]
                    exact iterTo_at (by have := HS.out; omega) _
                  · rw [HIP.out _ _ _ _ HI.out, HIP.out _ _ (k + 1) ⟨#[60, 43, 45, 42, 40, 41, 123, 125, 59, 61]⟩ (by
                      rw [heap_setCell_other _ _ _ _ (by have := T5.out.2.2; simp; omega)]
                      exact iterTo_at (by have := HS.out; omega) _)]
                    omega
                · obtain rfl : k = 10 := by omega
                  have hnx : ∀ ty, (Instr.next (.pointer (some ⟨g, 0, none⟩)) true ty).run Tryz.prog wr = .ok (.tuple #[.bool false]) wr := fun ty => run_next_over ty hI (by decide)
                  have HT := Lib.hid (hT.congr f4_cls)
                  clear hT hI hip hs
                  go_wp2_with (first
                    | refine wpList_load_row rfl 174 _ rfl (w.heap.size + 1) rfl 174 (tabA clsN) (0, 0) _ HT.out.tab Tryz.underlying174 rfl (by rw [size_tabA]; exact info174) ?_
                    | refine wpList_store_row rfl 174 _ _ rfl w.heap.size (tabA clsN) rfl rfl 174 _ HT.out.z (by rw [size_tabA]; exact info174) (by rw [size_tabA, zero174, size_tabA]) (tab_one _) ?_)
                  refine bodyPost_ret (v := .agg (tabA clsN)) (results_cell_row rfl _ _ w.heap.size 174 (tabA clsN) (0, 0) _ rfl (setRow_heap _ _ _ _ _ _ HT.out.z) Tryz.underlying174 rfl (by rw [size_tabA]; exact info174)) rfl ⟨rfl, Only.setRow HT.out.nw (fun h => absurd h (by omega)) _⟩
end Go.Proofs.YtcmaedoolinijaaGreatDoor

namespace Go.Proofs
open Go.Shelf
def Tryz.lays137_ren : Go.Shelf.Ren := ⟨fun | 137 => 136 | 217 => 96 | 266 => 134 | n => n, fun | 9 => 9 | 5 => 5 | 3 => 3 | n => n, fun | n => n⟩
theorem Tryz.lays137 : Go.Proofs.Lays.n137 Tryz.prog Tryz.lays137_ren := {
  mixed := by kernel_rfl
  f137 := Tryz.func136.trans (congrArg some (by kernel_rfl))
  f217 := Tryz.func96.trans (congrArg some (by kernel_rfl))
  f266 := Tryz.func134.trans (congrArg some (by kernel_rfl))
  t3 := Tryz.underlying3
  a3 := Tryz.isAgg3
  z3 := Tryz.sizeOf3
  v3 := Tryz.zeroValue3
  t5 := Tryz.underlying5
  a5 := Tryz.isAgg5
  z5 := Tryz.sizeOf5
  v5 := Tryz.zeroValue5
  t9 := Tryz.underlying9
  a9 := Tryz.isAgg9
  z9 := Tryz.sizeOf9
  v9 := Tryz.zeroValue9 }
open Go.RowKit in
theorem Tryz.strings_IndexByte (s : ByteArray) (c : Int) (w : World) :
    Calls Tryz.prog 136 #[.string s, .int .u8 c] w fun e w' => e = .returned (.int .i64 (Lib.indexByte s.data.toList c.toNat.toUInt8)) ∧ w' = w := Any.strings_IndexByte Tryz.lays137 s c w
def Tryz.lays144_ren : Go.Shelf.Ren := ⟨fun | 144 => 104 | 143 => 21 | 219 => 58 | 217 => 96 | 225 => 97 | 224 => 98 | 267 => 99 | 266 => 134 | 314 => 135 | n => n, fun | 9 => 9 | 4 => 4 | 3 => 3 | 5 => 5 | 46 => 173 | 146 => 219 | 51 => 218 | n => n, fun | 1 => 0 | n => n⟩
theorem Tryz.lays144 : Go.Proofs.Lays.n144 Tryz.prog Tryz.lays144_ren := {
  mixed := by kernel_rfl
  f143 := Tryz.func21.trans (congrArg some (by kernel_rfl))
  f144 := Tryz.func104.trans (congrArg some (by kernel_rfl))
  f217 := Tryz.func96.trans (congrArg some (by kernel_rfl))
  f219 := Tryz.func58.trans (congrArg some (by kernel_rfl))
  f224 := Tryz.func98.trans (congrArg some (by kernel_rfl))
  f225 := Tryz.func97.trans (congrArg some (by kernel_rfl))
  f266 := Tryz.func134.trans (congrArg some (by kernel_rfl))
  f267 := Tryz.func99.trans (congrArg some (by kernel_rfl))
  f314 := Tryz.func135.trans (congrArg some (by kernel_rfl))
  t3 := Tryz.underlying3
  a3 := Tryz.isAgg3
  z3 := Tryz.sizeOf3
  v3 := Tryz.zeroValue3
  t4 := Tryz.underlying4
  a4 := Tryz.isAgg4
  z4 := Tryz.sizeOf4
  v4 := Tryz.zeroValue4
  t5 := Tryz.underlying5
  a5 := Tryz.isAgg5
  z5 := Tryz.sizeOf5
  v5 := Tryz.zeroValue5
  t9 := Tryz.underlying9
  a9 := Tryz.isAgg9
  z9 := Tryz.sizeOf9
  v9 := Tryz.zeroValue9
  t46 := Tryz.underlying173
  a46 := Tryz.isAgg173
  z46 := Tryz.sizeOf173
  v46 := Tryz.zeroValue173
  t51 := Tryz.underlying218
  a51 := Tryz.isAgg218
  z51 := Tryz.sizeOf218
  v51 := Tryz.zeroValue218
  t146 := Tryz.underlying219
  a146 := Tryz.isAgg219
  z146 := Tryz.sizeOf219
  v146 := Tryz.zeroValue219
  g1 := by kernel_rfl }
open Go.RowKit Go.Lib in
theorem Tryz.strings_Contains (s sub : ByteArray) (m : Int) (w : World) (hs : s.size < 4294967281) (hm : w.cell? ⟨0, 0, none⟩ = some (.int .i64 m)) :
    Calls Tryz.prog 104 #[.string s, .string sub] w fun e w' => e = .returned (.bool (Lib.contains s.data.toList sub.data.toList)) ∧ w' = w := Any.strings_Contains Tryz.lays144 s sub m w hs hm
def Tryz.lays145_ren : Go.Shelf.Ren := ⟨fun | 145 => 26 | 220 => 61 | 219 => 58 | 217 => 96 | 225 => 97 | 224 => 98 | 267 => 99 | 266 => 134 | 314 => 135 | n => n, fun | 9 => 9 | 4 => 4 | 59 => 77 | 3 => 3 | 5 => 5 | 46 => 173 | 146 => 219 | 51 => 218 | n => n, fun | 1 => 0 | n => n⟩
theorem Tryz.lays145 : Go.Proofs.Lays.n145 Tryz.prog Tryz.lays145_ren := {
  mixed := by kernel_rfl
  f145 := Tryz.func26.trans (congrArg some (by kernel_rfl))
  f217 := Tryz.func96.trans (congrArg some (by kernel_rfl))
  f219 := Tryz.func58.trans (congrArg some (by kernel_rfl))
  f220 := Tryz.func61.trans (congrArg some (by kernel_rfl))
  f224 := Tryz.func98.trans (congrArg some (by kernel_rfl))
  f225 := Tryz.func97.trans (congrArg some (by kernel_rfl))
  f266 := Tryz.func134.trans (congrArg some (by kernel_rfl))
  f267 := Tryz.func99.trans (congrArg some (by kernel_rfl))
  f314 := Tryz.func135.trans (congrArg some (by kernel_rfl))
  t3 := Tryz.underlying3
  a3 := Tryz.isAgg3
  z3 := Tryz.sizeOf3
  v3 := Tryz.zeroValue3
  t4 := Tryz.underlying4
  a4 := Tryz.isAgg4
  z4 := Tryz.sizeOf4
  v4 := Tryz.zeroValue4
  t5 := Tryz.underlying5
  a5 := Tryz.isAgg5
  z5 := Tryz.sizeOf5
  v5 := Tryz.zeroValue5
  t9 := Tryz.underlying9
  a9 := Tryz.isAgg9
  z9 := Tryz.sizeOf9
  v9 := Tryz.zeroValue9
  t46 := Tryz.underlying173
  a46 := Tryz.isAgg173
  z46 := Tryz.sizeOf173
  v46 := Tryz.zeroValue173
  t51 := Tryz.underlying218
  a51 := Tryz.isAgg218
  z51 := Tryz.sizeOf218
  v51 := Tryz.zeroValue218
  t59 := Tryz.underlying77
  a59 := Tryz.isAgg77
  z59 := Tryz.sizeOf77
  v59 := Tryz.zeroValue77
  t146 := Tryz.underlying219
  a146 := Tryz.isAgg219
  z146 := Tryz.sizeOf219
  v146 := Tryz.zeroValue219
  g1 := by kernel_rfl }
open Go.RowKit Go.Lib in
theorem Tryz.strings_Cut (s sep : ByteArray) (m : Int) (w : World) (hs : s.size < 4294967281) (hm : w.cell? ⟨0, 0, none⟩ = some (.int .i64 m)) :
    Calls Tryz.prog 26 #[.string s, .string sep] w fun e w' => e = .returned (.tuple #[.string ⟨(Lib.cut s.data.toList sep.data.toList).1.toArray⟩, .string ⟨(Lib.cut s.data.toList sep.data.toList).2.1.toArray⟩, .bool (Lib.cut s.data.toList sep.data.toList).2.2]) ∧ ∃ n, w' = w.drewN n := Any.strings_Cut Tryz.lays145 s sep m w hs hm
def Tryz.lays138_ren : Go.Shelf.Ren := ⟨fun | 138 => 14 | 195 => 27 | 218 => 28 | 143 => 21 | 219 => 58 | 217 => 96 | 225 => 97 | 224 => 98 | 267 => 99 | 266 => 134 | 314 => 135 | n => n, fun | 9 => 9 | 3 => 3 | 4 => 4 | 5 => 5 | 0 => 0 | 46 => 173 | 146 => 219 | 51 => 218 | n => n, fun | 1 => 0 | n => n⟩
theorem Tryz.lays138 : Go.Proofs.Lays.n138 Tryz.prog Tryz.lays138_ren := {
  mixed := by kernel_rfl
  f138 := Tryz.func14.trans (congrArg some (by kernel_rfl))
  f143 := Tryz.func21.trans (congrArg some (by kernel_rfl))
  f195 := Tryz.func27.trans (congrArg some (by kernel_rfl))
  f217 := Tryz.func96.trans (congrArg some (by kernel_rfl))
  f218 := Tryz.func28.trans (congrArg some (by kernel_rfl))
  f219 := Tryz.func58.trans (congrArg some (by kernel_rfl))
  f224 := Tryz.func98.trans (congrArg some (by kernel_rfl))
  f225 := Tryz.func97.trans (congrArg some (by kernel_rfl))
  f266 := Tryz.func134.trans (congrArg some (by kernel_rfl))
  f267 := Tryz.func99.trans (congrArg some (by kernel_rfl))
  f314 := Tryz.func135.trans (congrArg some (by kernel_rfl))
  t0 := Tryz.underlying0
  a0 := Tryz.isAgg0
  z0 := Tryz.sizeOf0
  v0 := Tryz.zeroValue0
  t3 := Tryz.underlying3
  a3 := Tryz.isAgg3
  z3 := Tryz.sizeOf3
  v3 := Tryz.zeroValue3
  t4 := Tryz.underlying4
  a4 := Tryz.isAgg4
  z4 := Tryz.sizeOf4
  v4 := Tryz.zeroValue4
  t5 := Tryz.underlying5
  a5 := Tryz.isAgg5
  z5 := Tryz.sizeOf5
  v5 := Tryz.zeroValue5
  t9 := Tryz.underlying9
  a9 := Tryz.isAgg9
  z9 := Tryz.sizeOf9
  v9 := Tryz.zeroValue9
  t46 := Tryz.underlying173
  a46 := Tryz.isAgg173
  z46 := Tryz.sizeOf173
  v46 := Tryz.zeroValue173
  t51 := Tryz.underlying218
  a51 := Tryz.isAgg218
  z51 := Tryz.sizeOf218
  v51 := Tryz.zeroValue218
  t146 := Tryz.underlying219
  a146 := Tryz.isAgg219
  z146 := Tryz.sizeOf219
  v146 := Tryz.zeroValue219
  g1 := by kernel_rfl }
open Go.RowKit Go.Lib in
theorem Tryz.strings_Count_one (s : ByteArray) (c : UInt8) (w : World) :
    Calls Tryz.prog 14 #[.string s, .string ⟨#[c]⟩] w fun e w' => e = .returned (.int .i64 (Lib.countByte s.data.toList c)) ∧ w' = w := Any.strings_Count_one Tryz.lays138 s c w
end Go.Proofs
