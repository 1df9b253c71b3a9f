/-
  Texts merged by a program of this claim's: Tab.
-/
import Derived.Test.YtjapijndljknnaaGreatDoorM36
/-
  Program-independent: a drawn region by a table: what each operation's slot holds behind it. However many orders there are, each operation is reckoned once, from the few slots that it reads.
-/
namespace Go.Proofs.YtjapijndljknnaaGreatDoor
open Go Go.RowKit Go.Sort
set_option maxRecDepth 100000
/-- What a slot holds: it stays so while only new blocks are made. -/
structure Ent where
  p : Value → World → Prop
  m : ∀ v w w', p v w → Nw w w' → p v w'
def isV (V : Value) : Ent := ⟨fun v _ => v = V, fun _ _ _ h _ => h⟩
def anyV : Ent := ⟨fun _ _ => True, fun _ _ _ h _ => h⟩
def got (tab : List Ent) (i : Nat) : Ent := tab[i]?.getD anyV
section
variable {P : Program} {L lit : List Oper} {o : Oper} {a A0 : Act} {w w5 : World} {R : Value → World → Prop} {dst : List Nat} {i : Nat}
/-- What an operation does: it yields a value, in a world, of which R holds. -/
def OpOk (P : Program) (L : List Oper) (o : Oper) (a : Act) (w : World) (R : Value → World → Prop) : Prop :=
  (Region.wanted o (yielded L.toArray a.tmps) = false ∧ R undef w) ∨
  (Region.wanted o (yielded L.toArray a.tmps) = true ∧ ((∃ v w', (execOp a.eval o).run P w = .ok (.value v) w' ∧ R v w') ∨ ∃ f args, (execOp a.eval o).run P w = .ok (.enter f args) w ∧ Calls P f args w fun e w' => ∃ v, e = .returned v ∧ R v w'))
theorem OpOk.wp {Q : Exit → Act → World → Prop} {K : Act → World → Prop} {d : Nat} (ho : L[i]? = some o) (hd : o.dst = some d) (h : OpOk P L o a w R) (hK : ∀ v w', R v w' → K (a.put (some d) v) w') : wpOp P L.toArray Q i K a w := by
  simp only [wpOp, at_list ho]
  rcases h with ⟨hw, h⟩ | ⟨hw, ⟨v, w', hr, h⟩ | ⟨f, args, hr, hc⟩⟩
  · rw [if_neg (by rw [hw]; simp), hd]
    exact hK _ _ h
  · rw [if_pos hw]
    refine .inl ?_
    unfold Oper.wp
    rw [hr]
    simp only [Oper.upon]
    rw [hd]
    exact hK _ _ h
  · rw [if_pos hw]
    refine .inl ?_
    unfold Oper.wp
    rw [hr]
    simp only [Oper.upon]
    refine hc.mono fun e w' he => ?_
    obtain ⟨v, rfl, h⟩ := he
    rw [hd]
    exact hK _ _ h
theorem OpOk.skip (h : Region.wanted o (yielded L.toArray a.tmps) = false) (hR : R undef w) : OpOk P L o a w R := .inl ⟨h, hR⟩
theorem OpOk.val (v : Value) (h : Region.wanted o (yielded L.toArray a.tmps) = true) (fs : List (Nat × Value)) (hf : ∀ x ∈ fs, a.tmps[x.1]? = some x.2)
    (hv : ∀ ρ : Operand → Value, (∀ x ∈ fs, ρ (.tmp x.1) = x.2) → Consts ρ → (execOp ρ o).run P w = .ok (.value v) w) (hR : R v w) : OpOk P L o a w R :=
  .inr ⟨h, .inl ⟨v, w, hv _ (fun x hx => eval_of (hf x hx)) ⟨fun _ => rfl, fun _ => rfl⟩, hR⟩⟩
/-- .. that makes blocks. -/
theorem OpOk.made (v : Value) (w' : World) (h : Region.wanted o (yielded L.toArray a.tmps) = true) (fs : List (Nat × Value)) (hf : ∀ x ∈ fs, a.tmps[x.1]? = some x.2)
    (hv : ∀ ρ : Operand → Value, (∀ x ∈ fs, ρ (.tmp x.1) = x.2) → Consts ρ → (execOp ρ o).run P w = .ok (.value v) w') (hR : R v w') : OpOk P L o a w R :=
  .inr ⟨h, .inl ⟨v, w', hv _ (fun x hx => eval_of (hf x hx)) ⟨fun _ => rfl, fun _ => rfl⟩, hR⟩⟩
theorem OpOk.call {f : FuncId} {args : Array Value} {R' : Ending → World → Prop} (h : Region.wanted o (yielded L.toArray a.tmps) = true) (fs : List (Nat × Value)) (hf : ∀ x ∈ fs, a.tmps[x.1]? = some x.2)
    (hv : ∀ ρ : Operand → Value, (∀ x ∈ fs, ρ (.tmp x.1) = x.2) → Consts ρ → (execOp ρ o).run P w = .ok (.enter f args) w) (hc : Calls P f args w R') (hR : ∀ e w', R' e w' → ∃ v, e = .returned v ∧ R v w') : OpOk P L o a w R :=
  .inr ⟨h, .inr ⟨f, args, hv _ (fun x hx => eval_of (hf x hx)) ⟨fun _ => rfl, fun _ => rfl⟩, hc.mono hR⟩⟩
theorem tab_yielded {tmps : Array Value} {j dj : Nat} {x : Bool} (hL : L.map Oper.dst = dst.map some) (hj : dst[j]? = some dj) (hy : tmps[dj]? = some (.bool x)) : yielded L.toArray tmps j = some x := by
  have h : (L.map Oper.dst)[j]? = (dst.map some)[j]? := by rw [hL]
  rw [List.getElem?_map, List.getElem?_map, hj] at h
  cases h2 : L[j]? with
  | none => rw [h2] at h; cases h
  | some oj => rw [h2] at h; exact yielded_at h2 (by simpa using h) hy
theorem tab_yes {tmps : Array Value} {j dj : Nat} {b : Bool} (hL : L.map Oper.dst = dst.map some) (hg : o.guard = some (j, b)) (hj : dst[j]? = some dj) (hy : tmps[dj]? = some (.bool b)) : Region.wanted o (yielded L.toArray tmps) = true := by
  unfold Region.wanted
  rw [hg]
  simp only [tab_yielded hL hj hy]
  cases b <;> rfl
theorem tab_no {tmps : Array Value} {j dj : Nat} {b : Bool} (hL : L.map Oper.dst = dst.map some) (hg : o.guard = some (j, b)) (hj : dst[j]? = some dj) (hy : tmps[dj]? = some (.bool (!b))) : Region.wanted o (yielded L.toArray tmps) = false := by
  unfold Region.wanted
  rw [hg]
  simp only [tab_yielded hL hj hy]
  cases b <;> rfl
/-- A drawn region by its table. -/
theorem wp_region_tab {id : Nat} {Q : Exit → Act → World → Prop} (dst : List Nat) (tab : List Ent) (hm : P.follows .mixedOrders = true) (hb : Region.backB lit.toArray = true) (hdst : lit.map Oper.dst = dst.map some) (hnd : dst.Nodup) (hin : ∀ d ∈ dst, d < A0.tmps.size)
    (hs : ∀ L : List Oper, L.map Oper.dst = dst.map some → EachO (fun i o => ∀ a w, Nw w5 w → (∀ t v, dst.contains t = false → A0.tmps[t]? = some v → a.tmps[t]? = some v) → (∀ j d, waits o j = true → dst[j]? = some d → ∃ v, a.tmps[d]? = some v ∧ (got tab j).p v w) →
      OpOk P L o a w fun v w' => Nw w w' ∧ (got tab i).p v w') 0 lit)
    (he : ∀ a w, Nw w5 w → a.tmps.size = A0.tmps.size → a.defers = A0.defers → (∀ t, dst.contains t = false → a.tmps[t]? = A0.tmps[t]?) → (∀ i d, dst[i]? = some d → ∃ v, a.tmps[d]? = some v ∧ (got tab i).p v w) → Q .normal a w) :
    (Code.region id lit.toArray true).wp P Q A0 w5 := by
  have hlen : lit.length = dst.length := by have := congrArg List.length hdst; simpa using this
  refine wp_region_any hm (wpAny_inv (fun D a w => Nw w5 w ∧ a.tmps.size = A0.tmps.size ∧ a.defers = A0.defers ∧ (∀ t, dst.contains t = false → a.tmps[t]? = A0.tmps[t]?) ∧ ∀ i d, D i → dst[i]? = some d → ∃ v, a.tmps[d]? = some v ∧ (got tab i).p v w) hb
    (fun D i o ho h1 h2 a w h3 => ?_) (fun D a w h1 h2 => ?_) _ _ (fun _ => False) A0 w5.drew (by simp) (fun i hi => ?_) (by simp) ?_)
  · obtain ⟨k1, k2, k3, k4, k5⟩ := h3
    have ho' : lit[i]? = some o := by simpa using ho
    have hd : ∃ d, dst[i]? = some d ∧ o.dst = some d := by
      have h : (lit.map Oper.dst)[i]? = (dst.map some)[i]? := by rw [hdst]
      rw [List.getElem?_map, List.getElem?_map, ho'] at h
      cases h2 : dst[i]? with
      | none => rw [h2] at h; cases h
      | some d => rw [h2] at h; exact ⟨d, rfl, by simpa using h⟩
    obtain ⟨d, hd, hod⟩ := hd
    have hdm : d ∈ dst := List.mem_of_getElem? hd
    have hE := of_each (hs lit hdst) i o ho' a w k1 (fun t v ht hv => by rw [k4 t ht]; exact hv) (fun j dj hj hdj => k5 j dj (waits_of h1 j hj) hdj)
    refine hE.wp ho' hod fun v w' ⟨n, hp⟩ => ⟨k1.trans n, ?_, ?_, ?_, ?_⟩
    · simp [Act.put, k2]
    · simp [Act.put, k3]
    · intro t ht
      have hne : d ≠ t := fun e => by
        subst e
        have : dst.contains d = true := by simpa using hdm
        rw [this] at ht
        cases ht
      rw [put_at hne]
      exact k4 t ht
    · intro j dj hj hdj
      by_cases hji : j = i
      · subst hji
        rw [hd] at hdj
        cases hdj
        have hlt : d < a.tmps.size := by rw [k2]; exact hin d hdm
        exact ⟨v, by simp [Act.put, hlt], hp⟩
      · have hne : d ≠ dj := fun e => by
          subst e
          obtain ⟨p1, q1⟩ := List.getElem?_eq_some_iff.1 hd
          obtain ⟨p2, q2⟩ := List.getElem?_eq_some_iff.1 hdj
          exact hji ((List.getElem_inj hnd).1 (q2.trans q1.symm))
        obtain ⟨u, e1, e2⟩ := k5 j dj (hj.resolve_left hji) hdj
        exact ⟨u, by rw [put_at hne]; exact e1, (got tab j).m _ _ _ e2 n⟩
  · obtain ⟨k1, k2, k3, k4, k5⟩ := h2
    refine he a w k1 k2 k3 k4 fun i d hd => k5 i d (h1 i ?_) hd
    obtain ⟨p1, -⟩ := List.getElem?_eq_some_iff.1 hd
    simp only [List.size_toArray]
    omega
  · rw [getD_replicate_false]; simp
  · exact ⟨(Nw.refl w5).drew, rfl, rfl, fun _ _ => rfl, fun _ _ h => h.elim⟩
/-- The frame behind a region, written out. -/
def laid (dst : List Nat) (l : List Value) (S : Nat → Value) : List Value := l.zipIdx.map fun x => bif dst.contains x.2 then S x.2 else x.1
theorem frame_lit {l : List Value} (hA : A0 = ⟨l.toArray, []⟩) (hsz : a.tmps.size = A0.tmps.size) (hdf : a.defers = A0.defers) (old : ∀ t, dst.contains t = false → a.tmps[t]? = A0.tmps[t]?) {l' : List Value} (hl : laid dst l (fun t => (a.tmps[t]?).getD undef) = l') : a = ⟨l'.toArray, []⟩ := by
  subst hA hl
  obtain ⟨tm, df⟩ := a
  simp only at hsz hdf old ⊢
  subst hdf
  congr 1
  apply Array.ext_getElem?
  intro t
  simp only [laid]
  by_cases ht : t < l.length
  · have ht' : t < tm.size := by rw [hsz]; simpa using ht
    have e : ((l.zipIdx.map fun x => bif dst.contains x.2 then tm[x.2]?.getD undef else x.1).toArray)[t]? = some (bif dst.contains t then tm[t]?.getD undef else l[t]) := by
      rw [List.getElem?_toArray, List.getElem?_map, List.getElem?_zipIdx, List.getElem?_eq_getElem ht]
      simp
    rw [e]
    cases hc : dst.contains t with
    | true => simp [ht']
    | false =>
      have := old t hc
      rw [this]
      simp [ht]
  · rw [Array.getElem?_eq_none (by rw [hsz]; simpa using ht), Array.getElem?_eq_none (by simpa [laid] using ht)]
theorem tab_frame {Q : Exit → Act → World → Prop} {a b : Act} {w : World} (h : a = b) (h' : Q .normal b w) : Q .normal a w := h ▸ h'
end
theorem name_act {P : Program} {c : Code} {Q : Exit → Act → World → Prop} {a : Act} {w : World} (h : ∀ B : Act, B = a → Code.wp P c Q B w) : Code.wp P c Q a w := h a rfl
end Go.Proofs.YtjapijndljknnaaGreatDoor
