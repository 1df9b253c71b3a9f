/-
  Texts merged by a program of this claim's: Bulk.
-/
import Derived.Test.YtcmaedoolinijaaGreatDoorRows
import Derived.Test.YtcmaedoolinijaaGreatDoorM6
import Derived.Test.YtcmaedoolinijaaGreatDoorM30
namespace Go.Proofs.YtcmaedoolinijaaGreatDoor
open Go Go.ChangeShapes Go.WideShapes Go.RowKit Go.Deep
set_option maxRecDepth 100000
theorem bulk_one {H : Type} (d : DataW H) : 1 ≤ Rows.uptoBulk d := by
  cases d with
  | lit l => cases l <;> simp [Rows.uptoBulk]
  | nil => simp [Rows.uptoBulk]
  | ptr d => simp [Rows.uptoBulk]
  | slice elems spare => simp [Rows.uptoBulk]
  | agg parts => simp [Rows.uptoBulk]
  | iface t d => simp [Rows.uptoBulk]
  | map entries => simp [Rows.uptoBulk]
  | held h => simp [Rows.uptoBulk]
theorem bulk_part {H : Type} {d : DataW H} {l : List (DataW H)} (h : d ∈ l) : Rows.uptoBulk d ≤ Rows.uptoBulkAll l := by
  induction l with
  | nil => cases h
  | cons x r ih =>
    simp only [Rows.uptoBulkAll]
    cases List.mem_cons.1 h with
    | inl e => subst e; omega
    | inr e => have := ih e; omega
theorem bulk_len {H : Type} (l : List (DataW H)) : l.length ≤ Rows.uptoBulkAll l := by
  induction l with
  | nil => simp [Rows.uptoBulkAll]
  | cons x r ih => have := bulk_one x; simp only [Rows.uptoBulkAll, List.length_cons]; omega
section
variable {H : Type} {enc : TypeId × Value → H} {P : Program} {W : World}
theorem bulk_row {α : Type} {k : Nat} {R : List Value → α → Prop} {t e : TypeId} (ht : P.underlying t = some (.slice e)) (hc : P.cellsOf e = k) {fuel : Nat} {v : Value} {l : List α} (hv : RdK k R W v l) {x : DataW H × List MemPlace} (hx : DataW.trod enc P W 0 (fun _ => true) true fuel t [v] = some x) :
    l.length ≤ Rows.uptoBulk x.1 ∧ ∀ i (hi : i < l.length), ∃ (n : Nat) (cs : List Value) (y : DataW H × List MemPlace), R cs l[i] ∧ DataW.trod enc P W 0 (fun _ => true) true n e cs = some y ∧ Rows.uptoBulk y.1 ≤ Rows.uptoBulk x.1 := by
  subst hc
  rcases DataW.trod_slice ht hx with ⟨hnil, rfl⟩ | ⟨a, len, cap, elems, rest, m, hn, hcs, rfl, -, hl, hm, hel, hall, -, -⟩
  · obtain rfl : v = .slice none 0 0 := by simpa using hnil
    rcases hv with ⟨a, -, rfl⟩ | ⟨g, o, cap, e, -⟩
    · exact ⟨by simp, fun i hi => absurd hi (by simp)⟩
    · cases e
  · obtain rfl : v = .slice (some a) len cap := by simpa using hcs
    rcases hv with ⟨a', e, rfl⟩ | ⟨g, o, cap', e, h1, h2, hg, h3⟩
    · exact ⟨by simp, fun i hi => absurd hi (by simp)⟩
    · cases e
      have hb : Rows.uptoBulkAll (elems.map (·.1)) + 1 ≤ Rows.uptoBulk (DataW.slice (elems.map (·.1)) (rest.map (·.1))) := by simp only [Rows.uptoBulk]; omega
      refine ⟨?_, fun i hi => ?_⟩
      · have := bulk_len (elems.map (·.1))
        rw [List.length_map, hel] at this
        simp only
        omega
      · obtain ⟨cs, hcl, hcell, hr⟩ := h3 i hi
        have h9 := hall i hi
        rw [List.getElem?_eq_getElem (by omega)] at h9
        obtain ⟨cs', hcs', htr⟩ := Option.bind_eq_some_iff.1 h9
        obtain ⟨-, hl', hat⟩ := World.cells?_some hcs'
        have hee : cs' = cs := by
          apply List.ext_getElem (by omega)
          intro j hj1 hj2
          have h5 := hat j (by omega)
          rw [List.getElem?_eq_getElem hj1, addp, addp] at h5
          have h6 := hcell j hj2
          rw [h5] at h6
          exact Option.some.inj h6
        subst hee
        refine ⟨m, cs', elems[i]'(by omega), hr, htr, ?_⟩
        have hmem : (elems[i]'(by omega)).1 ∈ elems.map (·.1) := List.mem_map.2 ⟨_, List.getElem_mem (by omega), rfl⟩
        have := bulk_part hmem
        simp only
        omega
theorem bulk_field {t : TypeId} {fs : Array Field} (hs : P.underlying t = some (.struct fs)) (hone : oneCellFields P fs = true) {i : Nat} {f : Field} (hf : fs[i]? = some f) {fuel : Nat} {cs : List Value} {c : Value} (hc : cs[i]? = some c) {x : DataW H × List MemPlace}
    (hx : DataW.trod enc P W 0 (fun _ => true) true fuel t cs = some x) : ∃ (n : Nat) (y : DataW H × List MemPlace), DataW.trod enc P W 0 (fun _ => true) true n f.type [c] = some y ∧ Rows.uptoBulk y.1 ≤ Rows.uptoBulk x.1 := by
  obtain ⟨xs, n, -, rfl, -, hlen, hg⟩ := DataW.trod_struct hs hx
  obtain ⟨o0, k0⟩ := hone_of hone i f hf
  have g0 := hg i f hf
  rw [o0, k0] at g0
  have hi : i < fs.size := (Array.getElem?_eq_some_iff.1 hf).1
  obtain ⟨hci, rfl⟩ := List.getElem?_eq_some_iff.1 hc
  have e1 : (cs.drop i).take 1 = [cs[i]] := by
    rw [List.drop_eq_getElem_cons hci]
    rfl
  rw [e1, List.getElem?_eq_getElem (by omega)] at g0
  refine ⟨n, xs[i]'(by omega), g0, ?_⟩
  have hmem : (xs[i]'(by omega)).1 ∈ xs.map (·.1) := List.mem_map.2 ⟨_, List.getElem_mem (by omega), rfl⟩
  have := bulk_part hmem
  simp only [Rows.uptoBulk]
  omega
end
theorem agg_of_cells2 {v : Value} {cs : List Value} (h : v.cells.toList = cs) (hl : 1 < cs.length) : v = .agg cs.toArray := by
  subst h
  cases v <;> simp_all [Value.cells]
section
variable {H : Type} {enc : TypeId × Value → H} {W : World}
theorem code_bulk {cs : List Value} {c : CodeP} (h : CodeM W cs c) {fuel : Nat} {x : DataW H × List MemPlace} (hx : DataW.trod enc Tryz.prog W 0 (fun _ => true) true fuel 25 cs = some x) :
    ∀ t ∈ c.threads, ∀ i ∈ t.code, i.args.length ≤ Rows.uptoBulk x.1 := by
  obtain ⟨v0, v1, rfl, h0, h1⟩ := h
  intro t ht i hi
  obtain ⟨n1, y1, hy1, hb1⟩ := bulk_field Tryz.underlying25 (by kernel_rfl) (i := 1) rfl (c := v1) rfl hx
  obtain ⟨k, hk, rfl⟩ := List.getElem_of_mem ht
  obtain ⟨n2, cs2, y2, hr2, hy2, hb2⟩ := (bulk_row Tryz.underlying23 (by kernel_rfl) h1 hy1).2 k hk
  obtain ⟨w1, w2, rfl, -, -, hc⟩ := hr2
  obtain ⟨n3, y3, hy3, hb3⟩ := bulk_field Tryz.underlying73 (by kernel_rfl) (i := 2) rfl (c := w2) rfl hy2
  obtain ⟨j, hj, rfl⟩ := List.getElem_of_mem hi
  obtain ⟨n4, cs4, y4, hr4, hy4, hb4⟩ := (bulk_row Tryz.underlying71 (by kernel_rfl) hc hy3).2 j hj
  obtain ⟨v6, rfl, -, -, -, -, -, -, hv6⟩ := hr4
  obtain ⟨n5, y5, hy5, hb5⟩ := bulk_field Tryz.underlying129 (by kernel_rfl) (i := 6) rfl (c := v6) rfl hy4
  have := (bulk_row Tryz.underlying127 (by kernel_rfl) hv6 hy5).1
  omega
theorem Opener.code_ : Opener enc Tryz.prog W 25 (CodeM W) :=
  Opener.code Tryz.underlying25 (by kernel_rfl) (by kernel_rfl) Tryz.underlying22 (by kernel_rfl) Tryz.underlying23 (by kernel_rfl)
    (Opener.dcl Tryz.underlying76 (by kernel_rfl) (by kernel_rfl) Tryz.underlying74 Tryz.underlying9 Tryz.underlying2 Tryz.underlying9 Tryz.underlying3)
    (Opener.text Tryz.underlying73 (by kernel_rfl) (by kernel_rfl) Tryz.underlying9 Tryz.underlying70 Tryz.underlying9 (by kernel_rfl) Tryz.underlying71 (by kernel_rfl)
      (Opener.ins Tryz.underlying129 (by kernel_rfl) (by kernel_rfl) Tryz.underlying126 Tryz.underlying27 Tryz.underlying3 Tryz.underlying3 Tryz.underlying3 Tryz.underlying2 Tryz.underlying127 (by kernel_rfl)
        (open_ex Tryz.underlying132 (by kernel_rfl) (by kernel_rfl) Tryz.underlying130 Tryz.underlying9 Tryz.underlying2 Tryz.underlying127)))
theorem arg_code {v : Value} {d : DataW H} {ps : List MemPlace} (h : DataW.Trod enc Tryz.prog W 0 (fun _ => true) true 25 v d ps) :
    ∃ (v0 v1 : Value) (c : CodeP), v = .agg #[v0, v1] ∧ CodeM W [v0, v1] c ∧ ∀ t ∈ c.threads, ∀ i ∈ t.code, i.args.length ≤ Rows.uptoBulk d := by
  have h' := h
  obtain ⟨c, hc⟩ := open_arg Opener.code_ h
  obtain ⟨v0, v1, e, h0, h1⟩ := hc
  refine ⟨v0, v1, c, agg_of_cells2 e (by simp), ⟨v0, v1, rfl, h0, h1⟩, ?_⟩
  obtain ⟨fuel, hx⟩ := h'
  exact code_bulk ⟨v0, v1, e, h0, h1⟩ hx
theorem Opener.ev_ : Opener enc Tryz.prog W 29 isEv :=
  (Opener.struct5 Tryz.underlying29 (by kernel_rfl) (by kernel_rfl) (Opener.i64 Tryz.underlying3) (Opener.u8 Tryz.underlying27) (Opener.i64 Tryz.underlying3) (Opener.i64 Tryz.underlying2) (Opener.i64 Tryz.underlying2)).imp
    fun cs ⟨x0, x1, x2, x3, x4⟩ ⟨v0, v1, v2, v3, v4, hc, e0, e1, e2, e3, e4⟩ => by
      obtain ⟨rfl, l0⟩ := i64_cell e0
      obtain rfl := u8_cell e1
      obtain ⟨rfl, l2⟩ := i64_cell e2
      obtain ⟨rfl, l3⟩ := i64_cell e3
      obtain ⟨rfl, l4⟩ := i64_cell e4
      exact ⟨⟨x0, x1, x2, x3, x4⟩, hc, ⟨l0, l2, l3, l4⟩⟩
theorem arg_events {r : Reach} {b0 : Nat} {v : Value} {d : DataW H} {ps : List MemPlace} (hval : Value.okWide Tryz.prog W r b0 39 v) (h : DataW.Trod enc Tryz.prog W 0 (fun _ => true) true 39 v d ps) :
    ∃ l : List Ev, RdK 5 isEv W v l := arg_slice (k := 5) Tryz.underlying39 (by kernel_rfl) (by omega) Opener.ev_ hval h
end
end Go.Proofs.YtcmaedoolinijaaGreatDoor
