/-
  Texts merged by a program of this claim's: DocC, Twin.
-/
import Derived.Test.YtkhcdbafcigeoaaGreatDoorM27
namespace Go.Proofs.YtkhcdbafcigeoaaGreatDoor
open Go Go.RowKit Go.Sort
set_option maxRecDepth 100000
set_option maxHeartbeats 3200000

section
variable {X : Nat → Prop} {d d' : Dsk} {v : Value} {w wk w' : World} {m la m' la' : Int} {a a' : Option Addr} {n c n' c' : Nat} {dn dn' : Bool}
structure Stt (X : Nat → Prop) (w wk : World) (d : Dsk) (m : Int) (a : Option Addr) (n c : Nat) (la : Int) (dn : Bool) : Prop where
  nw : Nw w wk
  lt : w.heap.size + 2 ≤ wk.heap.size
  box : wk.heap[w.heap.size]? = some (DB (.int .i64 m) (.slice a n c) (.int .i64 la) (.bool dn))
  res : ∃ u0 u1 u2 u3, wk.heap[w.heap.size + 1]? = some (DB u0 u1 u2 u3)
  rd : RD (fun k => X k ∧ k < w.heap.size ∨ w.heap.size + 2 ≤ k) wk (.agg #[.int .i64 m, .slice a n c, .int .i64 la, .bool dn]) d
theorem Stt.new (h : RD X w (.agg #[.int .i64 m, .slice a n c, .int .i64 la, .bool dn]) d) : Stt X w ((w.alloc (DB (.int .i64 m) (.slice a n c) (.int .i64 la) (.bool dn))).alloc (DB (.int .i64 0) (.slice none 0 0) (.int .i64 0) (.bool false))) d m a n c la dn := by
  obtain ⟨h1, h2, h3, h4⟩ := boxes_in w (DB (.int .i64 m) (.slice a n c) (.int .i64 la) (.bool dn)) (DB (.int .i64 0) (.slice none 0 0) (.int .i64 0) (.bool false))
  exact ⟨h1, by omega, h2, ⟨_, _, _, _, h3⟩, (h.narrow.nw h1).mono fun k hk => .inl hk⟩
theorem Stt.on (h : Stt X w wk d m a n c la dn) (hn : Nw wk w') : Stt X w w' d m a n c la dn := by
  obtain ⟨u0, u1, u2, u3, hr⟩ := h.res
  exact ⟨h.nw.trans hn, Nat.le_trans h.lt hn.size, hn.at_ h.box, ⟨u0, u1, u2, u3, hn.at_ hr⟩, h.rd.nw hn⟩
theorem Stt.fresh (h : Stt X w wk d m a n c la dn) : ∀ k, wk.heap.size ≤ k → (X k ∧ k < w.heap.size ∨ w.heap.size + 2 ≤ k) := fun k hk => .inr (Nat.le_trans h.lt hk)
theorem Stt.step (h : Stt X w wk d m a n c la dn) (hd : RD (fun k => X k ∧ k < w.heap.size ∨ w.heap.size + 2 ≤ k) w' (.agg #[.int .i64 m', .slice a' n' c', .int .i64 la', .bool dn']) d') (hn : Nw wk w') :
    ∃ w2, ((((w'.setCell ⟨w.heap.size, 0, none⟩ (.int .i64 m')).setCell ⟨w.heap.size, 1, none⟩ (.slice a' n' c')).setCell ⟨w.heap.size, 2, none⟩ (.int .i64 la')).setCell ⟨w.heap.size, 3, none⟩ (.bool dn')) = w2 ∧ Stt X w w2 d' m' a' n' c' la' dn' ∧ Only (fun k => k = w.heap.size) w' w2 := by
  have h2 := h.on hn
  obtain ⟨u0, u1, u2, u3, hr⟩ := h2.res
  have hO := only_set4 w' w.heap.size (.int .i64 m') (.slice a' n' c') (.int .i64 la') (.bool dn')
  refine ⟨_, rfl, ⟨h2.nw.trans' hO (fun k hk e => by omega), Nat.le_trans h2.lt hO.size, heap_set4 h2.box _ _ _ _, ⟨u0, u1, u2, u3, hO.at_ hr (by omega)⟩, hd.put hO (fun k hk _ e => ?_)⟩, hO⟩
  rcases hk with hk | hk
  · omega
  · omega
theorem Stt.fin (hX : ∀ k, w.heap.size ≤ k → X k) (h : Stt X w wk d m a n c la dn) :
    ∃ w4, ((((wk.setCell ⟨w.heap.size + 1, 0, none⟩ (.int .i64 m)).setCell ⟨w.heap.size + 1, 1, none⟩ (.slice a n c)).setCell ⟨w.heap.size + 1, 2, none⟩ (.int .i64 la)).setCell ⟨w.heap.size + 1, 3, none⟩ (.bool dn)) = w4 ∧ RD X w4 (.agg #[.int .i64 m, .slice a n c, .int .i64 la, .bool dn]) d ∧ Nw w w4 ∧ Only (fun k => k = w.heap.size + 1) wk w4 ∧ w4.heap[w.heap.size + 1]? = some (DB (.int .i64 m) (.slice a n c) (.int .i64 la) (.bool dn)) := by
  obtain ⟨u0, u1, u2, u3, hr⟩ := h.res
  refine set4_end h.nw (by omega) hr h.rd (fun k hk => ?_)
  rcases hk with hk | hk
  · exact ⟨hk.1, by omega⟩
  · exact ⟨hX k (by omega), by omega⟩
theorem Stt.cells (h : Stt X w wk d m a n c la dn) : wk.cell? ⟨w.heap.size, 0, none⟩ = some (.int .i64 m) ∧ wk.cell? ⟨w.heap.size, 1, none⟩ = some (.slice a n c) ∧ wk.cell? ⟨w.heap.size, 2, none⟩ = some (.int .i64 la) ∧ wk.cell? ⟨w.heap.size, 3, none⟩ = some (.bool dn) ∧
    wk.frozen? ⟨w.heap.size, 0, none⟩ = false ∧ wk.frozen? ⟨w.heap.size, 1, none⟩ = false ∧ wk.frozen? ⟨w.heap.size, 2, none⟩ = false ∧ wk.frozen? ⟨w.heap.size, 3, none⟩ = false := box_cells h.box
end
end Go.Proofs.YtkhcdbafcigeoaaGreatDoor

namespace Go.Proofs.YtkhcdbafcigeoaaGreatDoor
open Go Go.RowKit Go.Sort
set_option maxRecDepth 100000
set_option maxHeartbeats 800000
def Tw (Y : Nat → Prop) (w0 w : World) (b : Nat) (dp : Dsk) (v : Value) (dd : Dsk) : Prop := ∃ X, HasX (fun k => X k ∨ Y k) w0 w b dp ∧ RD X w v dd ∧ ∀ k, X k → ¬ Y k
section
variable {Y Z : Nat → Prop} {w0 w w' : World} {b : Nat} {dp dp' dd dd' d : Dsk} {v : Value}
theorem Kept.at_ {X : Nat → Prop} (h : Kept X w w') {k : Nat} {u : Obj} (hk : w.heap[k]? = some u) (hx : X k) : w'.heap[k]? = some u := by
  rw [h.2 k hx (lt_of_block hk)]
  exact hk
theorem Tw.has (h : Tw Y w0 w b dp v dd) : HasX Y w0 w b dp := by
  obtain ⟨X, h1, -, -⟩ := h
  exact h1.weak fun k hk => .inr hk
theorem Tw.base (h : Tw Y w0 w b dp v dd) : Nw w0 w := h.has.base
theorem Tw.lt (h : Tw Y w0 w b dp v dd) : ∀ k, Y k → k < w.heap.size := h.has.lt
theorem HasX.old {X : Nat → Prop} (h : HasX X w0 w b d) : HasX (fun k => X k ∨ k < w0.heap.size) w0 w b d := by
  obtain ⟨S, h1, h2, h3, h4⟩ := h
  refine ⟨S, h1, h2, h3, fun k hk => ?_⟩
  rcases hk with hk | hk
  · exact h4 k hk
  · exact ⟨Nat.lt_of_lt_of_le hk h2.size, fun hs => by have := h3 k hs; omega⟩
theorem HasX.reb {X : Nat → Prop} {w1 : World} (h : HasX X w0 w b d) (hn : Nw w1 w0) : HasX X w1 w b d := by
  obtain ⟨S, h1, h2, h3, h4⟩ := h
  exact ⟨S, h1, hn.trans h2, fun k hk => Nat.le_trans hn.size (h3 k hk), h4⟩
theorem Tw.rebase {w1 : World} (h : Tw Y w0 w b dp v dd) (hn : Nw w1 w0) : Tw Y w1 w b dp v dd := by
  obtain ⟨X, h1, h2, h3⟩ := h
  exact ⟨X, h1.reb hn, h2, h3⟩
theorem Tw.doc (h : Tw Y w0 w b dp v dd) : ∃ X, RD X w v dd := by
  obtain ⟨X, -, h2, -⟩ := h
  exact ⟨X, h2⟩
theorem Tw.weak (h : Tw Y w0 w b dp v dd) (hy : ∀ k, Z k → Y k) : Tw Z w0 w b dp v dd := by
  obtain ⟨X, h1, h2, h3⟩ := h
  exact ⟨X, h1.weak fun k hk => hk.imp id (hy k), h2, fun k hk hz => h3 k hk (hy k hz)⟩
theorem Tw.nw (h : Tw Y w0 w b dp v dd) (hw : Nw w w') : Tw Y w0 w' b dp v dd := by
  obtain ⟨X, h1, h2, h3⟩ := h
  exact ⟨X, h1.nw hw, h2.nw hw, h3⟩
theorem Tw.put {T : Nat → Prop} (h : Tw Y w0 w b dp v dd) (hw : Only T w w') (ht : ∀ k, T k → k < w.heap.size → Y k ∧ w0.heap.size ≤ k) (hy : ∀ k, Z k → Y k ∨ w.heap.size ≤ k ∧ k < w'.heap.size) : Tw Z w0 w' b dp v dd := by
  obtain ⟨X, h1, h2, h3⟩ := h
  have hlt := h1.lt
  refine ⟨X, h1.put hw (fun k hk hl => ⟨.inr (ht k hk hl).1, (ht k hk hl).2⟩) (fun k hk => ?_), h2.put hw (fun k hk hl hT => h3 k hk (ht k hT hl).1), fun k hk hz => ?_⟩
  · rcases hk with hk | hk
    · exact .inl (.inl hk)
    · exact (hy k hk).imp .inr id
  · rcases hy k hz with h | h
    · exact h3 k hk h
    · have := hlt k (.inl hk); omega
theorem Tw.nwY (h : Tw Y w0 w b dp v dd) (hw : Nw w w') (hy : ∀ k, Z k → Y k ∨ w.heap.size ≤ k ∧ k < w'.heap.size) : Tw Z w0 w' b dp v dd := h.put hw (fun _ hf => hf.elim) hy
theorem Tw.new (h : HasX Y w0 w b dp) (hr : RD (fun k => w.heap.size ≤ k) w' v dd) (hw : Nw w w') : Tw Y w0 w' b dp v dd := by
  refine ⟨fun k => w.heap.size ≤ k ∧ k < w'.heap.size, h.nwY hw (fun k hk => hk.symm), hr.narrow, fun k hk hy => ?_⟩
  have := h.lt k hy
  omega
theorem Tw.dsk {P : Program} {f : FuncId} {args : Array Value} {y : Value} (h : Tw Y w0 w b dp v dd)
    (hc : ∀ X : Nat → Prop, (∀ k, Y k → X k) → HasX X w0 w b dp → Calls P f args w (DidX X w0 w b dp' y)) :
    Calls P f args w fun e w' => e = .returned y ∧ Tw Y w0 w' b dp' v dd ∧ Kept Y w w' := by
  obtain ⟨X, h1, h2, h3⟩ := h
  refine (hc _ (fun k hk => .inr hk) h1).mono ?_
  rintro e w' ⟨he, hx, hk⟩
  exact ⟨he, ⟨X, hx, ⟨h2.1, h2.2.elim fun r hr => ⟨r, hr.1.kept (hk.weak fun k hk => .inl hk), hr.2⟩⟩, h3⟩, hk.weak fun k hk => .inr hk⟩
theorem Tw.does {P : Program} {f : FuncId} {args : Array Value} {R : (Nat → Prop) → Ending → World → Prop} (h : Tw Y w0 w b dp v dd)
    (hc : ∀ X : Nat → Prop, (∀ k, Y k → X k) → HasX X w0 w b dp → Calls P f args w fun e w' => R X e w' ∧ HasX X w0 w' b dp' ∧ Kept X w w') :
    Calls P f args w fun e w' => ∃ X, (∀ k, Y k → X k) ∧ R X e w' ∧ Tw Y w0 w' b dp' v dd ∧ Kept X w w' := by
  obtain ⟨X, h1, h2, h3⟩ := h
  refine (hc _ (fun k hk => .inr hk) h1).mono ?_
  rintro e w' ⟨he, hx, hk⟩
  exact ⟨_, fun k hk => .inr hk, he, ⟨X, hx, ⟨h2.1, h2.2.elim fun r hr => ⟨r, hr.1.kept (hk.weak fun k hk => .inl hk), hr.2⟩⟩, h3⟩, hk⟩
theorem Tw.docs {P : Program} {f : FuncId} {args : Array Value} {E : Ending → Value → World → Prop} (h : Tw Y w0 w b dp v dd)
    (hc : ∀ X : Nat → Prop, (∀ k, w.heap.size ≤ k → X k) → RD X w v dd → Calls P f args w fun e w' => ∃ v', E e v' w' ∧ RD X w' v' dd' ∧ Nw w w') :
    Calls P f args w fun e w' => ∃ v', E e v' w' ∧ Tw Y w0 w' b dp v' dd' ∧ Nw w w' := by
  obtain ⟨X, h1, h2, h3⟩ := h
  have hlt := h1.lt
  refine (hc (fun k => X k ∨ w.heap.size ≤ k) (fun k hk => .inr hk) (h2.mono fun k hk => .inl hk)).mono ?_
  rintro e w' ⟨v', he, hr, hn⟩
  refine ⟨v', he, ⟨fun k => X k ∨ (w.heap.size ≤ k ∧ k < w'.heap.size), h1.nwY hn (fun k hk => ?_), hr.narrow.mono (fun k hk => ?_), fun k hk hy => ?_⟩, hn⟩
  · rcases hk with (hk | hk) | hk
    · exact .inl (.inl hk)
    · exact .inr hk
    · exact .inl (.inr hk)
  · rcases hk with ⟨h | h, h'⟩
    · exact .inl h
    · exact .inr ⟨h, h'⟩
  · rcases hk with hk | hk
    · exact h3 k hk hy
    · have := hlt k (.inr hy); omega
theorem Tw.rde {P : Program} {f : FuncId} {args : Array Value} {x : Int} (h : Tw Y w0 w b dp v dd)
    (hc : ∀ X : Nat → Prop, (∀ k, w.heap.size ≤ k → X k) → RD X w v dd → Calls P f args w (RDE X w dd' x)) :
    Calls P f args w fun e w' => ∃ (m : Int) (a : Option Addr) (n c : Nat) (la : Int) (dn : Bool), e = .returned (.tuple #[.agg #[.int .i64 m, .slice a n c, .int .i64 la, .bool dn], .int .i64 x]) ∧ Tw Y w0 w' b dp (.agg #[.int .i64 m, .slice a n c, .int .i64 la, .bool dn]) dd' ∧ Nw w w' := by
  refine (h.docs (dd' := dd') (E := fun e v' _ => ∃ (m : Int) (a : Option Addr) (n c : Nat) (la : Int) (dn : Bool), v' = .agg #[.int .i64 m, .slice a n c, .int .i64 la, .bool dn] ∧ e = .returned (.tuple #[v', .int .i64 x])) (fun X hX hR => (hc X hX hR).mono ?_)).mono ?_
  · rintro e w' ⟨m, a, n, c, la, dn, rfl, h1, h2⟩
    exact ⟨_, ⟨m, a, n, c, la, dn, rfl, rfl⟩, h1, h2⟩
  · rintro e w' ⟨v', ⟨m, a, n, c, la, dn, rfl, rfl⟩, h1, h2⟩
    exact ⟨m, a, n, c, la, dn, rfl, h1, h2⟩
theorem Tw.parts (h : Tw Y w0 w b dp v dd) : ∃ (m : Int) (a : Option Addr) (n c : Nat) (la : Int) (dn : Bool), v = .agg #[.int .i64 m, .slice a n c, .int .i64 la, .bool dn] := by
  obtain ⟨X, h2⟩ := h.doc
  exact h2.parts
theorem Tw.same (h : Tw Y w0 w b d v d) : Calls Tryz.prog 36 #[.pointer (some ⟨b, 0, none⟩), v] w fun e w' => e = .returned (.bool true) ∧ Nw w w' := by
  obtain ⟨S, hS, -⟩ := h.has
  obtain ⟨X, -, r, hr, ho⟩ := h.doc
  exact SameDisk_ok hS hr ho
theorem rd_new (m : Int) (h0 : 0 ≤ m) (h1 : m ≤ 16777216) (w : World) (X : Nat → Prop) : RD X w (.agg #[.int .i64 m, .slice none 0 0, .int .i64 (-1), .bool false]) (newDsk m) :=
  ⟨⟨h0, h1, by simp [newDsk], by simp [newDsk], List.nodup_nil, (fun n hn => (List.not_mem_nil hn).elim), by simp [newDsk], (by simpa [newDsk, usedF] using h0), (fun x hx => (List.not_mem_nil hx).elim)⟩, newDsk m, ⟨_, rfl, [], ⟨rfl, .inl ⟨none, rfl, rfl⟩⟩, rfl, fun hne => absurd rfl hne⟩, ref_new m⟩
end
end Go.Proofs.YtkhcdbafcigeoaaGreatDoor
