/-
  Texts merged by a program of this claim's: LPlaysC.
-/
import Derived.Test.YtkbenkldfehhlaaGreatDoorM26
import Derived.Test.YtkbenkldfehhlaaGreatDoorM18
namespace Go.Proofs.YtkbenkldfehhlaaGreatDoor
open Go Go.RowKit Go.Sort
set_option maxRecDepth 100000
set_option maxHeartbeats 1600000
def TC (X Y : Nat → Prop) (w0 w : World) (p b : Nat) (dp : Dsk) (L : Lg) (dv : Value) (dd : Dsk) : Prop := HasL (fun k => XO X w0 k ∨ Y k) w0 w p b dp L ∧ RD (XO X w0) w dv dd ∧ ∀ k, X k → ¬ Y k
structure PLs (W w : World) (b p pw pv : Nat) (d : Dsk) (L : Lg) (m : Int) (a : Option Addr) (n c : Nat) (la : Int) (dn : Bool) (pa : Option Addr) (pc : Nat) : Prop where
  ex : ∃ X, TL X (fun k => k = pw ∨ k = pv) W w p b d L (dvV m a n c la dn) d (lvV L pa pc) L
  w0 : W.heap.size ≤ pw ∧ W.heap.size ≤ pv
  ne : pw ≠ pv
  bw : w.heap[pw]? = some (DB (.int .i64 m) (.slice a n c) (.int .i64 la) (.bool dn))
  bv : w.heap[pv]? = some (logB L pa pc)
section
variable {X Y Z : Nat → Prop} {W w0 w w' : World} {p b pw pv po : Nat} {d dp dp' dd dd' : Dsk} {L L' Ld : Lg} {dv v : Value} {o : LOp} {ve vp : Value} {m la : Int} {a pa : Option Addr} {n c pc : Nat} {dn : Bool}
theorem Tw.created {P : Program} {f : FuncId} {args : Array Value} {x : Int} (h : Tw Y w0 w b dp v dd) (hc : ∀ Z : Nat → Prop, (∀ k, Y k → Z k) → HasX Z w0 w b dp → Calls P f args w (Created Z w0 w b dp' x L')) :
    Calls P f args w fun e w' => Kept Y w w' ∧ ((x = 0 ∧ ∃ p X, e = .returned (.tuple #[.pointer (some ⟨p, 0, none⟩), .int .i64 0]) ∧ TC X Y w0 w' p b dp' L' v dd) ∨ (x ≠ 0 ∧ e = .returned (.tuple #[.pointer none, .int .i64 x]) ∧ Tw Y w0 w' b dp' v dd)) := by
  obtain ⟨X, h1, h2, h3⟩ := h
  refine (hc (fun k => XO X w0 k ∨ Y k) (fun k hk => .inr hk) (h1.old.weak fun k hk => ?_)).mono ?_
  · rcases hk with (hk | hk) | hk
    · exact .inl (.inl hk)
    · exact .inr hk
    · exact .inl (.inr hk)
  · rintro e w' ⟨hk, hh⟩
    refine ⟨hk.weak fun k hk => .inr hk, ?_⟩
    have hr := RD.kept h2 (hk.weak fun k hk => .inl (.inl hk))
    rcases hh with ⟨h0, p', he, hn⟩ | ⟨h0, he, hx⟩
    · exact .inl ⟨h0, p', X, he, hn, hr.mono (fun k hk => .inl hk), h3⟩
    · exact .inr ⟨h0, he, X, hx.weak (fun k hk => hk.imp (fun e => .inl e) id), hr, h3⟩
theorem Tw.rdm {P : Program} {f : FuncId} {args : Array Value} {x : Int} (h : Tw Y w0 w b dp v dd)
    (hc : ∀ X : Nat → Prop, (∀ k, w.heap.size ≤ k → X k) → RD X w v dd → Calls P f args w (RDM X w dd' L' x)) :
    Calls P f args w fun e w' => ∃ (m : Int) (a : Option Addr) (n c : Nat) (la : Int) (dn : Bool) (pa : Option Addr) (pc : Nat), e = .returned (.tuple #[dvV m a n c la dn, lvV L' pa pc, .int .i64 x]) ∧ Tw Y w0 w' b dp (dvV m a n c la dn) dd' ∧ Nw w w' := by
  refine (h.docs (dd' := dd') (E := fun e v' _ => ∃ (m : Int) (a : Option Addr) (n c : Nat) (la : Int) (dn : Bool) (pa : Option Addr) (pc : Nat), v' = dvV m a n c la dn ∧ e = .returned (.tuple #[v', lvV L' pa pc, .int .i64 x])) (fun X hX hR => (hc X hX hR).mono ?_)).mono ?_
  · rintro e w' ⟨m, a, n, c, la, dn, pa, pc, rfl, h1, -, h2, -⟩
    exact ⟨_, ⟨m, a, n, c, la, dn, pa, pc, rfl, rfl⟩, h1, h2⟩
  · rintro e w' ⟨v', ⟨m, a, n, c, la, dn, pa, pc, rfl, rfl⟩, h1, h2⟩
    exact ⟨m, a, n, c, la, dn, pa, pc, rfl, h1, h2⟩
theorem TC.rdm {P : Program} {f : FuncId} {args : Array Value} {x : Int} (h : TC X Y w0 w p b dp L v dd) (hne : L'.l ≠ [])
    (hc : ∀ X : Nat → Prop, (∀ k, w.heap.size ≤ k → X k) → RD X w v dd → Calls P f args w (RDM X w dd' L' x)) :
    Calls P f args w fun e w' => ∃ (m : Int) (a : Option Addr) (n c : Nat) (la : Int) (dn : Bool) (pa : Option Addr) (pc : Nat), e = .returned (.tuple #[dvV m a n c la dn, lvV L' pa pc, .int .i64 x]) ∧ TL (wid X w w') Y w0 w' p b dp L (dvV m a n c la dn) dd' (lvV L' pa pc) L' ∧ Nw w w' := by
  obtain ⟨h1, h2, h3⟩ := h
  have hlt := h1.has.lt
  refine (hc (fun k => XO X w0 k ∨ w.heap.size ≤ k) (fun k hk => .inr hk) (h2.mono fun k hk => .inl hk)).mono ?_
  rintro e w' ⟨m, a, n, c, la, dn, pa, pc, he, hd, hl, hn, -⟩
  refine ⟨m, a, n, c, la, dn, pa, pc, he, ⟨h1.grow (Z := fun _ => False) (Y := fun k => XO (wid X w w') w0 k ∨ Y k) hn (fun k hk => hk.elim) (fun k hk => ?_), hd.narrow.mono (fun k hk => wid_in hk.1 hk.2), (LogV.inw hl hne).mono (fun k hk => wid_in hk.1 hk.2), fun k hk hy => ?_, hne⟩, hn⟩
  · rcases hk with ((hk | hk) | hk) | hk
    · exact .inl (.inl (.inl hk))
    · exact .inr hk
    · exact .inl (.inl (.inr hk))
    · exact .inl (.inr hk)
  · rcases hk with hk | hk
    · exact h3 k hk hy
    · have := hlt k (.inr hy); omega
theorem chain10 {u0 u1 u2 u3 : Value} (hb : w.heap[pw]? = some (DB u0 u1 u2 u3)) (m : Int) (a : Option Addr) (n c : Nat) (la : Int) (dn : Bool) (L : Lg) (pa : Option Addr) (pc : Nat) :
    let C := (((((w.setCell ⟨pw, 0, none⟩ (.int .i64 m)).setCell ⟨pw, 1, none⟩ (.slice a n c)).setCell ⟨pw, 2, none⟩ (.int .i64 la)).setCell ⟨pw, 3, none⟩ (.bool dn)).alloc (logB L pa pc))
    Only (fun k => k = pw) w C ∧ C.heap[pw]? = some (DB (.int .i64 m) (.slice a n c) (.int .i64 la) (.bool dn)) ∧ C.heap[w.heap.size]? = some (logB L pa pc) ∧ w.heap.size < C.heap.size := by
  have hO1 := only_set4 w pw (.int .i64 m) (.slice a n c) (.int .i64 la) (.bool dn)
  have hB1 := heap_set4 hb (.int .i64 m) (.slice a n c) (.int .i64 la) (.bool dn)
  have hS : ((((w.setCell ⟨pw, 0, none⟩ (.int .i64 m)).setCell ⟨pw, 1, none⟩ (.slice a n c)).setCell ⟨pw, 2, none⟩ (.int .i64 la)).setCell ⟨pw, 3, none⟩ (.bool dn)).heap.size = w.heap.size := by simp
  generalize ((((w.setCell ⟨pw, 0, none⟩ (.int .i64 m)).setCell ⟨pw, 1, none⟩ (.slice a n c)).setCell ⟨pw, 2, none⟩ (.int .i64 la)).setCell ⟨pw, 3, none⟩ (.bool dn)) = w3 at hO1 hB1 hS ⊢
  have hna := (Nw.refl w3).alloc (logB L pa pc)
  have hv := heap_alloc_new w3 (logB L pa pc)
  rw [hS] at hv
  exact ⟨hO1.trans (hna.mono (fun k _ hk => hk.elim)), hna.at_ hB1, hv, by rw [World.size_alloc, hS]; omega⟩
theorem PLs.of (h : TL X (fun k => k = pw) W w p b d L (dvV m a n c la dn) d (lvV L pa pc) L) (h0 : W.heap.size ≤ pw) (ho : Only (fun k => k = pw) w w') (hb : w'.heap[pw]? = some (DB (.int .i64 m) (.slice a n c) (.int .i64 la) (.bool dn))) (hv : w'.heap[w.heap.size]? = some (logB L pa pc)) (hsz : w.heap.size < w'.heap.size) : PLs W w' b p pw w.heap.size d L m a n c la dn pa pc := by
  have hlt := h.lt pw (.inr rfl)
  exact ⟨⟨X, h.put ho (fun k hk _ => ⟨hk, by rw [hk]; exact h0⟩) (fun k hk => hk.imp id fun e => ⟨by omega, by omega⟩)⟩, ⟨h0, h.base.size⟩, by omega, hb, hv⟩
theorem PLs.op (h : PLs W w b p pw pv d L m a n c la dn pa pc) (ho : LOpIs W [.int .i64 o.kind, .int .i64 o.n, .string ⟨o.name.toArray⟩, ve, vp] o ve vp) (hn : Nw w w') (hs : w.heap.size < w'.heap.size) (hb : w'.heap[w.heap.size]? = some (opB o ve vp)) :
    QM W w' b p pw pv w.heap.size d L d L o ve vp m a n c la dn pa pc := by
  obtain ⟨X, hx⟩ := h.ex
  have h1 := hx.lt pw (.inr (.inl rfl))
  have h2 := hx.lt pv (.inr (.inr rfl))
  refine ⟨⟨X, hx.nwY hn (fun k hk => ?_), ho, hb, ⟨h.w0.1, h.w0.2, hx.base.size⟩, ⟨h.ne, by omega, by omega⟩, ⟨_, _, _, _, hn.at_ h.bw⟩, ⟨_, _, _, _, _, _, hn.at_ h.bv⟩⟩, hn.at_ h.bw, hn.at_ h.bv⟩
  rcases hk with e | e | e
  · exact .inl (.inl e)
  · exact .inl (.inr e)
  · exact .inr ⟨by omega, by omega⟩
theorem QM.pl (h : QM W w b p pw pv po d L d L o ve vp m a n c la dn pa pc) : PLs W w b p pw pv d L m a n c la dn pa pc := by
  obtain ⟨X, hx⟩ := h.ex
  exact ⟨⟨X, hx.tl.nwY (Nw.refl _) (fun k hk => .inl (hk.elim .inl fun e => .inr (.inl e)))⟩, ⟨hx.w0.1, hx.w0.2.1⟩, hx.ne.1, h.bw, h.bv⟩
theorem PLs.base (h : PLs W w b p pw pv d L m a n c la dn pa pc) : Nw W w := h.ex.elim fun _ hx => hx.base
theorem PLs.nw (h : PLs W w b p pw pv d L m a n c la dn pa pc) (hw : Nw w w') : PLs W w' b p pw pv d L m a n c la dn pa pc := ⟨h.ex.elim fun X hx => ⟨X, hx.nw hw⟩, h.w0, h.ne, hw.at_ h.bw, hw.at_ h.bv⟩
end
end Go.Proofs.YtkbenkldfehhlaaGreatDoor
