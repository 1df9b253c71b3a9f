/-
  Texts merged by a program of this claim's: LPlaysM.
-/
import Derived.Test.YtkbenkldfehhlaaGreatDoorM24
import Derived.Test.YtkbenkldfehhlaaGreatDoorM19
namespace Go.Proofs.YtkbenkldfehhlaaGreatDoor
open Go Go.RowKit Go.Sort
set_option maxRecDepth 100000
set_option maxHeartbeats 1600000
structure LOp where
  kind : Int
  n : Int
  name : Str
  es : List Ev
  ps : List Pc
structure LOpIs (W : World) (cs : List Value) (o : LOp) (ve vp : Value) : Prop where
  cells : cs = [.int .i64 o.kind, .int .i64 o.n, .string ⟨o.name.toArray⟩, ve, vp]
  es : Evs W ve o.es
  ps : Pcs W vp o.ps
  name : o.name.length ≤ 9223372036854775807
  n0 : -9223372036854775808 ≤ o.n
  n1 : o.n ≤ 9223372036854775807
def isLOp (W : World) (cs : List Value) (o : LOp) : Prop := ∃ ve vp, LOpIs W cs o ve vp
theorem opener_lop {H : Type} {enc : TypeId × Value → H} {W : World} : Opener enc Tryz.prog W 65 (isLOp W) := by
  refine Opener.imp (Opener.struct5 Tryz.underlying65 (by kernel_rfl) (by kernel_rfl) (Opener.i64 Tryz.underlying3) (Opener.i64 Tryz.underlying3) (Opener.str Tryz.underlying9)
    Opener.evs ((Opener.slice (k := 4) Tryz.underlying32 (by kernel_rfl) (by omega) Opener.pc).imp fun _ l ⟨v, hv, h⟩ => (⟨l, v, hv, h.pcs⟩ : ∃ l : List Pc, ∃ v, _ = [v] ∧ Pcs W v l))) ?_
  rintro cs ⟨k, n, a, l, q⟩ ⟨v0, v1, v2, v3, v4, rfl, h0, h1, h2, ⟨u3, h3, he⟩, ⟨u4, h4, hp⟩⟩
  have e0 := List.singleton_inj.1 h0.1
  have e1 := List.singleton_inj.1 h1.1
  have e2 := List.singleton_inj.1 h2.1
  have e3 := List.singleton_inj.1 h3
  have e4 := List.singleton_inj.1 h4
  exact ⟨⟨k, n, a, l, q⟩, u3, u4, by rw [e0, e1, e2, e3, e4], he, hp, h2.2, h1.2.1, h1.2.2⟩
theorem SmallPieces_le {w : World} {v : Value} {l : List Pc} (hv : Pcs w v l) :
    Calls Tryz.prog 27 #[v] w fun e w' => ∃ x, e = .returned (.bool x) ∧ w = w' ∧ (x = true → l.length ≤ 120) := by
  obtain ⟨a, cap, rfl, hc, hm, hel⟩ := hv.elem
  have HE := Lib.hid hel
  obtain ⟨n, hn⟩ : ∃ n, l.length = n := ⟨_, rfl⟩
  have HN := Lib.hid hn
  rw [hn] at hc ⊢
  clear hel hv hn
  by_cases h2 : 120 < n
  · have q : decide ((120 : Int) < (n : Int)) = true := by simp; omega
    have H2 := Lib.hid h2
    clear h2
    go_enter Tryz.func27, Tryz.ntmps27
    go_wp2
    go_ret
    exact ⟨false, rfl, rfl, fun h => by cases h⟩
  have q : decide ((120 : Int) < (n : Int)) = false := by simp; omega
  have H2 : Hid (n ≤ 120) := Lib.hid (by omega)
  go_enter Tryz.func27, Tryz.ntmps27
  go_wp2
  go_loopw [3] (fun iv wr => ∃ k : Nat, k ≤ n ∧ iv = .int .i64 k ∧ w = wr) (fun iv _ => n - (intOf iv).toNat)
  case atStart => exact ⟨0, by omega, rfl, rfl⟩
  case round =>
    obtain ⟨k, hk, rfl, rfl⟩ := hrel
    by_cases hkn : k < n
    · obtain ⟨g, o, rfl, hg, c0, -, -, -⟩ := HE.out k (by rw [HN.out]; exact hkn)
      obtain ⟨nm, hnm⟩ : ∃ x, (l[k]'(by rw [HN.out]; exact hkn)).name = x := ⟨_, rfl⟩
      rw [hnm] at c0
      obtain ⟨nl, hnl⟩ : ∃ x, nm.length = x := ⟨_, rfl⟩
      have HNL := Lib.hid hnl
      have q1 : decide ((k : Int) < (n : Int)) = true := by simp; omega
      have hwk : IntKind.i64.wrap ((k : Int) + 1) = ((k + 1 : Nat) : Int) := by rw [← Int.natCast_one, ← Int.natCast_add]; exact IntWalk.i64_in _ (by omega)
      clear hnm
      by_cases h3 : 100 < nl
      · have q2 : decide ((100 : Int) < (nl : Int)) = true := by simp; omega
        go_wp2
        go_ret
        exact ⟨false, rfl, rfl, fun h => by cases h⟩
      · have q2 : decide ((100 : Int) < (nl : Int)) = false := by simp; omega
        go_wp2
        go_roundw
        case rel => exact ⟨k + 1, by omega, by first | rfl | (simp; done) | rw [hwk], by trivial⟩
        case measure => simp [intOf]; omega
    · have q1 : decide ((k : Int) < (n : Int)) = false := by simp; omega
      go_wp2
      go_ret
      exact ⟨true, rfl, rfl, fun _ => H2.out⟩

def dvV (m : Int) (a : Option Addr) (n c : Nat) (la : Int) (dn : Bool) : Value := .agg #[.int .i64 m, .slice a n c, .int .i64 la, .bool dn]
def lvV (L : Lg) (pa : Option Addr) (pc : Nat) : Value := .agg #[.int .i64 L.size, .slice pa L.l.length pc, .int .i64 L.n, .int .i64 L.acked, .int .i64 L.bytes, .bool L.over]
def opB (o : LOp) (ve vp : Value) : Obj := .cells #[.int .i64 o.kind, .int .i64 o.n, .string ⟨o.name.toArray⟩, ve, vp] 65 (0, 0)
structure QB (X : Nat → Prop) (W w : World) (b p pw pv po : Nat) (dp : Dsk) (L : Lg) (dv : Value) (dd : Dsk) (lv : Value) (Ld : Lg) (o : LOp) (ve vp : Value) : Prop where
  tl : TL X (fun k => k = pw ∨ k = pv ∨ k = po) W w p b dp L dv dd lv Ld
  op : LOpIs W [.int .i64 o.kind, .int .i64 o.n, .string ⟨o.name.toArray⟩, ve, vp] o ve vp
  hop : w.heap[po]? = some (opB o ve vp)
  w0 : W.heap.size ≤ pw ∧ W.heap.size ≤ pv ∧ W.heap.size ≤ po
  ne : pw ≠ pv ∧ pw ≠ po ∧ pv ≠ po
  bw : ∃ u0 u1 u2 u3, w.heap[pw]? = some (DB u0 u1 u2 u3)
  bv : ∃ u0 u1 u2 u3 u4 u5, w.heap[pv]? = some (LB u0 u1 u2 u3 u4 u5)
structure QM (W w : World) (b p pw pv po : Nat) (dp : Dsk) (L : Lg) (dd : Dsk) (Ld : Lg) (o : LOp) (ve vp : Value) (m : Int) (a : Option Addr) (n c : Nat) (la : Int) (dn : Bool) (pa : Option Addr) (pc : Nat) : Prop where
  ex : ∃ X, QB X W w b p pw pv po dp L (dvV m a n c la dn) dd (lvV Ld pa pc) Ld o ve vp
  bw : w.heap[pw]? = some (DB (.int .i64 m) (.slice a n c) (.int .i64 la) (.bool dn))
  bv : w.heap[pv]? = some (logB Ld pa pc)
section
variable {X : Nat → Prop} {W w w1 w' : World} {b p p' pw pv po : Nat} {dp dp' dd dd' : Dsk} {L L' Ld Ld' : Lg} {o : LOp} {ve vp dv lv dv' lv' : Value} {m m' la la' : Int} {a a' pa pa' : Option Addr} {n c n' c' pc pc' : Nat} {dn dn' : Bool}
theorem QB.turn {X' : Nat → Prop} (h : QB X W w b p pw pv po dp L dv dd lv Ld o ve vp) (hl : TL X' (fun k => k = pw ∨ k = pv ∨ k = po) W w' p' b dp' L' dv' dd' lv' Ld') (hk : Kept (fun k => k = pw ∨ k = pv ∨ k = po) w w') : QB X' W w' b p' pw pv po dp' L' dv' dd' lv' Ld' o ve vp := by
  obtain ⟨u0, u1, u2, u3, hb⟩ := h.bw
  obtain ⟨v0, v1, v2, v3, v4, v5, hv⟩ := h.bv
  exact ⟨hl, h.op, hk.at_ h.hop (.inr (.inr rfl)), h.w0, h.ne, ⟨_, _, _, _, hk.at_ hb (.inl rfl)⟩, ⟨_, _, _, _, _, _, hk.at_ hv (.inr (.inl rfl))⟩⟩
theorem QM.turn {X' : Nat → Prop} (h : QM W w b p pw pv po dp L dd Ld o ve vp m a n c la dn pa pc) (hl : TL X' (fun k => k = pw ∨ k = pv ∨ k = po) W w' p' b dp' L' (dvV m a n c la dn) dd' (lvV Ld pa pc) Ld) (hk : Kept (fun k => k = pw ∨ k = pv ∨ k = po) w w') : QM W w' b p' pw pv po dp' L' dd' Ld o ve vp m a n c la dn pa pc := by
  obtain ⟨X, hx⟩ := h.ex
  exact ⟨⟨_, hx.turn hl hk⟩, hk.at_ h.bw (.inl rfl), hk.at_ h.bv (.inr (.inl rfl))⟩
theorem QM.nw (h : QM W w b p pw pv po dp L dd Ld o ve vp m a n c la dn pa pc) (hw : Nw w w') : QM W w' b p pw pv po dp L dd Ld o ve vp m a n c la dn pa pc := by
  obtain ⟨X, hx⟩ := h.ex
  exact h.turn (hx.tl.nw hw) hw.kept
theorem QM.base (h : QM W w b p pw pv po dp L dd Ld o ve vp m a n c la dn pa pc) : Nw W w := h.ex.elim fun _ hx => hx.tl.base
theorem QM.op (h : QM W w b p pw pv po dp L dd Ld o ve vp m a n c la dn pa pc) : LOpIs W [.int .i64 o.kind, .int .i64 o.n, .string ⟨o.name.toArray⟩, ve, vp] o ve vp := h.ex.elim fun _ hx => hx.op
theorem QM.opc (h : QM W w b p pw pv po dp L dd Ld o ve vp m a n c la dn pa pc) : w.cell? ⟨po, 0, none⟩ = some (.int .i64 o.kind) ∧ w.cell? ⟨po, 1, none⟩ = some (.int .i64 o.n) ∧ w.cell? ⟨po, 2, none⟩ = some (.string ⟨o.name.toArray⟩) ∧ w.cell? ⟨po, 3, none⟩ = some ve ∧ w.cell? ⟨po, 4, none⟩ = some vp := by
  obtain ⟨X, hx⟩ := h.ex
  have := hx.hop
  unfold opB at this
  simp [World.cell?, this]
theorem kept_y {p q r : Nat → Prop} (h : Kept (fun k => p k ∨ q k) w w') (hr : ∀ k, r k → q k) : Kept r w w' := h.weak fun k hk => .inr (hr k hk)
theorem QM.does {P : Program} {f : FuncId} {args : Array Value} {y : Value} (h : QM W w b p pw pv po dp L dd Ld o ve vp m a n c la dn pa pc)
    (hc : ∀ Z : Nat → Prop, (∀ k, k < W.heap.size → Z k) → HasL Z W w p b dp L → Calls P f args w (DidL Z W w p b dp' L' y)) :
    Calls P f args w fun e w' => e = .returned y ∧ QM W w' b p pw pv po dp' L' dd Ld o ve vp m a n c la dn pa pc := by
  obtain ⟨X, hx⟩ := h.ex
  refine (hx.tl.does fun Z hZ hL => hc Z (fun k hk => hZ k (.inl (.inr hk))) hL).mono ?_
  rintro e w' ⟨he, ht, hk⟩
  exact ⟨he, h.turn ht (kept_y hk fun k hk => hk)⟩
theorem QM.disk {P : Program} {f : FuncId} {args : Array Value} {y : Value} (h : QM W w b p pw pv po dp L dd Ld o ve vp m a n c la dn pa pc) (hn : Nw w w1)
    (hc : ∀ Z : Nat → Prop, (∀ k, k < W.heap.size ∨ w.heap.size ≤ k ∧ k < w1.heap.size → Z k) → HasX Z W w1 b dp → Calls P f args w1 (DidX Z W w1 b dp' y)) :
    Calls P f args w1 fun e w' => e = .returned y ∧ QM W w' b p pw pv po dp' L dd Ld o ve vp m a n c la dn pa pc ∧ Kept (fun k => w.heap.size ≤ k ∧ k < w1.heap.size) w1 w' := by
  obtain ⟨X, hx⟩ := h.ex
  have ht := hx.tl.nwY hn (Z := fun k => (k = pw ∨ k = pv ∨ k = po) ∨ w.heap.size ≤ k ∧ k < w1.heap.size) (fun k hk => hk)
  refine (ht.disk fun Z hZ hX => hc Z (fun k hk => ?_) hX).mono ?_
  · rcases hk with hk | hk
    · exact hZ k (.inl (.inr hk))
    · exact hZ k (.inr (.inr hk))
  · rintro e w' ⟨he, h2, hk⟩
    exact ⟨he, (h.nw hn).turn (h2.nwY (Nw.refl _) (fun k hk => .inl (.inl hk))) (kept_y hk fun k hk => .inl hk), kept_y hk fun k hk => .inr hk⟩
def QN (W w : World) (b p pw pv po : Nat) (dp : Dsk) (L : Lg) (dd : Dsk) (Ld : Lg) (o : LOp) (ve vp : Value) (m : Int) (a : Option Addr) (n c : Nat) (la : Int) (dn : Bool) (pa : Option Addr) (pc : Nat) : Prop := ∃ X, QB X W w b p pw pv po dp L (dvV m a n c la dn) dd (lvV Ld pa pc) Ld o ve vp
theorem QM.doc {P : Program} {f : FuncId} {args : Array Value} {x : Int} (h : QM W w b p pw pv po dp L dd Ld o ve vp m a n c la dn pa pc) (hne : Ld'.l ≠ [])
    (hc : ∀ Z : Nat → Prop, (∀ k, w.heap.size ≤ k → Z k) → RD Z w (dvV m a n c la dn) dd → LogV Z w (lvV Ld pa pc) Ld → Calls P f args w (RDL Z w dd' Ld' x)) :
    Calls P f args w fun e w' => ∃ (m' : Int) (a' : Option Addr) (n' c' : Nat) (la' : Int) (dn' : Bool) (pa' : Option Addr) (pc' : Nat), e = .returned (.tuple #[dvV m' a' n' c' la' dn', lvV Ld' pa' pc', .int .i64 x]) ∧ QN W w' b p pw pv po dp L dd' Ld' o ve vp m' a' n' c' la' dn' pa' pc' := by
  obtain ⟨X, hx⟩ := h.ex
  refine (hx.tl.rdl hne fun Z hZ hR hL => hc Z hZ hR hL).mono ?_
  rintro e w' ⟨m', a', n', c', la', dn', pa', pc', he, ht, hn⟩
  exact ⟨m', a', n', c', la', dn', pa', pc', he, _, hx.turn ht hn.kept⟩
theorem QM.doc1 {P : Program} {f : FuncId} {args : Array Value} (h : QM W w b p pw pv po dp L dd Ld o ve vp m a n c la dn pa pc)
    (hc : ∀ Z : Nat → Prop, (∀ k, w.heap.size ≤ k → Z k) → RD Z w (dvV m a n c la dn) dd → Calls P f args w (RD1 Z w dd')) :
    Calls P f args w fun e w' => ∃ (m' : Int) (a' : Option Addr) (n' c' : Nat) (la' : Int) (dn' : Bool), e = .returned (dvV m' a' n' c' la' dn') ∧ QN W w' b p pw pv po dp L dd' Ld o ve vp m' a' n' c' la' dn' pa pc ∧ w'.heap[pv]? = some (logB Ld pa pc) := by
  obtain ⟨X, hx⟩ := h.ex
  refine (hx.tl.rd1 fun Z hZ hR => hc Z hZ hR).mono ?_
  rintro e w' ⟨m', a', n', c', la', dn', he, ht, hn⟩
  exact ⟨m', a', n', c', la', dn', he, ⟨_, hx.turn ht hn.kept⟩, hn.at_ h.bv⟩
theorem QM.docE {P : Program} {f : FuncId} {args : Array Value} {x : Int} (h : QM W w b p pw pv po dp L dd Ld o ve vp m a n c la dn pa pc)
    (hc : ∀ Z : Nat → Prop, (∀ k, w.heap.size ≤ k → Z k) → RD Z w (dvV m a n c la dn) dd → Calls P f args w (RDE Z w dd' x)) :
    Calls P f args w fun e w' => ∃ (m' : Int) (a' : Option Addr) (n' c' : Nat) (la' : Int) (dn' : Bool), e = .returned (.tuple #[dvV m' a' n' c' la' dn', .int .i64 x]) ∧ QN W w' b p pw pv po dp L dd' Ld o ve vp m' a' n' c' la' dn' pa pc ∧ w'.heap[pv]? = some (logB Ld pa pc) := by
  obtain ⟨X, hx⟩ := h.ex
  refine (hx.tl.rde fun Z hZ hR => hc Z hZ hR).mono ?_
  rintro e w' ⟨m', a', n', c', la', dn', he, ht, hn⟩
  exact ⟨m', a', n', c', la', dn', he, ⟨_, hx.turn ht hn.kept⟩, hn.at_ h.bv⟩
theorem QN.free (h : QN W w b p pw pv po dp L dd Ld o ve vp m a n c la dn pa pc) : ∃ u0 u1 u2 u3 v0 v1 v2 v3 v4 v5, (w.cell? ⟨pw, 0, none⟩ = some u0 ∧ w.cell? ⟨pw, 1, none⟩ = some u1 ∧ w.cell? ⟨pw, 2, none⟩ = some u2 ∧ w.cell? ⟨pw, 3, none⟩ = some u3) ∧
    (w.frozen? ⟨pw, 0, none⟩ = false ∧ w.frozen? ⟨pw, 1, none⟩ = false ∧ w.frozen? ⟨pw, 2, none⟩ = false ∧ w.frozen? ⟨pw, 3, none⟩ = false) ∧
    (w.cell? ⟨pv, 0, none⟩ = some v0 ∧ w.cell? ⟨pv, 1, none⟩ = some v1 ∧ w.cell? ⟨pv, 2, none⟩ = some v2 ∧ w.cell? ⟨pv, 3, none⟩ = some v3 ∧ w.cell? ⟨pv, 4, none⟩ = some v4 ∧ w.cell? ⟨pv, 5, none⟩ = some v5) ∧
    (w.frozen? ⟨pv, 0, none⟩ = false ∧ w.frozen? ⟨pv, 1, none⟩ = false ∧ w.frozen? ⟨pv, 2, none⟩ = false ∧ w.frozen? ⟨pv, 3, none⟩ = false ∧ w.frozen? ⟨pv, 4, none⟩ = false ∧ w.frozen? ⟨pv, 5, none⟩ = false) ∧ ¬ pw = pv ∧ ¬ pv = pw := by
  obtain ⟨X, hx⟩ := h
  obtain ⟨u0, u1, u2, u3, hb⟩ := hx.bw
  obtain ⟨v0, v1, v2, v3, v4, v5, hv⟩ := hx.bv
  obtain ⟨r0, r1, r2, r3, f0, f1, f2, f3⟩ := box_cells hb
  obtain ⟨s, g⟩ := lb_cells hv
  exact ⟨u0, u1, u2, u3, v0, v1, v2, v3, v4, v5, ⟨r0, r1, r2, r3⟩, ⟨f0, f1, f2, f3⟩, s, g, hx.ne.1, Ne.symm hx.ne.1⟩
theorem QN.put {S : Nat → Prop} (h : QN W w b p pw pv po dp L dd Ld o ve vp m a n c la dn pa pc) (hO : Only S w w') (hS : ∀ k, S k → k = pw ∨ k = pv) (hb : w'.heap[pw]? = some (DB (.int .i64 m) (.slice a n c) (.int .i64 la) (.bool dn))) (hv : w'.heap[pv]? = some (logB Ld pa pc)) : QM W w' b p pw pv po dp L dd Ld o ve vp m a n c la dn pa pc := by
  obtain ⟨X, hx⟩ := h
  have h0 := hx.w0
  have hne := hx.ne
  refine ⟨⟨X, hx.tl.put hO (fun k hk _ => ?_) (fun k hk => .inl hk), hx.op, hO.at_ hx.hop (fun hs => ?_), hx.w0, hx.ne, ⟨_, _, _, _, hb⟩, ⟨_, _, _, _, _, _, hv⟩⟩, hb, hv⟩
  · rcases hS k hk with e | e
    · exact ⟨.inl e, by rw [e]; exact h0.1⟩
    · exact ⟨.inr (.inl e), by rw [e]; exact h0.2.1⟩
  · rcases hS _ hs with e | e
    · exact hne.2.1 e.symm
    · exact hne.2.2 e.symm
theorem QN.store (h : QN W w b p pw pv po dp L dd Ld o ve vp m a n c la dn pa pc) :
    QM W ((((((((((w.setCell ⟨pw, 0, none⟩ (.int .i64 m)).setCell ⟨pw, 1, none⟩ (.slice a n c)).setCell ⟨pw, 2, none⟩ (.int .i64 la)).setCell ⟨pw, 3, none⟩ (.bool dn)).setCell ⟨pv, 0, none⟩ (.int .i64 Ld.size)).setCell ⟨pv, 1, none⟩ (.slice pa Ld.l.length pc)).setCell ⟨pv, 2, none⟩ (.int .i64 Ld.n)).setCell ⟨pv, 3, none⟩ (.int .i64 Ld.acked)).setCell ⟨pv, 4, none⟩ (.int .i64 Ld.bytes)).setCell ⟨pv, 5, none⟩ (.bool Ld.over)) b p pw pv po dp L dd Ld o ve vp m a n c la dn pa pc := by
  obtain ⟨X, hx⟩ := id h
  obtain ⟨u0, u1, u2, u3, hb⟩ := hx.bw
  obtain ⟨v0, v1, v2, v3, v4, v5, hv⟩ := hx.bv
  have hO1 := only_set4 w pw (.int .i64 m) (.slice a n c) (.int .i64 la) (.bool dn)
  have hB1 := heap_set4 hb (.int .i64 m) (.slice a n c) (.int .i64 la) (.bool dn)
  have hQ1 := hO1.at_ hv (Ne.symm hx.ne.1)
  generalize ((((w.setCell ⟨pw, 0, none⟩ (.int .i64 m)).setCell ⟨pw, 1, none⟩ (.slice a n c)).setCell ⟨pw, 2, none⟩ (.int .i64 la)).setCell ⟨pw, 3, none⟩ (.bool dn)) = w3 at hO1 hB1 hQ1 ⊢
  have hO2 := only_set6 w3 pv (.int .i64 Ld.size) (.slice pa Ld.l.length pc) (.int .i64 Ld.n) (.int .i64 Ld.acked) (.int .i64 Ld.bytes) (.bool Ld.over)
  have hO : Only (fun k => k = pw ∨ k = pv) w _ := (hO1.mono (fun k _ hk => .inl hk)).trans (hO2.mono (fun k _ hk => .inr hk))
  exact h.put hO (fun k hk => hk) (hO2.at_ hB1 hx.ne.1) (heap_set6 hQ1 _ _ _ _ _ _)
theorem QN.store1 (h : QN W w b p pw pv po dp L dd Ld o ve vp m a n c la dn pa pc) (hv : w.heap[pv]? = some (logB Ld pa pc)) :
    QM W ((((w.setCell ⟨pw, 0, none⟩ (.int .i64 m)).setCell ⟨pw, 1, none⟩ (.slice a n c)).setCell ⟨pw, 2, none⟩ (.int .i64 la)).setCell ⟨pw, 3, none⟩ (.bool dn)) b p pw pv po dp L dd Ld o ve vp m a n c la dn pa pc := by
  obtain ⟨X, hx⟩ := id h
  obtain ⟨u0, u1, u2, u3, hb⟩ := hx.bw
  have hO1 := only_set4 w pw (.int .i64 m) (.slice a n c) (.int .i64 la) (.bool dn)
  have hB1 := heap_set4 hb (.int .i64 m) (.slice a n c) (.int .i64 la) (.bool dn)
  exact h.put hO1 (fun k hk => .inl hk) hB1 (hO1.at_ hv (Ne.symm hx.ne.1))
end
end Go.Proofs.YtkbenkldfehhlaaGreatDoor
