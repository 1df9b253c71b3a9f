/-
  Texts merged by a program of this claim's: ExM, CodeM, TreeB, TreeC, ProgM, VecR, ParseBare, TreeD, TreeN.
-/
import Derived.Test.YtcmaedoolinijaaGreatDoorM5
import Derived.Test.YtcmaedoolinijaaGreatDoorM1
import Derived.Deep.RegionWith
import Derived.Deep.DeepCutAuto
import Derived.Deep.CutRange
import Derived.Test.YtcmaedoolinijaaGreatDoorM3
import Derived.Test.YtcmaedoolinijaaGreatDoorM4
namespace Go.Proofs.YtcmaedoolinijaaGreatDoor
open Go Go.ChangeShapes Go.WideShapes Go.RowKit Go.Deep
mutual
def ExM (w : World) : Ex → List Value → Prop
  | .mk k s n kids, cs => ∃ v, cs = [.int .u8 (k : Int), .string ⟨s.toArray⟩, .int .i64 n, v] ∧ k < 256 ∧ s.length ≤ 9223372036854775807 ∧ (-9223372036854775808 ≤ n ∧ n ≤ 9223372036854775807) ∧
      ((∃ a, v = .slice a 0 0 ∧ kids.length = 0) ∨ ∃ g o cap, v = .slice (some ⟨g, o, none⟩) kids.length cap ∧ kids.length ≤ cap ∧ cap ≤ maxLen ∧ g < w.heap.size ∧ KidsM w kids g o)
def KidsM (w : World) : List Ex → Nat → Nat → Prop
  | [], _, _ => True
  | e :: l, g, o => (∃ cs : List Value, cs.length = 4 ∧ (∀ j (hj : j < cs.length), w.cell? ⟨g, o + j, none⟩ = some cs[j]) ∧ ExM w e cs) ∧ KidsM w l g (o + 4)
end
theorem KidsM.iff {w : World} : ∀ {l : List Ex} {g o : Nat}, KidsM w l g o ↔ ∀ i (h : i < l.length), ∃ cs : List Value, cs.length = 4 ∧ (∀ j (hj : j < cs.length), w.cell? ⟨g, o + i * 4 + j, none⟩ = some cs[j]) ∧ ExM w l[i] cs
  | [], g, o => by simp [KidsM]
  | e :: l, g, o => by
    rw [KidsM, KidsM.iff (l := l)]
    constructor
    · rintro ⟨h0, h⟩ i hi
      match i with
      | 0 => simpa using h0
      | i + 1 =>
        obtain ⟨cs, h1, h2, h3⟩ := h i (by simpa using hi)
        refine ⟨cs, h1, fun j hj => ?_, by simpa using h3⟩
        have := h2 j hj
        rw [show o + 4 + i * 4 + j = o + (i + 1) * 4 + j from by omega] at this
        exact this
    · intro h
      refine ⟨by
        obtain ⟨cs, h1, h2, h3⟩ := h 0 (by simp)
        exact ⟨cs, h1, fun j hj => by simpa using h2 j hj, h3⟩, fun i hi => ?_⟩
      obtain ⟨cs, h1, h2, h3⟩ := h (i + 1) (by simpa using hi)
      refine ⟨cs, h1, fun j hj => ?_, by simpa using h3⟩
      have := h2 j hj
      rw [show o + (i + 1) * 4 + j = o + 4 + i * 4 + j from by omega] at this
      exact this
def ExsM (w : World) (v : Value) (l : List Ex) : Prop := RdK 4 (fun cs e => ExM w e cs) w v l
theorem ExM.mk_iff {w : World} {k : Nat} {s : List UInt8} {n : Int} {kids : List Ex} {cs : List Value} : ExM w (.mk k s n kids) cs ↔ ∃ v, cs = [.int .u8 (k : Int), .string ⟨s.toArray⟩, .int .i64 n, v] ∧ k < 256 ∧ s.length ≤ 9223372036854775807 ∧ (-9223372036854775808 ≤ n ∧ n ≤ 9223372036854775807) ∧ ExsM w v kids := by
  rw [ExM]
  unfold ExsM RdK
  simp only [KidsM.iff, List.length_eq_zero_iff]
mutual
theorem ExM.nw {w w' : World} (ho : Nw w w') : ∀ {e : Ex} {cs : List Value}, ExM w e cs → ExM w' e cs
  | .mk k s n kids, cs, h => by
    rw [ExM] at h ⊢
    obtain ⟨v, h1, h2, h3, h4, h5⟩ := h
    refine ⟨v, h1, h2, h3, h4, ?_⟩
    rcases h5 with h5 | ⟨g, o, cap, a1, a2, a3, a4, a5⟩
    · exact .inl h5
    · exact .inr ⟨g, o, cap, a1, a2, a3, Nat.lt_of_lt_of_le a4 ho.size, KidsM.nw ho a5⟩
theorem KidsM.nw {w w' : World} (ho : Nw w w') : ∀ {l : List Ex} {g o : Nat}, KidsM w l g o → KidsM w' l g o
  | [], _, _, _ => by simp [KidsM]
  | e :: l, g, o, h => by
    rw [KidsM] at h ⊢
    obtain ⟨⟨cs, h1, h2, h3⟩, h4⟩ := h
    exact ⟨⟨cs, h1, fun j hj => ho.cell (h2 j hj), ExM.nw ho h3⟩, KidsM.nw ho h4⟩
end
section
variable {H : Type} {enc : TypeId × Value → H} {P : Program} {W : World}
theorem open_ex {t : TypeId} {f0 f1 f2 f3 : Field} (hs : P.underlying t = some (.struct #[f0, f1, f2, f3])) (hone : oneCellFields P #[f0, f1, f2, f3] = true) (hC : P.cellsOf t = 4)
    (h0 : P.underlying f0.type = some (.int .u8)) (h1 : P.underlying f1.type = some .string) (h2 : P.underlying f2.type = some (.int .i64)) (h3 : P.underlying f3.type = some (.slice t)) :
    Opener enc P W t (fun cs e => ExM W e cs) := by
  intro fuel
  induction fuel using Nat.strongRecOn with
  | _ fuel ih =>
  intro cs x hx
  obtain ⟨xs, n, hfuel, _, hcl, hlen, hg⟩ := DataW.trod_struct hs hx
  rw [hC] at hcl
  obtain ⟨o0, k0⟩ := hone_of hone 0 f0 rfl
  obtain ⟨o1, k1⟩ := hone_of hone 1 f1 rfl
  obtain ⟨o2, k2⟩ := hone_of hone 2 f2 rfl
  obtain ⟨o3, k3⟩ := hone_of hone 3 f3 rfl
  match cs, hcl with
  | [c0, c1, c2, c3], _ =>
    match xs, hlen with
    | [y0, y1, y2, y3], _ =>
      have g0 := hg 0 f0 rfl
      rw [o0, k0] at g0
      obtain ⟨k, e0⟩ := Opener.u8 h0 n [c0] y0 (by simpa using g0)
      have g1 := hg 1 f1 rfl
      rw [o1, k1] at g1
      obtain ⟨s, e1, l1⟩ := Opener.str h1 n [c1] y1 (by simpa using g1)
      have g2 := hg 2 f2 rfl
      rw [o2, k2] at g2
      obtain ⟨z, e2, l2⟩ := Opener.i64 h2 n [c2] y2 (by simpa using g2)
      have g3 := hg 3 f3 rfl
      rw [o3, k3] at g3
      have g3' : DataW.trod enc P W 0 (fun _ => true) true n f3.type [c3] = some y3 := by simpa using g3
      have hk : ∃ kids, ExsM W c3 kids := by
        rcases DataW.trod_slice h3 g3' with ⟨hnil, -⟩ | ⟨a, len, cap, elems, rest, m, hn, hcs, -, -, hl, hm, hel, hall, hsp, -⟩
        · obtain rfl : c3 = .slice none 0 0 := by simpa using hnil
          exact ⟨[], .inl ⟨none, rfl, rfl⟩⟩
        · obtain rfl : c3 = .slice (some a) len cap := by simpa using hcs
          by_cases hz : cap = 0
          · obtain rfl : len = 0 := by omega
            subst hz
            exact ⟨[], .inl ⟨some a, rfl, rfl⟩⟩
          · obtain ⟨g, o, sp⟩ := a
            obtain ⟨hr1, hr2⟩ := hsp rfl
            have hc0 : ∃ c0, W.cells? 0 (Addr.add ⟨g, o, sp⟩ (0 * P.cellsOf t)) (P.cellsOf t) = some c0 := by
              by_cases h0l : 0 < len
              · have := hall 0 h0l
                rw [List.getElem?_eq_getElem (by omega)] at this
                obtain ⟨c0, hc, -⟩ := Option.bind_eq_some_iff.1 this
                exact ⟨c0, hc⟩
              · have := hr2 0 (by omega)
                rw [List.getElem?_eq_getElem (by omega), show len + 0 = 0 from by omega] at this
                obtain ⟨c0, hc, -⟩ := Option.bind_eq_some_iff.1 this
                exact ⟨c0, hc⟩
            obtain ⟨c0, hc0⟩ := hc0
            obtain ⟨-, hl0, hat0⟩ := World.cells?_some hc0
            have h00 := hat0 0 (by rw [hC]; omega)
            rw [List.getElem?_eq_getElem (by rw [hl0, hC]; omega)] at h00
            rw [Nat.zero_mul] at h00
            have hsn : sp = none := spot_of_cell h00
            subst hsn
            have hgw : g < W.heap.size := World.block_lt_of_cell? _ _ h00
            obtain ⟨l, hll, hp⟩ := list_of (p := fun i (y : Ex) => ∃ cs : List Value, cs.length = 4 ∧ (∀ j (hj : j < cs.length), W.cell? ⟨g, o + i * 4 + j, none⟩ = some cs[j]) ∧ ExM W y cs) len (fun i hi => by
              have h9 := hall i hi
              rw [List.getElem?_eq_getElem (by omega)] at h9
              obtain ⟨cs', hcs, htr⟩ := Option.bind_eq_some_iff.1 h9
              obtain ⟨y, hy⟩ := ih m (by omega) _ _ htr
              obtain ⟨-, hl', hat⟩ := World.cells?_some hcs
              rw [hC] at hl' hat
              refine ⟨y, cs', hl', fun j hj => ?_, hy⟩
              have := hat j (by omega)
              rw [List.getElem?_eq_getElem hj, addp, addp] at this
              exact this)
            subst hll
            exact ⟨l, .inr ⟨g, o, cap, rfl, hl, hm, hgw, hp⟩⟩
      obtain ⟨kids, hk⟩ := hk
      refine ⟨.mk k.toNat s z kids, ExM.mk_iff.2 ⟨c3, ?_, ?_, l1, l2, hk⟩⟩
      · simp only [List.cons.injEq, and_true] at e0 e1 e2
        rw [isU8] at e0
        simp_all [Go.Proofs.YtcmaedoolinijaaGreatDoor.u8]
      · exact k.toNat_lt
end
end Go.Proofs.YtcmaedoolinijaaGreatDoor

namespace Go.Proofs.YtcmaedoolinijaaGreatDoor
open Go Go.ChangeShapes Go.WideShapes Go.RowKit Go.Deep
def isDcl (cs : List Value) (d : Dcl) : Prop := cs = [.int .u8 (d.kind : Int), .string ⟨d.name.toArray⟩, .int .i64 d.n, .string ⟨d.of_.toArray⟩, .int .i64 d.line] ∧ d.kind < 256 ∧
  d.name.length ≤ 9223372036854775807 ∧ (-9223372036854775808 ≤ d.n ∧ d.n ≤ 9223372036854775807) ∧ d.of_.length ≤ 9223372036854775807 ∧ (-9223372036854775808 ≤ d.line ∧ d.line ≤ 9223372036854775807)
def in64' (n : Int) : Prop := -9223372036854775808 ≤ n ∧ n ≤ 9223372036854775807
def isIns (w : World) (cs : List Value) (x : InsP) : Prop := ∃ v, cs = [.int .u8 (x.do_ : Int), .int .u8 (x.op : Int), .int .i64 x.obj, .int .i64 x.into, .int .i64 x.to, .int .i64 x.n, v] ∧ x.do_ < 256 ∧ x.op < 256 ∧
  in64' x.obj ∧ in64' x.into ∧ in64' x.to ∧ in64' x.n ∧ ExsM w v x.args
def isText (w : World) (cs : List Value) (t : TextP) : Prop := ∃ v1 v2, cs = [.string ⟨t.name.toArray⟩, v1, v2] ∧ t.name.length ≤ 9223372036854775807 ∧ RdK 1 isStr w v1 t.locals ∧ RdK 7 (isIns w) w v2 t.code
def CodeM (w : World) (cs : List Value) (c : CodeP) : Prop := ∃ v0 v1, cs = [v0, v1] ∧ RdK 5 isDcl w v0 c.objs ∧ RdK 3 (isText w) w v1 c.threads
theorem RdK.nwR {α : Type} {k : Nat} {R R' : List Value → α → Prop} {w w' : World} {v : Value} {l : List α} (h : RdK k R w v l) (ho : Nw w w') (hR : ∀ cs x, R cs x → R' cs x) : RdK k R' w' v l := by
  rcases h.nw ho with h | ⟨g, o, cap, rfl, h1, h2, hg, h3⟩
  · exact .inl h
  · exact .inr ⟨g, o, cap, rfl, h1, h2, hg, fun i hi => by obtain ⟨cs, a, b, r⟩ := h3 i hi; exact ⟨cs, a, b, hR _ _ r⟩⟩
theorem ExsM.nw {w w' : World} {v : Value} {l : List Ex} (h : ExsM w v l) (ho : Nw w w') : ExsM w' v l := RdK.nwR h ho fun _ _ h => ExM.nw ho h
theorem isIns.nw {w w' : World} {cs : List Value} {x : InsP} (h : isIns w cs x) (ho : Nw w w') : isIns w' cs x := by
  obtain ⟨v, h1, h2, h3, h4, h5, h6, h7, h8⟩ := h
  exact ⟨v, h1, h2, h3, h4, h5, h6, h7, h8.nw ho⟩
theorem isText.nw {w w' : World} {cs : List Value} {x : TextP} (h : isText w cs x) (ho : Nw w w') : isText w' cs x := by
  obtain ⟨v1, v2, h1, h2, h3, h4⟩ := h
  exact ⟨v1, v2, h1, h2, h3.nw ho, h4.nwR ho fun _ _ h => h.nw ho⟩
theorem CodeM.nw {w w' : World} {cs : List Value} {c : CodeP} (h : CodeM w cs c) (ho : Nw w w') : CodeM w' cs c := by
  obtain ⟨v0, v1, h1, h2, h3⟩ := h
  exact ⟨v0, v1, h1, h2.nw ho, h3.nwR ho fun _ _ h => h.nw ho⟩
section
variable {H : Type} {enc : TypeId × Value → H} {P : Program} {W : World}
theorem Opener.struct7 {α0 α1 α2 α3 α4 α5 α6 : Type} {R0 : List Value → α0 → Prop} {R1 : List Value → α1 → Prop} {R2 : List Value → α2 → Prop} {R3 : List Value → α3 → Prop} {R4 : List Value → α4 → Prop} {R5 : List Value → α5 → Prop} {R6 : List Value → α6 → Prop} {t : TypeId} {f0 f1 f2 f3 f4 f5 f6 : Field} (hs : P.underlying t = some (.struct #[f0, f1, f2, f3, f4, f5, f6])) (hone : oneCellFields P #[f0, f1, f2, f3, f4, f5, f6] = true) (hC : P.cellsOf t = 7) (h0 : Opener enc P W f0.type R0) (h1 : Opener enc P W f1.type R1) (h2 : Opener enc P W f2.type R2) (h3 : Opener enc P W f3.type R3) (h4 : Opener enc P W f4.type R4) (h5 : Opener enc P W f5.type R5) (h6 : Opener enc P W f6.type R6) :
    Opener enc P W t (fun cs (x : α0 × α1 × α2 × α3 × α4 × α5 × α6) => ∃ v0 v1 v2 v3 v4 v5 v6, cs = [v0, v1, v2, v3, v4, v5, v6] ∧ R0 [v0] x.1 ∧ R1 [v1] x.2.1 ∧ R2 [v2] x.2.2.1 ∧ R3 [v3] x.2.2.2.1 ∧ R4 [v4] x.2.2.2.2.1 ∧ R5 [v5] x.2.2.2.2.2.1 ∧ R6 [v6] x.2.2.2.2.2.2) := by
  intro fuel cs x hx
  obtain ⟨xs, n, _, _, hcl, hlen, hg⟩ := DataW.trod_struct hs hx
  rw [hC] at hcl
  obtain ⟨o0, k0⟩ := hone_of hone 0 f0 rfl
  obtain ⟨o1, k1⟩ := hone_of hone 1 f1 rfl
  obtain ⟨o2, k2⟩ := hone_of hone 2 f2 rfl
  obtain ⟨o3, k3⟩ := hone_of hone 3 f3 rfl
  obtain ⟨o4, k4⟩ := hone_of hone 4 f4 rfl
  obtain ⟨o5, k5⟩ := hone_of hone 5 f5 rfl
  obtain ⟨o6, k6⟩ := hone_of hone 6 f6 rfl
  match cs, hcl with
  | [c0, c1, c2, c3, c4, c5, c6], _ =>
    match xs, hlen with
    | [y0, y1, y2, y3, y4, y5, y6], _ =>
      have g0 := hg 0 f0 rfl
      rw [o0, k0] at g0
      obtain ⟨z0, e0⟩ := h0 n [c0] y0 (by simpa using g0)
      have g1 := hg 1 f1 rfl
      rw [o1, k1] at g1
      obtain ⟨z1, e1⟩ := h1 n [c1] y1 (by simpa using g1)
      have g2 := hg 2 f2 rfl
      rw [o2, k2] at g2
      obtain ⟨z2, e2⟩ := h2 n [c2] y2 (by simpa using g2)
      have g3 := hg 3 f3 rfl
      rw [o3, k3] at g3
      obtain ⟨z3, e3⟩ := h3 n [c3] y3 (by simpa using g3)
      have g4 := hg 4 f4 rfl
      rw [o4, k4] at g4
      obtain ⟨z4, e4⟩ := h4 n [c4] y4 (by simpa using g4)
      have g5 := hg 5 f5 rfl
      rw [o5, k5] at g5
      obtain ⟨z5, e5⟩ := h5 n [c5] y5 (by simpa using g5)
      have g6 := hg 6 f6 rfl
      rw [o6, k6] at g6
      obtain ⟨z6, e6⟩ := h6 n [c6] y6 (by simpa using g6)
      exact ⟨(z0, z1, z2, z3, z4, z5, z6), c0, c1, c2, c3, c4, c5, c6, rfl, e0, e1, e2, e3, e4, e5, e6⟩
theorem u8_cell {c : Value} {b : UInt8} (h : isU8 [c] b) : c = .int .u8 ((b.toNat : Nat) : Int) := by
  simp only [isU8, List.cons.injEq, and_true] at h
  exact h
theorem str_cell {c : Value} {s : Str} (h : isStr [c] s) : c = .string ⟨s.toArray⟩ ∧ s.length ≤ 9223372036854775807 := by
  obtain ⟨h, h2⟩ := h
  simp only [List.cons.injEq, and_true] at h
  exact ⟨h, h2⟩
theorem i64_cell {c : Value} {n : Int} (h : isI64 [c] n) : c = .int .i64 n ∧ in64' n := by
  obtain ⟨h, h2⟩ := h
  simp only [List.cons.injEq, and_true] at h
  exact ⟨h, h2⟩
theorem Opener.dcl {t : TypeId} {f0 f1 f2 f3 f4 : Field} (hs : P.underlying t = some (.struct #[f0, f1, f2, f3, f4])) (hone : oneCellFields P #[f0, f1, f2, f3, f4] = true) (hC : P.cellsOf t = 5)
    (h0 : P.underlying f0.type = some (.int .u8)) (h1 : P.underlying f1.type = some .string) (h2 : P.underlying f2.type = some (.int .i64)) (h3 : P.underlying f3.type = some .string) (h4 : P.underlying f4.type = some (.int .i64)) :
    Opener enc P W t isDcl :=
  (Opener.struct5 hs hone hC (Opener.u8 h0) (Opener.str h1) (Opener.i64 h2) (Opener.str h3) (Opener.i64 h4)).imp fun cs ⟨x0, x1, x2, x3, x4⟩ ⟨v0, v1, v2, v3, v4, hc, e0, e1, e2, e3, e4⟩ => by
    obtain rfl := u8_cell e0
    obtain ⟨rfl, l1⟩ := str_cell e1
    obtain ⟨rfl, l2⟩ := i64_cell e2
    obtain ⟨rfl, l3⟩ := str_cell e3
    obtain ⟨rfl, l4⟩ := i64_cell e4
    exact ⟨⟨x0.toNat, x1, x2, x3, x4⟩, hc, x0.toNat_lt, l1, l2, l3, l4⟩
theorem Opener.ins {t e : TypeId} {f0 f1 f2 f3 f4 f5 f6 : Field} (hs : P.underlying t = some (.struct #[f0, f1, f2, f3, f4, f5, f6])) (hone : oneCellFields P #[f0, f1, f2, f3, f4, f5, f6] = true) (hC : P.cellsOf t = 7)
    (h0 : P.underlying f0.type = some (.int .u8)) (h1 : P.underlying f1.type = some (.int .u8)) (h2 : P.underlying f2.type = some (.int .i64)) (h3 : P.underlying f3.type = some (.int .i64)) (h4 : P.underlying f4.type = some (.int .i64)) (h5 : P.underlying f5.type = some (.int .i64))
    (h6 : P.underlying f6.type = some (.slice e)) (he : P.cellsOf e = 4) (hx : Opener enc P W e (fun cs x => ExM W x cs)) : Opener enc P W t (isIns W) :=
  (Opener.struct7 hs hone hC (Opener.u8 h0) (Opener.u8 h1) (Opener.i64 h2) (Opener.i64 h3) (Opener.i64 h4) (Opener.i64 h5) (Opener.slice h6 he (by omega) hx)).imp fun cs ⟨x0, x1, x2, x3, x4, x5, x6⟩ ⟨v0, v1, v2, v3, v4, v5, v6, hc, e0, e1, e2, e3, e4, e5, u, e6, h6⟩ => by
    obtain rfl := u8_cell e0
    obtain rfl := u8_cell e1
    obtain ⟨rfl, l2⟩ := i64_cell e2
    obtain ⟨rfl, l3⟩ := i64_cell e3
    obtain ⟨rfl, l4⟩ := i64_cell e4
    obtain ⟨rfl, l5⟩ := i64_cell e5
    simp only [List.cons.injEq, and_true] at e6
    subst e6
    exact ⟨⟨x0.toNat, x1.toNat, x2, x3, x4, x5, x6⟩, v6, hc, x0.toNat_lt, x1.toNat_lt, l2, l3, l4, l5, h6⟩
theorem Opener.text {t e i : TypeId} {f0 f1 f2 : Field} (hs : P.underlying t = some (.struct #[f0, f1, f2])) (hone : oneCellFields P #[f0, f1, f2] = true) (hC : P.cellsOf t = 3)
    (h0 : P.underlying f0.type = some .string) (h1 : P.underlying f1.type = some (.slice e)) (he : P.underlying e = some .string) (hec : P.cellsOf e = 1) (h2 : P.underlying f2.type = some (.slice i)) (hi : P.cellsOf i = 7) (hx : Opener enc P W i (isIns W)) : Opener enc P W t (isText W) :=
  (Opener.struct3 hs hone hC (Opener.str h0) (Opener.slice h1 hec (by omega) (Opener.str he)) (Opener.slice h2 hi (by omega) hx)).imp fun cs ⟨x0, x1, x2⟩ ⟨v0, v1, v2, hc, e0, ⟨u1, e1, h1⟩, u2, e2, h2⟩ => by
    obtain ⟨rfl, l0⟩ := str_cell e0
    simp only [List.cons.injEq, and_true] at e1 e2
    subst e1 e2
    exact ⟨⟨x0, x1, x2⟩, v1, v2, hc, l0, h1, h2⟩
theorem Opener.code {t d x : TypeId} {f0 f1 : Field} (hs : P.underlying t = some (.struct #[f0, f1])) (hone : oneCellFields P #[f0, f1] = true) (hC : P.cellsOf t = 2)
    (h0 : P.underlying f0.type = some (.slice d)) (hd : P.cellsOf d = 5) (h1 : P.underlying f1.type = some (.slice x)) (hx : P.cellsOf x = 3) (ho : Opener enc P W d isDcl) (ht : Opener enc P W x (isText W)) : Opener enc P W t (CodeM W) :=
  (Opener.struct2 hs hone hC (Opener.slice h0 hd (by omega) ho) (Opener.slice h1 hx (by omega) ht)).imp fun cs ⟨x0, x1⟩ ⟨v0, v1, hc, ⟨u0, e0, h0⟩, u1, e1, h1⟩ => by
    simp only [List.cons.injEq, and_true] at e0 e1
    subst e0 e1
    exact ⟨⟨x0, x1⟩, v0, v1, hc, h0, h1⟩
end
end Go.Proofs.YtcmaedoolinijaaGreatDoor

namespace Go.Proofs.YtcmaedoolinijaaGreatDoor
open Go Go.RowKit Go.Sort
set_option maxRecDepth 100000
set_option maxHeartbeats 3200000
def objsA : Array Value := #[.string ⟨#[109, 117, 116, 101, 120]⟩, .string ⟨#[114, 119, 108, 111, 99, 107]⟩, .string ⟨#[115, 101, 109]⟩, .string ⟨#[99, 111, 110, 100]⟩, .string ⟨#[98, 97, 114, 114, 105, 101, 114]⟩, .string ⟨#[111, 110, 99, 101]⟩, .string ⟨#[119, 97, 105, 116]⟩, .string ⟨#[113, 117, 101, 117, 101]⟩, .string ⟨#[118, 97, 114]⟩]
def objsL : List (List UInt8) := [[109, 117, 116, 101, 120], [114, 119, 108, 111, 99, 107], [115, 101, 109], [99, 111, 110, 100], [98, 97, 114, 114, 105, 101, 114], [111, 110, 99, 101], [119, 97, 105, 116], [113, 117, 101, 117, 101], [118, 97, 114]]
theorem objs_L : objsW = objsL := by decide +kernel
theorem objs_eq : objsA.toList = objsW.map fun s => Value.string ⟨s.toArray⟩ := by rw [objs_L]; rfl
theorem objs_row {w : World} {g : Nat} (h : w.heap[g]? = some (.cells objsA 87 (0, 0))) : Strs w (.slice (some ⟨g, 0, none⟩) 9 9) objsW := by
  refine .inr ⟨g, 0, 9, by rw [objs_L]; rfl, by rw [objs_L]; decide, by decide, lt_of_block h, fun i hi => ?_⟩
  rw [cell_of_row _ _ _ _ _ _ h, Nat.zero_add, ← Array.getElem?_toList, objs_eq, List.getElem?_map, List.getElem?_eq_getElem hi]
  rfl
theorem objects_ok {w : World} : Calls Tryz.prog 30 #[] w fun z w' => z = .returned (.agg objsA) ∧ Nw w w' := by
  have N := (Nw.refl w).alloc (.cells objsA 87)
  go_enter Tryz.func30, Tryz.ntmps30
  go_wp2_with fail
  refine bodyPost_ret (v := .agg objsA) (by simp [results, Tryz.results30, go_sem]; rfl) rfl ⟨rfl, N⟩
theorem counted_ok {w : World} (k : Nat) : Calls Tryz.prog 64 #[.int .u8 (k : Int)] w fun z w' => z = .returned (.bool (countB k)) ∧ w' = w := by
  by_cases h3 : k = 3
  · subst h3
    go_enter Tryz.func64, Tryz.ntmps64
    go_wp2_with fail
    go_ret
    exact ⟨rfl, rfl⟩
  by_cases h5 : k = 5
  · subst h5
    go_enter Tryz.func64, Tryz.ntmps64
    go_wp2_with fail
    go_ret
    exact ⟨rfl, rfl⟩
  by_cases h8 : k = 8
  · subst h8
    go_enter Tryz.func64, Tryz.ntmps64
    go_wp2_with fail
    go_ret
    exact ⟨rfl, rfl⟩
  by_cases h9 : k = 9
  · subst h9
    go_enter Tryz.func64, Tryz.ntmps64
    go_wp2_with fail
    go_ret
    exact ⟨rfl, rfl⟩
  have q3 : ((k : Int) == 3) = false := by simp; omega
  have q5 : ((k : Int) == 5) = false := by simp; omega
  have q8 : ((k : Int) == 8) = false := by simp; omega
  have q9 : ((k : Int) == 9) = false := by simp; omega
  have e : countB k = false := by simp [countB, h3, h5, h8, h9]
  rw [e]
  clear h3 h5 h8 h9 e
  go_enter Tryz.func64, Tryz.ntmps64
  go_wp2_with fail
  go_ret
  exact ⟨rfl, rfl⟩
theorem nobody_ok {w : World} {b : Nat} {t : List UInt8} {s : PS} (h : PM w b t s) (hs : (s.must t [123]).e = 0 → (s.must t [123]).is [[125]] = true) :
    Calls Tryz.prog 36 #[.pointer (some ⟨b, 0, none⟩)] w fun z w' => z = .returned (.slice none 0 0) ∧ PM w' b t ((s.must t [123]).must t [125]) ∧ Only (fun k => k = b) w w' := by
  have M1 := Lib.hid (must_ok h [123])
  obtain ⟨s1, hs1⟩ : ∃ s1, s.must t [123] = s1 := ⟨_, rfl⟩
  rw [hs1] at hs M1 ⊢
  clear h hs1
  have fin : ∀ (W W' : World), PM W b t s1 → PM W' b t s1 → True := fun _ _ _ _ => trivial
  have M2 := Lib.hid (fun (W : World) (hW : PM W b t s1) => must_ok hW [125])
  have OKC := Lib.hid (fun (W : World) (hW : PM W b t s1) => pok_ok hW)
  have ISC := Lib.hid (fun (W : World) (hW : PM W b t s1) (v : Value) (hv : Strs W v [[125]]) => is_ok hW hv (by simp))
  by_cases c : s1.e = 0
  · have q : (s1.e == 0) = true := by simpa using c
    have q2 := hs c
    rw [q2] at ISC
    rw [q] at OKC
    clear hs q2
    go_enter Tryz.func36, Tryz.ntmps36
    go_wp2_with fail
    refine M1.out.mono ?_
    rintro z w1 ⟨rfl, p1, o1⟩
    have P1 := Lib.hid p1
    have O1 := Lib.hid o1
    clear p1 o1
    go_wp2_with fail
    go_loopw [3] (fun v wr => v = .slice none 0 0 ∧ wr = w1) (fun _ _ => 0)
    case atStart => exact ⟨rfl, rfl⟩
    case round =>
      obtain ⟨rfl, rfl⟩ := hrel
      go_wp2_with fail
      refine (OKC.out _ P1.out).mono ?_
      rintro z w2 ⟨rfl, rfl⟩
      go_wp2_with fail
      refine (ISC.out _ (P1.out.on ((Nw.refl w2).alloc _)) _ (strs_one w2 [125] 1 (by omega) (by decide) _)).mono ?_
      rintro z w3 ⟨rfl, rfl⟩
      go_wp2_with fail
      refine (M2.out _ (P1.out.on ((Nw.refl w2).alloc _))).mono ?_
      rintro z w4 ⟨rfl, p4, o4⟩
      have P4 := Lib.hid p4
      have O4 := Lib.hid (O1.out.trans (Only.trans (S := fun k => k = b) ((Nw.refl w2).alloc _).only o4))
      clear p4 o4
      go_wp2_with fail
      go_ret
      exact ⟨rfl, P4.out, O4.out⟩
  · have q : (s1.e == 0) = false := by simpa using c
    rw [q] at OKC
    clear hs
    go_enter Tryz.func36, Tryz.ntmps36
    go_wp2_with fail
    refine M1.out.mono ?_
    rintro z w1 ⟨rfl, p1, o1⟩
    have P1 := Lib.hid p1
    have O1 := Lib.hid o1
    clear p1 o1
    go_wp2_with fail
    go_loopw [3] (fun v wr => v = .slice none 0 0 ∧ wr = w1) (fun _ _ => 0)
    case atStart => exact ⟨rfl, rfl⟩
    case round =>
      obtain ⟨rfl, rfl⟩ := hrel
      go_wp2_with fail
      refine (OKC.out _ P1.out).mono ?_
      rintro z w2 ⟨rfl, rfl⟩
      go_wp2_with fail
      refine (M2.out _ P1.out).mono ?_
      rintro z w4 ⟨rfl, p4, o4⟩
      have P4 := Lib.hid p4
      have O4 := Lib.hid (O1.out.trans o4)
      clear p4 o4
      go_wp2_with fail
      go_ret
      exact ⟨rfl, P4.out, O4.out⟩
end Go.Proofs.YtcmaedoolinijaaGreatDoor

namespace Go.Proofs.YtcmaedoolinijaaGreatDoor
open Go Go.RowKit Go.Sort
set_option maxRecDepth 100000
set_option maxHeartbeats 3200000
def dclA (d : Dcl) : Array Value := #[.int .u8 (d.kind : Int), .string ⟨d.name.toArray⟩, .int .i64 d.n, .string ⟨d.of_.toArray⟩, .int .i64 d.line]
theorem dcl_new {w w1 : World} (h : Nw (w.alloc (.cells (dclA ⟨0, [], 0, [], 0⟩) 76)) w1) : Nw w w1 ∧ w1.heap[w.heap.size]? = some (.cells (dclA ⟨0, [], 0, [], 0⟩) 76 (0, 0)) :=
  ⟨Nw.trans ((Nw.refl w).alloc _) h, h.at_ (heap_alloc_new _ _)⟩
theorem box5 {w : World} {p : Nat} {a b c d e : Value} {t : TypeId} (h : w.heap[p]? = some (.cells #[a, b, c, d, e] t (0, 0))) :
    w.cell? ⟨p, 0, none⟩ = some a ∧ w.cell? ⟨p, 1, none⟩ = some b ∧ w.cell? ⟨p, 2, none⟩ = some c ∧ w.cell? ⟨p, 3, none⟩ = some d ∧ w.cell? ⟨p, 4, none⟩ = some e ∧ ∀ i, w.frozen? ⟨p, i, none⟩ = false := by
  simp [World.cell?, World.frozen?, h]
theorem word_tok {s : PS} {k : Nat} (h : TokOk s.w) (t : List UInt8) : TokOk (s.word t k).1 := by
  unfold PS.word
  split
  · exact h
  · exact TokOk.none
structure ObB (w wr : World) (b : Nat) (t : List UInt8) (s : PS) (m : Nat) (d : Dcl) : Prop where
  ps : PM wr b t s
  on : Only (fun k => k = b) w wr
  dc : wr.heap[m]? = some (.cells (dclA d) 76 (0, 0))
  rs : wr.heap[w.heap.size]? = some (.cells (dclA ⟨0, [], 0, [], 0⟩) 76 (0, 0))
  lt : w.heap.size < m
  bw : b < w.heap.size
theorem ObB.step {w wr w' : World} {b m : Nat} {t : List UInt8} {s s' : PS} {d : Dcl} (h : ObB w wr b t s m d) (hp : PM w' b t s') (ho : Only (fun k => k = b) wr w') : ObB w w' b t s' m d :=
  ⟨hp, h.on.trans ho, ho.at_ h.dc (by have := h.lt; have := h.bw; omega), ho.at_ h.rs (by have := h.bw; omega), h.lt, h.bw⟩
theorem ObB.put {w wr : World} {b m : Nat} {t : List UInt8} {s : PS} {d d' : Dcl} (h : ObB w wr b t s m d) (i : Nat) (v : Value) (hd : (dclA d).setIfInBounds i v = dclA d') : ObB w (wr.setCell ⟨m, i, none⟩ v) b t s m d' where
  ps := h.ps.off (S := fun k => k = m) (Only.put (S := fun k => k = m) (Only.refl _) rfl _ _) (by have := h.lt; have := h.bw; show ¬ b = m; omega) (by have := h.ps.pos; have := h.lt; have := h.bw; show ¬ 0 = m; omega)
  on := Only.put' h.on (by have := h.lt; omega) _ _
  dc := by rw [← hd]; exact heap_put h.dc v
  rs := by rw [heap_setCell_other _ _ _ _ (by have := h.lt; simp; omega)]; exact h.rs
  lt := h.lt
  bw := h.bw
theorem Rd.nw' {α : Type} {f : α → Value} {w w' : World} {v : Value} {l : List α} (h : Rd f w v l) (ho : Nw w w') : Rd f w' v l := h.keep ho (fun _ _ _ hf => hf)
theorem object_ok {w : World} {b : Nat} {t : List UInt8} {s : PS} (h : PM w b t s) (hs : s.is objsW = true) :
    Calls Tryz.prog 33 #[.pointer (some ⟨b, 0, none⟩)] w fun z w' => ∃ cs, z = .returned (.agg cs.toArray) ∧ isDcl cs (objectF t s).1 ∧ PM w' b t (objectF t s).2 ∧ Only (fun k => k = b) w w' := by
  obtain ⟨R, hR⟩ : ∃ R, objectF t s = R := ⟨_, rfl⟩
  have HRR := Lib.hid hR
  rw [hR]
  clear hR
  have H := Lib.hid h
  have OB := fun (W : World) => objects_ok (w := W)
  obtain ⟨b0, b1, b2, b3, b4, b5, b6, b7, b8, b9, bf⟩ := box10 h.box
  have hbw := h.lt
  clear h
  go_enter Tryz.func33, Tryz.ntmps33
  go_wp2_with fail
  refine (OB _).mono ?_
  rintro z w1 ⟨rfl, n1⟩
  have W1 := Lib.hid (dcl_new n1)
  clear n1
  unfold objsA
  go_wp2_with fail
  obtain ⟨w2, hw2⟩ : ∃ w2, w1.alloc (.cells objsA 87) = w2 := ⟨_, rfl⟩
  have R2 : Hid (Strs w2 (.slice (some ⟨w1.heap.size, 0, none⟩) 9 9) objsW) := Lib.hid (by rw [← hw2]; exact objs_row (heap_alloc_new _ _))
  have W2 : Hid (Nw w w2 ∧ w2.heap[w.heap.size]? = some (.cells (dclA ⟨0, [], 0, [], 0⟩) 76 (0, 0)) ∧ w.heap.size < w2.heap.size) := Lib.hid (by rw [← hw2]; exact ⟨W1.out.1.alloc _, ((Nw.refl w1).alloc _).at_ W1.out.2, by have := W1.out.1.size; have := lt_of_block W1.out.2; simp; omega⟩)
  unfold objsA at hw2
  rw [hw2]
  obtain ⟨g, hg⟩ : ∃ g, w1.heap.size = g := ⟨_, rfl⟩
  rw [hg] at R2 ⊢
  clear hw2 hg W1
  have P2 := Lib.hid (H.out.on W2.out.1)
  clear b0 b1 b2 b3 b4 b5 b6 b7 b8 b9 bf
  obtain ⟨b0, b1, b2, b3, b4, b5, b6, b7, b8, b9, bf⟩ := box10 P2.out.box
  obtain ⟨K, hK⟩ : ∃ K, placeN objsW s.w.s = K := ⟨_, rfl⟩
  have IX := Lib.hid (fun (W : World) (hW : Nw w2 W) => by have := Index_ok (R2.out.nw' hW) (by rw [objs_L]; decide) s.w.s; rw [hK] at this; exact this)
  have hK9 : K ≤ 9 := by
    rw [← hK]
    unfold placeN
    split
    · rename_i hm
      have := List.idxOf_lt_length_of_mem hm
      rw [objs_L] at this ⊢
      simp [objsL] at this ⊢
      omega
    · omega
  have hx1 : IntKind.i64.wrap (1 + ((K : Int) - 1)) = (K : Int) := by rw [IntWalk.i64_in _ (by omega)]; omega
  have hx2 : IntKind.u8.wrap (K : Int) = (K : Int) := by rw [IntKind.wrap_u8]; omega
  have hbw2 := P2.out.lt
  go_cut [4] from 6 to 20 (fun v wx => v = .pointer (some ⟨w2.heap.size, 0, none⟩) ∧ wx = (w2.alloc (.cells (dclA ⟨K, [], 0, [], s.w.line⟩) 76)).drew)
  case first =>
    go_region_with (refine (IX.out _ (by first | with_reducible exact (Nw.refl w2).drew | with_reducible exact ((Nw.refl w2).alloc _).drew)).mono ?_; rintro z w3 ⟨rfl, rfl⟩)
    all_goals (go_wp2_with fail; go_meet; exact ⟨rfl, rfl⟩)
  case rest =>
    obtain ⟨rfl, rfl⟩ := hcut
    obtain ⟨m, hm⟩ : ∃ m, w2.heap.size = m := ⟨_, rfl⟩
    obtain ⟨w3, hw3⟩ : ∃ w3, (w2.alloc (.cells (dclA ⟨K, [], 0, [], s.w.line⟩) 76)).drew = w3 := ⟨_, rfl⟩
    have OB3 : Hid (ObB w w3 b t s m ⟨K, [], 0, [], s.w.line⟩) := Lib.hid (by
      have hn : Nw w2 w3 := by rw [← hw3]; exact ((Nw.refl w2).alloc _).drew
      exact ⟨P2.out.on hn, (W2.out.1.trans hn).only, by rw [← hw3, ← hm]; exact heap_alloc_new w2 _, hn.at_ W2.out.2.1, by have := W2.out.2.2; omega, hbw⟩)
    rw [hw3, hm]
    clear hw3 hm W2 P2 IX hx1 hx2 b0 b1 b2 b3 b4 b5 b6 b7 b8 b9 bf R2 hbw2
    have HSL := Lib.hid hK
    obtain ⟨s1, hs1⟩ : ∃ s1, s.read t s.w.end_ = s1 := ⟨_, rfl⟩
    have RD := Lib.hid (fun (W : World) (hW : PM W b t s) => by have := read_ok hW hW.en; rw [hs1] at this; exact this)
    obtain ⟨b0, b1, b2, b3, b4, b5, b6, b7, b8, b9, bf⟩ := box10 OB3.out.ps.box
    go_wp2_with fail
    refine (RD.out _ OB3.out.ps).mono ?_
    rintro z w4 ⟨rfl, p4, o4⟩
    have OB4 := Lib.hid (OB3.out.step p4 o4)
    have RD1 := Lib.hid p4
    clear p4 o4 b0 b1 b2 b3 b4 b5 b6 b7 b8 b9 bf RD OB3
    go_wp2_with fail
    refine (name_ok OB4.out.ps).mono ?_
    rintro z w5 ⟨rfl, p5, o5⟩
    have OB5 := Lib.hid (OB4.out.step p5 o5)
    clear p5 o5 OB4
    have HT1 := Lib.hid (word_tok (k := 2) (RD1.out.tk) t)
    obtain ⟨⟨x1, s2⟩, hx1⟩ : ∃ r, s1.word t 2 = r := ⟨_, rfl⟩
    have hres : objectF t s = (⟨K, x1.s, (if countB K then s2.word t 1 else (Tok.none, s2)).1.n, (if K = 4 then (if countB K then s2.word t 1 else (Tok.none, s2)).2.word t 2 else (Tok.none, (if countB K then s2.word t 1 else (Tok.none, s2)).2)).1.s, s.w.line⟩,
        (if K = 4 then (if countB K then s2.word t 1 else (Tok.none, s2)).2.word t 2 else (Tok.none, (if countB K then s2.word t 1 else (Tok.none, s2)).2)).2.must t [59]) := by
      unfold objectF
      rw [hK, hs1, hx1]
    have HRES := Lib.hid (HRR.out.symm.trans hres)
    clear hres HRR
    rw [hx1] at OB5 HT1 ⊢
    simp only at HT1
    have HTS := Lib.hid H.out.tk
    clear hx1 hs1 hK
    obtain ⟨d0, d1, d2, d3, d4, df⟩ := box5 OB5.out.dc
    have CN := fun (W : World) => counted_ok (w := W) K
    have OB6 := Lib.hid (OB5.out.put 1 (.string ⟨x1.s.toArray⟩) (d' := ⟨K, x1.s, 0, [], s.w.line⟩) rfl)
    go_wp2_with fail
    obtain ⟨w6, hw6⟩ : ∃ w6, w5.setCell ⟨m, 1, none⟩ (.string ⟨x1.s.toArray⟩) = w6 := ⟨_, rfl⟩
    rw [hw6] at OB6 ⊢
    clear hw6 OB5 d0 d1 d2 d3 d4 df
    obtain ⟨d0, d1, d2, d3, d4, df⟩ := box5 OB6.out.dc
    refine (CN _).mono ?_
    rintro z w6' ⟨rfl, rfl⟩
    clear CN
    by_cases cb : countB K = true
    · have k4 : ¬ K = 4 := by rintro rfl; exact absurd cb (by decide)
      have q4 : ((K : Int) == 4) = false := by simp; omega
      have hres := HRES.out
      rw [if_pos cb, if_neg k4] at hres
      have HT3 := Lib.hid (word_tok (k := 1) (OB6.out.ps.tk) t)
      rw [cb]
      go_wp2_with fail
      refine (word_ok OB6.out.ps 1 (by omega)).mono ?_
      rintro z w8 ⟨rfl, p8, o8⟩
      have OB8 := Lib.hid (OB6.out.step p8 o8)
      clear p8 o8 OB6 d0 d1 d2 d3 d4 df
      obtain ⟨⟨x3, s3⟩, hx3⟩ : ∃ r, s2.word t 1 = r := ⟨_, rfl⟩
      rw [hx3] at OB8 HT3 hres ⊢
      simp only at HT3 hres
      clear hx3
      obtain ⟨d0, d1, d2, d3, d4, df⟩ := box5 OB8.out.dc
      have F2 := fun (w : World) (a b c d e f : Value) => fieldTok2 w a b c d e f
      have OB9 := Lib.hid (OB8.out.put 2 (.int .i64 x3.n) (d' := ⟨K, x1.s, x3.n, [], s.w.line⟩) rfl)
      unfold tokA
      go_wp2_with fail
      obtain ⟨w9, hw9⟩ : ∃ w9, w8.setCell ⟨m, 2, none⟩ (.int .i64 x3.n) = w9 := ⟨_, rfl⟩
      rw [hw9] at OB9 ⊢
      clear hw9 OB8 d0 d1 d2 d3 d4 df
      have WO := Lib.hid (OB9.out)
      refine (must_ok OB9.out.ps [59]).mono ?_
      rintro z w7 ⟨rfl, p7, o7⟩
      have OB7 := Lib.hid (OB9.out.step p7 o7)
      clear p7 o7
      obtain ⟨d0, d1, d2, d3, d4, df⟩ := box5 OB7.out.dc
      obtain ⟨r0, r1, r2, r3, r4, rf⟩ := box5 OB7.out.rs
      have hmw : ¬ m = w.heap.size := by have := OB7.out.lt; omega
      have hwm : ¬ w.heap.size = m := by have := OB7.out.lt; omega
      go_wp2_with fail
      subst hres
      refine bodyPost_ret (v := .agg (dclA ⟨K, x1.s, x3.n, [], s.w.line⟩)) (by simp [results, Tryz.results33, go_sem, r0, r1, r2, r3, r4, dclA]) rfl ⟨(dclA ⟨K, x1.s, x3.n, [], s.w.line⟩).toList, by simp, ⟨rfl, by simp only; omega, HT1.out.1, HT3.out.2.1, TokOk.none.1, HTS.out.2.2⟩, ?_, ?_⟩
      · refine OB7.out.ps.off (S := fun k => k = w.heap.size) ?_ (by show ¬ b = w.heap.size; omega) (by show ¬ 0 = w.heap.size; have := H.out.pos; omega)
        repeat (first | with_reducible exact Only.refl _ | refine Only.put (S := fun k => k = w.heap.size) ?_ rfl _ _)
      · repeat (first | with_reducible exact OB7.out.on | refine Only.put' ?_ (by omega) _ _)
    · have cb' : countB K = false := by simpa using cb
      rw [cb']
      have hres := HRES.out
      rw [if_neg (by simpa using cb')] at hres
      simp only at hres
      by_cases k4 : K = 4
      · have q4 : ((K : Int) == 4) = true := by simp [k4]
        rw [if_pos k4] at hres
        clear k4
        have HT3 := Lib.hid (word_tok (k := 2) (OB6.out.ps.tk) t)
        go_wp2_with fail
        refine (name_ok OB6.out.ps).mono ?_
        rintro z w8 ⟨rfl, p8, o8⟩
        have OB8 := Lib.hid (OB6.out.step p8 o8)
        clear p8 o8 OB6 d0 d1 d2 d3 d4 df
        obtain ⟨⟨x3, s3⟩, hx3⟩ : ∃ r, s2.word t 2 = r := ⟨_, rfl⟩
        rw [hx3] at OB8 HT3 hres ⊢
        simp only at HT3 hres
        clear hx3
        obtain ⟨d0, d1, d2, d3, d4, df⟩ := box5 OB8.out.dc
        have OB9 := Lib.hid (OB8.out.put 3 (.string ⟨x3.s.toArray⟩) (d' := ⟨K, x1.s, 0, x3.s, s.w.line⟩) rfl)
        go_wp2_with fail
        obtain ⟨w9, hw9⟩ : ∃ w9, w8.setCell ⟨m, 3, none⟩ (.string ⟨x3.s.toArray⟩) = w9 := ⟨_, rfl⟩
        rw [hw9] at OB9 ⊢
        clear hw9 OB8 d0 d1 d2 d3 d4 df
        have WO := Lib.hid (OB9.out)
        refine (must_ok OB9.out.ps [59]).mono ?_
        rintro z w7 ⟨rfl, p7, o7⟩
        have OB7 := Lib.hid (OB9.out.step p7 o7)
        clear p7 o7
        obtain ⟨d0, d1, d2, d3, d4, df⟩ := box5 OB7.out.dc
        obtain ⟨r0, r1, r2, r3, r4, rf⟩ := box5 OB7.out.rs
        have hmw : ¬ m = w.heap.size := by have := OB7.out.lt; omega
        have hwm : ¬ w.heap.size = m := by have := OB7.out.lt; omega
        go_wp2_with fail
        subst hres
        refine bodyPost_ret (v := .agg (dclA ⟨K, x1.s, 0, x3.s, s.w.line⟩)) (by simp [results, Tryz.results33, go_sem, r0, r1, r2, r3, r4, dclA]) rfl ⟨(dclA ⟨K, x1.s, 0, x3.s, s.w.line⟩).toList, by simp, ⟨rfl, by simp only; omega, HT1.out.1, TokOk.none.2.1, HT3.out.1, HTS.out.2.2⟩, ?_, ?_⟩
        · refine OB7.out.ps.off (S := fun k => k = w.heap.size) ?_ (by show ¬ b = w.heap.size; omega) (by show ¬ 0 = w.heap.size; have := H.out.pos; omega)
          repeat (first | with_reducible exact Only.refl _ | refine Only.put (S := fun k => k = w.heap.size) ?_ rfl _ _)
        · repeat (first | with_reducible exact OB7.out.on | refine Only.put' ?_ (by omega) _ _)
      · have q4 : ((K : Int) == 4) = false := by simp; omega
        rw [if_neg k4] at hres
        simp only at hres
        go_wp2_with fail
        have OB9 := OB6
        clear OB6 d0 d1 d2 d3 d4 df
        have WO := Lib.hid (OB9.out)
        refine (must_ok OB9.out.ps [59]).mono ?_
        rintro z w7 ⟨rfl, p7, o7⟩
        have OB7 := Lib.hid (OB9.out.step p7 o7)
        clear p7 o7
        obtain ⟨d0, d1, d2, d3, d4, df⟩ := box5 OB7.out.dc
        obtain ⟨r0, r1, r2, r3, r4, rf⟩ := box5 OB7.out.rs
        have hmw : ¬ m = w.heap.size := by have := OB7.out.lt; omega
        have hwm : ¬ w.heap.size = m := by have := OB7.out.lt; omega
        go_wp2_with fail
        subst hres
        refine bodyPost_ret (v := .agg (dclA ⟨K, x1.s, 0, [], s.w.line⟩)) (by simp [results, Tryz.results33, go_sem, r0, r1, r2, r3, r4, dclA]) rfl ⟨(dclA ⟨K, x1.s, 0, [], s.w.line⟩).toList, by simp, ⟨rfl, by simp only; omega, HT1.out.1, TokOk.none.2.1, TokOk.none.1, HTS.out.2.2⟩, ?_, ?_⟩
        · refine OB7.out.ps.off (S := fun k => k = w.heap.size) ?_ (by show ¬ b = w.heap.size; omega) (by show ¬ 0 = w.heap.size; have := H.out.pos; omega)
          repeat (first | with_reducible exact Only.refl _ | refine Only.put (S := fun k => k = w.heap.size) ?_ rfl _ _)
        · repeat (first | with_reducible exact OB7.out.on | refine Only.put' ?_ (by omega) _ _)
end Go.Proofs.YtcmaedoolinijaaGreatDoor

namespace Go.Proofs.YtcmaedoolinijaaGreatDoor
open Go
def Nil (v : Value) : Prop := ∃ a, v = .slice a 0 0
def isNought (cs : List Value) (_ : Unit) : Prop := ∃ v, cs = [.int .u8 1, .string ⟨#[]⟩, .int .i64 0, v] ∧ Nil v
def isFs (w : World) (cs : List Value) (s : Fs) : Prop := ∃ v1 v2 v3, cs = [.int .u8 1, .int .u8 (s.op : Int), .string ⟨s.obj.toArray⟩, .string ⟨s.into.toArray⟩, .int .i64 0, v1, v2, v3, .int .i64 s.line] ∧
  s.op < 256 ∧ s.obj.length ≤ 9223372036854775807 ∧ s.into.length ≤ 9223372036854775807 ∧ in64' s.line ∧ RdK 4 isNought w v1 (List.replicate s.nargs ()) ∧ Nil v2 ∧ Nil v3
def isThr (w : World) (cs : List Value) (t : Thr) : Prop := ∃ v, cs = [.string ⟨t.name.toArray⟩, v, .int .i64 t.line] ∧ t.name.length ≤ 9223372036854775807 ∧ in64' t.line ∧ RdK 9 (isFs w) w v t.body
def ProgM (w : World) (cs : List Value) (os : List Dcl) (ts : List Thr) : Prop := ∃ v0 v1, cs = [v0, v1] ∧ RdK 5 isDcl w v0 os ∧ RdK 3 (isThr w) w v1 ts
theorem isFs.nw {w w' : World} {cs : List Value} {s : Fs} (h : isFs w cs s) (ho : Nw w w') : isFs w' cs s := by
  obtain ⟨v1, v2, v3, h1, h2, h3, h4, h5, h6, h7⟩ := h
  exact ⟨v1, v2, v3, h1, h2, h3, h4, h5, h6.nw ho, h7⟩
theorem isThr.nw {w w' : World} {cs : List Value} {t : Thr} (h : isThr w cs t) (ho : Nw w w') : isThr w' cs t := by
  obtain ⟨v, h1, h2, h3, h4⟩ := h
  exact ⟨v, h1, h2, h3, h4.nwR ho fun _ _ h => h.nw ho⟩
theorem ProgM.nw {w w' : World} {cs : List Value} {os : List Dcl} {ts : List Thr} (h : ProgM w cs os ts) (ho : Nw w w') : ProgM w' cs os ts := by
  obtain ⟨v0, v1, h1, h2, h3⟩ := h
  exact ⟨v0, v1, h1, h2.nw ho, h3.nwR ho fun _ _ h => h.nw ho⟩
theorem RdK.nil {α : Type} {k : Nat} {R : List Value → α → Prop} {w : World} {v : Value} (h : RdK k R w v []) : ∃ a c, v = .slice a 0 c ∧ c ≤ maxLen := by
  rcases h with ⟨a, rfl, -⟩ | ⟨g, o, cap, rfl, -, h2, -⟩
  · exact ⟨a, 0, rfl, by simp⟩
  · exact ⟨_, cap, rfl, h2⟩
end Go.Proofs.YtcmaedoolinijaaGreatDoor

namespace Go.Proofs.YtcmaedoolinijaaGreatDoor
open Go Go.RowKit
def VecR {α : Type} (k : Nat) (R : List Value → α → Prop) (w : World) (v : Value) (l : List α) : Prop :=
  ∃ cs, Vec k w v l.length cs ∧ ∀ i (h : i < l.length), R ((cs.drop (i * k)).take k) l[i]
section
variable {α : Type} {k : Nat} {R : List Value → α → Prop} {w w' : World} {v : Value} {l : List α}
theorem VecR.nil : VecR k R w (.slice none 0 0) [] := ⟨[], Vec.nil, fun i h => absurd h (by simp)⟩
theorem VecR.snoc {cs c : List Value} {x : α} (h : Vec k w v (l.length + 1) (cs ++ c)) (hl : cs.length = l.length * k) (hc : c.length = k) (h0 : ∀ i (h : i < l.length), R ((cs.drop (i * k)).take k) l[i]) (hx : R c x) : VecR k R w v (l ++ [x]) := by
  refine ⟨cs ++ c, by rw [List.length_append, List.length_singleton]; exact h, fun i hi => ?_⟩
  rw [List.length_append, List.length_singleton] at hi
  by_cases hin : i < l.length
  · have hb : i * k + k ≤ l.length * k := by
      have := Nat.mul_le_mul_right k (show i + 1 ≤ l.length by omega)
      rw [Nat.add_mul] at this
      omega
    have := h0 i hin
    rw [List.getElem_append_left hin, List.drop_append_of_le_length (by omega), List.take_append_of_le_length (by rw [List.length_drop]; omega)]
    exact this
  · obtain rfl : i = l.length := by omega
    rw [← hl, List.drop_left, List.take_of_length_le (by omega), List.getElem_append_right (Nat.le_refl _)]
    simpa using hx
theorem VecR.keep (h : VecR k R w v l) (hs : w.heap.size ≤ w'.heap.size) (hb : ∀ g, v.ownBlock = some g → w'.heap[g]? = w.heap[g]?) : VecR k R w' v l := by
  obtain ⟨cs, h1, h2⟩ := h
  exact ⟨cs, h1.keep hs hb, h2⟩
theorem VecR.lt (h : VecR k R w v l) : ∀ g, v.ownBlock = some g → g < w.heap.size := by
  obtain ⟨cs, h1, -⟩ := h
  exact h1.lt
theorem VecR.imp {R' : List Value → α → Prop} (h : VecR k R w v l) (hR : ∀ cs x, R cs x → R' cs x) : VecR k R' w v l := by
  obtain ⟨cs, h1, h2⟩ := h
  exact ⟨cs, h1, fun i hi => hR _ _ (h2 i hi)⟩
theorem VecR.rdk (h : VecR k R w v l) : RdK k R w v l := by
  obtain ⟨cs, ⟨hl, ⟨rfl, h0⟩ | ⟨g, o, cap, rfl, h1, h2, h3, -, -, h6⟩⟩, hR⟩ := h
  · exact .inl ⟨none, rfl, List.eq_nil_of_length_eq_zero h0⟩
  · refine .inr ⟨g, o, cap, rfl, h1, h2, h3, fun i hi => ⟨(cs.drop (i * k)).take k, ?_, fun j hj => ?_, hR i hi⟩⟩
    · have := Nat.mul_le_mul_right k (show i + 1 ≤ l.length by omega)
      rw [Nat.add_mul] at this
      rw [List.length_take, List.length_drop]
      omega
    · rw [List.length_take, List.length_drop] at hj
      have := h6 (i * k + j) (by omega)
      rw [Nat.add_assoc, this]
      simp
end
end Go.Proofs.YtcmaedoolinijaaGreatDoor

namespace Go.Proofs.YtcmaedoolinijaaGreatDoor
set_option maxRecDepth 100000
def bodyN (t : List UInt8) (s : PS) : Option PS := if (s.must t [123]).e = 0 ∧ (s.must t [123]).is [[125]] = false then none else some ((s.must t [123]).must t [125])
def partsN (t : List UInt8) : Nat → PS → List Dcl → List Thr → Option (List Dcl × List Thr × PS)
  | 0, _, _, _ => none
  | f + 1, s, os, ts => if s.e = 0 ∧ s.w.kind ≠ 5 then
      if s.is objsW then partsN t f (objectF t s).2 (os ++ [(objectF t s).1]) ts
      else match bodyN t ((s.must t threadS).word t 2).2 with
        | some s' => partsN t f s' os (ts ++ [⟨((s.must t threadS).word t 2).1.s, [], s.w.line⟩])
        | none => none
    else some (os, ts, s)
def parseN (t : List UInt8) : Option (List Dcl × List Thr × PS) := partsN t 100 ((⟨Tok.none, 0, 0, 0⟩ : PS).read t 0) [] []
theorem partsN_len {t : List UInt8} : ∀ {f : Nat} {s : PS} {os : List Dcl} {ts : List Thr} {r : List Dcl × List Thr × PS}, partsN t f s os ts = some r → os.length ≤ r.1.length ∧ ts.length ≤ r.2.1.length
  | 0, _, _, _, _, h => by simp [partsN] at h
  | f + 1, s, os, ts, r, h => by
    rw [partsN] at h
    split at h
    · split at h
      · have := partsN_len h
        simp at this
        omega
      · split at h
        · have := partsN_len h
          simp at this
          omega
        · simp at h
    · obtain rfl := Option.some.inj h
      simp
end Go.Proofs.YtcmaedoolinijaaGreatDoor

namespace Go.Proofs.YtcmaedoolinijaaGreatDoor
open Go Go.RowKit Go.Sort
set_option maxRecDepth 100000
set_option maxHeartbeats 3200000
def isThr0 (cs : List Value) (t : Thr) : Prop := cs = [.string ⟨t.name.toArray⟩, .slice none 0 0, .int .i64 t.line] ∧ t.name.length ≤ 9223372036854775807 ∧ in64' t.line ∧ t.body = []
theorem isThr0.thr {w : World} {cs : List Value} {t : Thr} (h : isThr0 cs t) : isThr w cs t := by
  obtain ⟨h1, h2, h3, h4⟩ := h
  exact ⟨_, h1, h2, h3, by rw [h4]; exact .inl ⟨_, rfl, rfl⟩⟩
structure PaB (w wr : World) (b po pa L : Nat) (t : List UInt8) (s : PS) (os : List Dcl) (ts : List Thr) (v0 v1 : Value) : Prop where
  nw : Nw w wr
  ps : PM wr b t s
  out : wr.heap[po]? = some (.cells #[v0, v1] 51 (0, 0))
  all : wr.heap[pa]? = some (.cells objsA 87 (0, 0))
  r0 : wr.heap[w.heap.size]? = some (.cells #[.slice none 0 0, .slice none 0 0] 51 (0, 0))
  r1 : wr.heap[w.heap.size + 1]? = some (.cells (fltA 0 0) 43 (0, 0))
  ob : VecR 5 isDcl wr v0 os
  th : VecR 3 isThr0 wr v1 ts
  f0 : ∀ g, v0.ownBlock = some g → L ≤ g
  f1 : ∀ g, v1.ownBlock = some g → L ≤ g ∧ v0.ownBlock ≠ some g
  b1 : w.heap.size + 1 < b
  b2 : b < po
  b3 : po < pa
  b4 : pa < L
  b5 : L ≤ wr.heap.size
theorem PaB.on {w wr w' : World} {b po pa L : Nat} {t : List UInt8} {s s' : PS} {os : List Dcl} {ts : List Thr} {v0 v1 : Value} (h : PaB w wr b po pa L t s os ts v0 v1) (hp : PM w' b t s') (ho : Only (fun k => k = b) wr w') : PaB w w' b po pa L t s' os ts v0 v1 :=
  ⟨h.nw.trans' ho (fun k hk e => absurd hk (by have := h.b1; omega)), hp, ho.at_ h.out (by have := h.b2; omega), ho.at_ h.all (by have := h.b2; have := h.b3; omega), ho.at_ h.r0 (by have := h.b1; omega), ho.at_ h.r1 (by have := h.b1; omega),
    h.ob.keep ho.size (fun g hg => ho.block g (h.ob.lt g hg) (by have := h.f0 g hg; have := h.b2; have := h.b3; have := h.b4; omega)), h.th.keep ho.size (fun g hg => ho.block g (h.th.lt g hg) (by have := (h.f1 g hg).1; have := h.b2; have := h.b3; have := h.b4; omega)),
    h.f0, h.f1, h.b1, h.b2, h.b3, h.b4, Nat.le_trans h.b5 ho.size⟩
theorem PaB.obj {w wr w3 : World} {b po pa L : Nat} {t : List UInt8} {s : PS} {os : List Dcl} {ts : List Thr} {v0 v1 v0' : Value} {cs c : List Value} {d : Dcl} (h : PaB w wr b po pa L t s os ts v0 v1) (hcs : cs.length = os.length * 5)
    (h0 : ∀ i (h : i < os.length), isDcl ((cs.drop (i * 5)).take 5) os[i]) (hA : Only (fun k => v0.ownBlock = some k) wr w3) (hV : Vec 5 w3 v0' (os.length + 1) (cs ++ c)) (hown : v0'.ownBlock = v0.ownBlock ∨ ∀ g, v0'.ownBlock = some g → wr.heap.size ≤ g) (hc : c.length = 5) (hd : isDcl c d) :
    PaB w (w3.setCell ⟨po, 0, none⟩ v0') b po pa L t s (os ++ [d]) ts v0' v1 := by
  have k1 := h.b1
  have k2 := h.b2
  have k3 := h.b3
  have k4 := h.b4
  have k5 := h.b5
  have hfr : ∀ k, k < L → k < wr.heap.size → ¬ v0.ownBlock = some k := fun k hk _ e => by have := h.f0 k e; omega
  have hO : Only (fun k => v0.ownBlock = some k ∨ k = po) wr (w3.setCell ⟨po, 0, none⟩ v0') := Only.put (hA.mono fun k _ h => .inl h) (.inr rfl) _ _
  have hn : ∀ k, k < L → k ≠ po → ¬ (v0.ownBlock = some k ∨ k = po) := fun k hk hp e => e.elim (fun e => by have := h.f0 k e; omega) hp
  have hf0 : ∀ g, v0'.ownBlock = some g → L ≤ g := fun g hg => by
    rcases hown with e | e
    · exact h.f0 g (by rw [← e]; exact hg)
    · have := e g hg; omega
  refine ⟨h.nw.trans' hO (fun k hk e => ?_), h.ps.off hO (hn b (by omega) (by omega)) (hn _ (by have := h.ps.pos; omega) (by have := h.ps.pos; omega)), ?_, hO.at_ h.all (hn pa (by omega) (by omega)), hO.at_ h.r0 (hn _ (by omega) (by omega)), hO.at_ h.r1 (hn _ (by omega) (by omega)),
    ?_, h.th.keep hO.size (fun g hg => hO.block g (h.th.lt g hg) ?_), hf0, ?_, h.b1, h.b2, h.b3, h.b4, Nat.le_trans h.b5 hO.size⟩
  · rcases e with e | e
    · have := h.f0 k e; omega
    · omega
  · have := heap_put (i := 0) (hA.at_ h.out (hfr po (by omega) (lt_of_block h.out))) v0'
    simpa using this
  · refine (VecR.snoc hV hcs hc h0 hd).keep (by simp) (fun g hg => heap_setCell_other _ _ _ _ (by have := hf0 g hg; simp; omega))
  · rintro (e | e)
    · exact (h.f1 g hg).2 e
    · have := (h.f1 g hg).1; omega
  · intro g hg
    refine ⟨(h.f1 g hg).1, fun e => ?_⟩
    rcases hown with e2 | e2
    · rw [e2] at e; exact (h.f1 g hg).2 e
    · have := e2 g e; have := h.th.lt g hg; omega
theorem PaB.thr {w wr w3 : World} {b po pa L : Nat} {t : List UInt8} {s : PS} {os : List Dcl} {ts : List Thr} {v0 v1 v1' : Value} {cs c : List Value} {d : Thr} (h : PaB w wr b po pa L t s os ts v0 v1) (hcs : cs.length = ts.length * 3)
    (h0 : ∀ i (h : i < ts.length), isThr0 ((cs.drop (i * 3)).take 3) ts[i]) (hA : Only (fun k => v1.ownBlock = some k) wr w3) (hV : Vec 3 w3 v1' (ts.length + 1) (cs ++ c)) (hown : v1'.ownBlock = v1.ownBlock ∨ ∀ g, v1'.ownBlock = some g → wr.heap.size ≤ g) (hc : c.length = 3) (hd : isThr0 c d) :
    PaB w (w3.setCell ⟨po, 1, none⟩ v1') b po pa L t s os (ts ++ [d]) v0 v1' := by
  have k1 := h.b1
  have k2 := h.b2
  have k3 := h.b3
  have k4 := h.b4
  have k5 := h.b5
  have hfr : ∀ k, k < L → k < wr.heap.size → ¬ v1.ownBlock = some k := fun k hk _ e => by have := (h.f1 k e).1; omega
  have hO : Only (fun k => v1.ownBlock = some k ∨ k = po) wr (w3.setCell ⟨po, 1, none⟩ v1') := Only.put (hA.mono fun k _ h => .inl h) (.inr rfl) _ _
  have hn : ∀ k, k < L → k ≠ po → ¬ (v1.ownBlock = some k ∨ k = po) := fun k hk hp e => e.elim (fun e => by have := (h.f1 k e).1; omega) hp
  have hf1 : ∀ g, v1'.ownBlock = some g → L ≤ g := fun g hg => by
    rcases hown with e | e
    · exact (h.f1 g (by rw [← e]; exact hg)).1
    · have := e g hg; omega
  refine ⟨h.nw.trans' hO (fun k hk e => ?_), h.ps.off hO (hn b (by omega) (by omega)) (hn _ (by have := h.ps.pos; omega) (by have := h.ps.pos; omega)), ?_, hO.at_ h.all (hn pa (by omega) (by omega)), hO.at_ h.r0 (hn _ (by omega) (by omega)), hO.at_ h.r1 (hn _ (by omega) (by omega)),
    h.ob.keep hO.size (fun g hg => hO.block g (h.ob.lt g hg) ?_), ?_, h.f0, ?_, h.b1, h.b2, h.b3, h.b4, Nat.le_trans h.b5 hO.size⟩
  · rcases e with e | e
    · have := (h.f1 k e).1; omega
    · omega
  · have := heap_put (i := 1) (hA.at_ h.out (hfr po (by omega) (lt_of_block h.out))) v1'
    simpa using this
  · rintro (e | e)
    · exact (h.f1 g e).2 hg
    · have := h.f0 g hg; omega
  · refine (VecR.snoc hV hcs hc h0 hd).keep (by simp) (fun g hg => heap_setCell_other _ _ _ _ (by have := hf1 g hg; simp; omega))
  · intro g hg
    refine ⟨hf1 g hg, fun e => ?_⟩
    rcases hown with e2 | e2
    · rw [e2] at hg; exact (h.f1 g hg).2 e
    · have := e2 g hg; have := h.ob.lt g e; omega
end Go.Proofs.YtcmaedoolinijaaGreatDoor

namespace Go.Proofs.YtcmaedoolinijaaGreatDoor
open Go Go.RowKit Go.Sort
set_option maxRecDepth 100000
set_option maxHeartbeats 3200000
def Mx (w : World) : Prop := ∃ M, w.cell? ⟨0, 0, none⟩ = some (.int .i64 M)
theorem Mx.nw {w w' : World} (h : Mx w) (ho : Nw w w') : Mx w' := h.imp fun _ h => ho.cell h
theorem Mx.on {S : Nat → Prop} {w w' : World} (h : Mx w) (ho : Only S w w') (hn : ¬ S 0) : Mx w' := h.imp fun _ h => ho.cell h hn
theorem Mx.lt {w : World} (h : Mx w) : 0 < w.heap.size := h.elim fun _ h => World.block_lt_of_cell? _ _ h
theorem nextF_se (t : List UInt8) (a : Int) : 0 ≤ (nextF t a).1.at_ ∧ (nextF t a).1.at_ ≤ 16384 ∧ 0 ≤ (nextF t a).1.end_ ∧ (nextF t a).1.end_ ≤ 16384 := by
  unfold nextF
  split
  · simp [Tok.none]
  split
  · simp [Tok.none]
  rename_i h1 h2
  have h3 := passB_le false (t.drop a.toNat)
  have h4 := endB_le (t.drop (a.toNat + passB false (t.drop a.toNat)))
  rw [List.length_drop] at h3 h4
  simp only
  split
  · simp only; omega
  · unfold tokF
    simp only
    split
    · split
      · simp only; omega
      · simp [Tok.none]
    split
    · simp only; omega
    split
    · simp only; omega
    · simp [Tok.none]
theorem isName_ok {w : World} (hM : Mx w) {s : List UInt8} (hl : s.length ≤ 9223372036854775807) :
    Calls Tryz.prog 70 #[.string ⟨s.toArray⟩] w fun z w' => z = .returned (.bool (nameB s)) ∧ Nw w w' := by
  obtain ⟨M, hM⟩ := hM
  have NX := Lib.hid (Next_ok (a := 0) hM hl (by omega))
  have HE := Lib.hid (nextF_se s 0)
  unfold nameB
  obtain ⟨⟨⟨kd, ss, nn, li, aa, ee⟩, e, el⟩, hr⟩ : ∃ r, nextF s 0 = r := ⟨_, rfl⟩
  rw [hr] at NX HE ⊢
  simp only at HE
  obtain ⟨n, hn⟩ : ∃ n, s.length = n := ⟨_, rfl⟩
  rw [hn] at hl ⊢
  clear hM hr
  have hw : IntKind.i64.wrap (ee - aa) = ee - aa := IntWalk.i64_in _ (by have := HE.out; omega)
  unfold tokA fltA at NX
  simp only
  obtain ⟨y, hy⟩ : ∃ y, ((ee - aa) == (n : Int)) = y := ⟨_, rfl⟩
  rw [show decide (ee - aa = (n : Int)) = y by rw [← hy]; by_cases h : ee - aa = (n : Int) <;> simp [h]]
  by_cases c0 : e = 0
  · have q : (e == 0) = true := by simpa using c0
    rw [decide_eq_true c0]
    clear c0
    by_cases c2 : kd = 2
    · have q2 : ((kd : Int) == 2) = true := by simp [c2]
      rw [decide_eq_true c2]
      clear c2
      go_enter Tryz.func70, Tryz.ntmps70
      go_wp2_with fail
      refine NX.out.mono ?_
      rintro z w1 ⟨rfl, n1⟩
      have N1 := Lib.hid n1
      clear n1
      go_wp2_with fail
      go_ret
      exact ⟨by first | rfl | (rw [← hy]; rfl), (N1.out.alloc _).alloc _⟩
    · have q2 : ((kd : Int) == 2) = false := by simp; omega
      rw [decide_eq_false c2]
      clear c2
      go_enter Tryz.func70, Tryz.ntmps70
      go_wp2_with fail
      refine NX.out.mono ?_
      rintro z w1 ⟨rfl, n1⟩
      have N1 := Lib.hid n1
      clear n1
      go_wp2_with fail
      go_ret
      exact ⟨by first | rfl | (rw [← hy]; rfl), (N1.out.alloc _).alloc _⟩
  · have q : (e == 0) = false := by simpa using c0
    rw [decide_eq_false c0]
    clear c0
    go_enter Tryz.func70, Tryz.ntmps70
    go_wp2_with fail
    refine NX.out.mono ?_
    rintro z w1 ⟨rfl, n1⟩
    have N1 := Lib.hid n1
    clear n1
    go_wp2_with fail
    go_ret
    exact ⟨by first | rfl | (rw [← hy]; rfl), (N1.out.alloc _).alloc _⟩
end Go.Proofs.YtcmaedoolinijaaGreatDoor
