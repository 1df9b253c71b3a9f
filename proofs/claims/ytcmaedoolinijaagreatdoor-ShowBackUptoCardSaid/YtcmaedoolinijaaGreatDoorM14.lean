/-
  Texts merged by a program of this claim's: TreeGPlain, StM, WalkA, WalkB.
-/
import Derived.Test.YtcmaedoolinijaaGreatDoorM5
import Derived.Test.YtcmaedoolinijaaGreatDoorM6
import Derived.Test.YtcmaedoolinijaaGreatDoorM8
import Derived.Test.YtcmaedoolinijaaGreatDoorM7
import Derived.Deep.DeepCutAuto
import Derived.BigQuiet
import Derived.Deep.QuietTactic
namespace Go.Proofs.YtcmaedoolinijaaGreatDoor
set_option maxRecDepth 100000
open Go Go.Lib
inductive St where
  | mk (kind op : Nat) (obj into : List UInt8) (n : Int) (args : List Ex) (body els : List St) (line : Int)
structure ThrG where
  name : List UInt8
  body : List St
  line : Int
def aloneB (k : Nat) (s : List UInt8) (n : Int) (kids : Nat) : Bool :=
  if k = 1 then decide (0 ≤ n) && decide (s = []) && decide (kids = 0)
  else if k = 2 then decide (n = 0) && decide (kids = 0) && nameB s
  else if k = 3 then decide (n = 0) && decide (1 ≤ kids) && decide (kids ≤ 2) && (if kids = 1 then [[45]] else [[43], [45], [42], [61, 61], [60]]).contains s
  else false
mutual
def exG (ask : Bool) : Ex → Nat → Nat → Option Nat
  | .mk k s v kids, n, deep => if n + 1 > 1000 ∨ deep > 20 ∨ (ask && !aloneB k s v kids.length) = true then none else exsG ask kids (n + 1) (deep + 1)
def exsG (ask : Bool) : List Ex → Nat → Nat → Option Nat
  | [], n, _ => some n
  | e :: l, n, deep => (exG ask e n deep).bind fun m => exsG ask l m deep
end
def shapeN (kind op : Nat) (obj into : List UInt8) (v : Int) (na nb ne : Nat) : Bool :=
  if kind = 1 then decide (1 ≤ op) && decide (op ≤ 23) && nameB obj && decide (v = 0) && decide (na = argsN op) && decide (ne = 0) && (decide (nb + ne = 0) || decide (op = 16)) && (if intoB op then nameB into else decide (into = []))
  else if kind = 2 then decide (op = 0) && decide (obj = []) && decide (v = 0) && decide (na = 1) && decide (nb + ne = 0) && nameB into
  else if op ≠ 0 ∨ obj ≠ [] ∨ into ≠ [] then false
  else if kind = 3 then decide (0 ≤ v) && decide (na = 0) && decide (ne = 0)
  else if kind = 4 then decide (v = 0) && decide (na = 1)
  else false
mutual
def stG (ask : Bool) : St → Nat → Nat → Option Nat
  | .mk kind op obj into v args body els _, n, deep =>
    if n + 1 > 1000 ∨ deep > 20 ∨ (ask && !shapeN kind op obj into v args.length body.length els.length) = true then none
    else (exsG ask args (n + 1) (deep + 1)).bind fun m => (stsG ask body m (deep + 1)).bind fun m => stsG ask els m (deep + 1)
def stsG (ask : Bool) : List St → Nat → Nat → Option Nat
  | [], n, _ => some n
  | s :: l, n, deep => (stG ask s n deep).bind fun m => stsG ask l m deep
end
def thrsG (ask : Bool) : List ThrG → Nat → Option Nat
  | [], n => some n
  | t :: l, n => if (ask && !nameB t.name) = true then none else (stsG ask t.body n 1).bind fun m => thrsG ask l m
def rightG (ask : Bool) (os : List Dcl) (ts : List ThrG) : Bool :=
  decide (os.length ≤ 64) && decide (ts.length ≤ 16) && os.all (fun d => !ask || objectB d) && (thrsG ask ts 0).isSome
end Go.Proofs.YtcmaedoolinijaaGreatDoor

namespace Go.Proofs.YtcmaedoolinijaaGreatDoor
open Go Go.ChangeShapes Go.WideShapes Go.RowKit Go.Deep
mutual
def StM (w : World) : St → List Value → Prop
  | .mk kind op obj into n args body els line, cs => ∃ v1 v2 v3, cs = [.int .u8 (kind : Int), .int .u8 (op : Int), .string ⟨obj.toArray⟩, .string ⟨into.toArray⟩, .int .i64 n, v1, v2, v3, .int .i64 line] ∧
      kind < 256 ∧ op < 256 ∧ obj.length ≤ 9223372036854775807 ∧ into.length ≤ 9223372036854775807 ∧ in64' n ∧ in64' line ∧ body.length + els.length ≤ 9223372036854775807 ∧ ExsM w v1 args ∧
      ((∃ a, v2 = .slice a 0 0 ∧ body.length = 0) ∨ ∃ g o cap, v2 = .slice (some ⟨g, o, none⟩) body.length cap ∧ body.length ≤ cap ∧ cap ≤ maxLen ∧ g < w.heap.size ∧ StRow w body g o) ∧
      ((∃ a, v3 = .slice a 0 0 ∧ els.length = 0) ∨ ∃ g o cap, v3 = .slice (some ⟨g, o, none⟩) els.length cap ∧ els.length ≤ cap ∧ cap ≤ maxLen ∧ g < w.heap.size ∧ StRow w els g o)
def StRow (w : World) : List St → Nat → Nat → Prop
  | [], _, _ => True
  | e :: l, g, o => (∃ cs : List Value, cs.length = 9 ∧ (∀ j (hj : j < cs.length), w.cell? ⟨g, o + j, none⟩ = some cs[j]) ∧ StM w e cs) ∧ StRow w l g (o + 9)
end
theorem StRow.iff {w : World} : ∀ {l : List St} {g o : Nat}, StRow w l g o ↔ ∀ i (h : i < l.length), ∃ cs : List Value, cs.length = 9 ∧ (∀ j (hj : j < cs.length), w.cell? ⟨g, o + i * 9 + j, none⟩ = some cs[j]) ∧ StM w l[i] cs
  | [], g, o => by simp [StRow]
  | e :: l, g, o => by
    rw [StRow, StRow.iff (l := l)]
    constructor
    · rintro ⟨h0, h⟩ i hi
      match i with
      | 0 => simpa using h0
      | i + 1 =>
        obtain ⟨cs, h1, h2, h3⟩ := h i (by simpa using hi)
        refine ⟨cs, h1, fun j hj => ?_, by simpa using h3⟩
        have := h2 j hj
        rw [show o + 9 + i * 9 + j = o + (i + 1) * 9 + j from by omega] at this
        exact this
    · intro h
      refine ⟨by
        obtain ⟨cs, h1, h2, h3⟩ := h 0 (by simp)
        exact ⟨cs, h1, fun j hj => by simpa using h2 j hj, h3⟩, fun i hi => ?_⟩
      obtain ⟨cs, h1, h2, h3⟩ := h (i + 1) (by simpa using hi)
      refine ⟨cs, h1, fun j hj => ?_, by simpa using h3⟩
      have := h2 j hj
      rw [show o + (i + 1) * 9 + j = o + 9 + i * 9 + j from by omega] at this
      exact this
def StsM (w : World) (v : Value) (l : List St) : Prop := RdK 9 (fun cs e => StM w e cs) w v l
theorem StM.mk_iff {w : World} {kind op : Nat} {obj into : List UInt8} {n line : Int} {args : List Ex} {body els : List St} {cs : List Value} : StM w (.mk kind op obj into n args body els line) cs ↔
    ∃ v1 v2 v3, cs = [.int .u8 (kind : Int), .int .u8 (op : Int), .string ⟨obj.toArray⟩, .string ⟨into.toArray⟩, .int .i64 n, v1, v2, v3, .int .i64 line] ∧ kind < 256 ∧ op < 256 ∧ obj.length ≤ 9223372036854775807 ∧ into.length ≤ 9223372036854775807 ∧ in64' n ∧ in64' line ∧ body.length + els.length ≤ 9223372036854775807 ∧ ExsM w v1 args ∧ StsM w v2 body ∧ StsM w v3 els := by
  rw [StM]
  unfold StsM RdK
  simp only [StRow.iff, List.length_eq_zero_iff]
def Thin (w : World) (S : Nat → Prop) : Prop := ∀ b, S b → ∃ A t fr, w.heap[b]? = some (.cells A t fr) ∧ A.size < 4
theorem Thin.ne {w : World} {S : Nat → Prop} (h : Thin w S) {g o k : Nat} {cs : List Value} (hk : 4 ≤ k) (hl : cs.length = k) (hc : ∀ j (hj : j < cs.length), w.cell? ⟨g, o + j, none⟩ = some cs[j]) : ¬ S g := fun hs => by
  obtain ⟨A, t, fr, hh, hA⟩ := h g hs
  have := hc 3 (by omega)
  simp [World.cell?, hh] at this
  obtain ⟨h1, -⟩ := Array.getElem?_eq_some_iff.1 this
  omega
mutual
theorem ExM.off {w w' : World} {S : Nat → Prop} (hT : Thin w S) (ho : Only S w w') : ∀ {e : Ex} {cs : List Value}, ExM w e cs → ExM w' e cs
  | .mk k s n kids, cs, h => by
    rw [ExM] at h ⊢
    obtain ⟨v, h1, h2, h3, h4, h5⟩ := h
    refine ⟨v, h1, h2, h3, h4, ?_⟩
    rcases h5 with h5 | ⟨g, o, cap, a1, a2, a3, a4, a5⟩
    · exact .inl h5
    · exact .inr ⟨g, o, cap, a1, a2, a3, Nat.lt_of_lt_of_le a4 ho.size, KidsM.off hT ho a5⟩
theorem KidsM.off {w w' : World} {S : Nat → Prop} (hT : Thin w S) (ho : Only S w w') : ∀ {l : List Ex} {g o : Nat}, KidsM w l g o → KidsM w' l g o
  | [], _, _, _ => by simp [KidsM]
  | e :: l, g, o, h => by
    rw [KidsM] at h ⊢
    obtain ⟨⟨cs, h1, h2, h3⟩, h4⟩ := h
    exact ⟨⟨cs, h1, fun j hj => ho.cell (h2 j hj) (hT.ne (by omega) h1 h2), ExM.off hT ho h3⟩, KidsM.off hT ho h4⟩
end
theorem ExsM.off {w w' : World} {S : Nat → Prop} (hT : Thin w S) (ho : Only S w w') {v : Value} {l : List Ex} (h : ExsM w v l) : ExsM w' v l := by
  rcases h with h | ⟨g, o, cap, rfl, h1, h2, hg, h3⟩
  · exact .inl h
  · exact .inr ⟨g, o, cap, rfl, h1, h2, Nat.lt_of_lt_of_le hg ho.size, fun i hi => by
      obtain ⟨cs, hk, hc, hr⟩ := h3 i hi
      exact ⟨cs, hk, fun j hj => ho.cell (hc j hj) (hT.ne (by omega) hk hc), ExM.off hT ho hr⟩⟩
mutual
theorem StM.off {w w' : World} {S : Nat → Prop} (hT : Thin w S) (ho : Only S w w') : ∀ {e : St} {cs : List Value}, StM w e cs → StM w' e cs
  | .mk kind op obj into n args body els line, cs, h => by
    rw [StM] at h ⊢
    obtain ⟨v1, v2, v3, h1, h2, h3, h4, h5, h6, h7, h7b, h8, h9, h10⟩ := h
    refine ⟨v1, v2, v3, h1, h2, h3, h4, h5, h6, h7, h7b, ExsM.off hT ho h8, ?_, ?_⟩
    · rcases h9 with h9 | ⟨g, o, cap, a1, a2, a3, a4, a5⟩
      · exact .inl h9
      · exact .inr ⟨g, o, cap, a1, a2, a3, Nat.lt_of_lt_of_le a4 ho.size, StRow.off hT ho a5⟩
    · rcases h10 with h9 | ⟨g, o, cap, a1, a2, a3, a4, a5⟩
      · exact .inl h9
      · exact .inr ⟨g, o, cap, a1, a2, a3, Nat.lt_of_lt_of_le a4 ho.size, StRow.off hT ho a5⟩
theorem StRow.off {w w' : World} {S : Nat → Prop} (hT : Thin w S) (ho : Only S w w') : ∀ {l : List St} {g o : Nat}, StRow w l g o → StRow w' l g o
  | [], _, _, _ => by simp [StRow]
  | e :: l, g, o, h => by
    rw [StRow] at h ⊢
    obtain ⟨⟨cs, h1, h2, h3⟩, h4⟩ := h
    exact ⟨⟨cs, h1, fun j hj => ho.cell (h2 j hj) (hT.ne (by omega) h1 h2), StM.off hT ho h3⟩, StRow.off hT ho h4⟩
end
theorem StsM.off {w w' : World} {S : Nat → Prop} (hT : Thin w S) (ho : Only S w w') {v : Value} {l : List St} (h : StsM w v l) : StsM w' v l := by
  rcases h with h | ⟨g, o, cap, rfl, h1, h2, hg, h3⟩
  · exact .inl h
  · exact .inr ⟨g, o, cap, rfl, h1, h2, Nat.lt_of_lt_of_le hg ho.size, fun i hi => by
      obtain ⟨cs, hk, hc, hr⟩ := h3 i hi
      exact ⟨cs, hk, fun j hj => ho.cell (hc j hj) (hT.ne (by omega) hk hc), StM.off hT ho hr⟩⟩
theorem Thin.none {w : World} : Thin w fun _ => False := fun _ h => h.elim
theorem StsM.nw {w w' : World} {v : Value} {l : List St} (h : StsM w v l) (ho : Nw w w') : StsM w' v l := h.off Thin.none ho
theorem StM.nw {w w' : World} {cs : List Value} {e : St} (h : StM w e cs) (ho : Nw w w') : StM w' e cs := StM.off Thin.none ho h
def isThrG (w : World) (cs : List Value) (t : ThrG) : Prop := ∃ v, cs = [.string ⟨t.name.toArray⟩, v, .int .i64 t.line] ∧ t.name.length ≤ 9223372036854775807 ∧ in64' t.line ∧ StsM w v t.body
theorem isThrG.nw {w w' : World} {cs : List Value} {t : ThrG} (h : isThrG w cs t) (ho : Nw w w') : isThrG w' cs t := by
  obtain ⟨v, h1, h2, h3, h4⟩ := h
  exact ⟨v, h1, h2, h3, h4.nw ho⟩
end Go.Proofs.YtcmaedoolinijaaGreatDoor

namespace Go.Proofs.YtcmaedoolinijaaGreatDoor
open Go Go.RowKit Go.Sort
set_option maxRecDepth 100000
set_option maxHeartbeats 3200000
def WkS (w : World) (g : Nat) (ask : Bool) (o : Option Nat) : Prop := ∃ m : Int, w.heap[g]? = some (.cells #[.int .i64 m, .bool ask, .bool o.isNone] 98 (0, 0)) ∧ ∀ n, o = some n → m = (n : Int) ∧ n ≤ 1000
theorem WkS.nw {w w' : World} {g : Nat} {ask : Bool} {o : Option Nat} (h : WkS w g ask o) (hn : Nw w w') : WkS w' g ask o := h.imp fun _ h => ⟨hn.at_ h.1, h.2⟩
theorem WkS.thin {w : World} {g : Nat} {ask : Bool} {o : Option Nat} (h : WkS w g ask o) : Thin w fun k => k = g := fun b hb => by
  obtain ⟨m, h1, -⟩ := h
  subst hb
  exact ⟨_, _, _, h1, by simp⟩
theorem WkS.lt {w : World} {g : Nat} {ask : Bool} {o : Option Nat} (h : WkS w g ask o) : g < w.heap.size := h.elim fun _ h => lt_of_block h.1
def oneR (deep : Nat) (ask b : Bool) (o : Option Nat) : Option Nat := o.bind fun n => if n + 1 > 1000 ∨ deep > 20 ∨ (ask && !b) = true then none else some (n + 1)
theorem wk_put {w : World} {g : Nat} {a b c : Value} {t : TypeId} (h : w.heap[g]? = some (.cells #[a, b, c] t (0, 0))) (x : Value) : (w.setCell ⟨g, 0, none⟩ x).heap[g]? = some (.cells #[x, b, c] t (0, 0)) ∧ (w.setCell ⟨g, 2, none⟩ x).heap[g]? = some (.cells #[a, b, x] t (0, 0)) := by
  refine ⟨?_, ?_⟩
  · have := heap_put (i := 0) h x
    simpa using this
  · have := heap_put (i := 2) h x
    simpa using this
theorem one_ok {w : World} {g : Nat} {ask : Bool} {o : Option Nat} {deep : Nat} (h : WkS w g ask o) {c : Nat} {p : Value} {b : Bool}
    (hc : ask = true → ∀ W, Only (fun k => k = g) w W → Calls Tryz.prog c #[p] W fun z w' => z = .returned (.bool b) ∧ Nw W w')
    (hin : ∀ args W, (callFunc c args).run Tryz.prog W = .ok (.enter c args) W) :
    Calls Tryz.prog 110 #[.pointer (some ⟨g, 0, none⟩), .int .i64 (deep : Int), .func (.func c) #[] #[p]] w fun z w' => z = .returned (.bool (oneR deep ask b o).isSome) ∧ WkS w' g ask (oneR deep ask b o) ∧ Only (fun k => k = g) w w' := by
  obtain ⟨m, h1, h2⟩ := h
  obtain ⟨x, hx⟩ : ∃ x, IntKind.i64.wrap (m + 1) = x := ⟨_, rfl⟩
  have B0 := Lib.hid h1
  obtain ⟨w1, hw1⟩ : ∃ w1, w.setCell ⟨g, 0, none⟩ (.int .i64 x) = w1 := ⟨_, rfl⟩
  have B1 : Hid (w1.heap[g]? = some (.cells #[.int .i64 x, .bool ask, .bool o.isNone] 98 (0, 0))) := Lib.hid (by rw [← hw1]; exact (wk_put h1 _).1)
  have O1 : Hid (Only (fun k => k = g) w w1) := Lib.hid (by rw [← hw1]; exact Only.put (S := fun k => k = g) (Only.refl _) rfl _ _)
  have HW1 := Lib.hid hw1
  have HX := Lib.hid hx
  have HC := Lib.hid hc
  have H2 := Lib.hid h2
  clear h1 hw1 hx hc h2
  obtain ⟨b0, b1, b2, bf⟩ := box3 B0.out
  have hxx := HX.out
  go_enter Tryz.func110, Tryz.ntmps110
  go_upto_region 2 with fail
  rw [HW1.out]
  clear b0 b1 b2 bf hxx
  obtain ⟨b0, b1, b2, bf⟩ := box3 B1.out
  cases o with
  | none =>
    go_wp2_with fail
    go_ret
    refine ⟨rfl, ⟨x, (wk_put B1.out _).2, fun n h => by cases h⟩, O1.out.put rfl _ _⟩
  | some n =>
    obtain ⟨hm, hn⟩ := H2.out n rfl
    have hxn : x = (n : Int) + 1 := by rw [← HX.out, hm]; exact IntWalk.i64_in _ (by omega)
    subst hxn
    have fin : ∀ (W : World) (hB : W.heap[g]? = some (.cells #[.int .i64 ((n : Int) + 1), .bool ask, .bool false] 98 (0, 0))) (y : Bool), (y = false → oneR deep ask b (some n) = some (n + 1) ∧ n + 1 ≤ 1000) → (y = true → oneR deep ask b (some n) = none) → WkS (W.setCell ⟨g, 2, none⟩ (.bool y)) g ask (oneR deep ask b (some n)) ∧ (oneR deep ask b (some n)).isSome = !y := fun W hB y h1 h2 => by
      cases y with
      | false =>
        obtain ⟨e, hl⟩ := h1 rfl
        rw [e]
        exact ⟨⟨_, (wk_put hB _).2, fun k hk => by cases hk; exact ⟨by simp, hl⟩⟩, rfl⟩
      | true =>
        rw [h2 rfl]
        exact ⟨⟨_, (wk_put hB _).2, fun k hk => by cases hk⟩, rfl⟩
    have FIN := Lib.hid fin
    clear fin
    by_cases q1 : 1000 < n + 1
    · have q1' : decide ((1000 : Int) < (n : Int) + 1) = true := by simp; omega
      obtain ⟨f1, f2⟩ := FIN.out w1 B1.out true (fun h => by cases h) (fun _ => by unfold oneR; simp [q1])
      go_wp2_with fail
      go_ret
      exact ⟨by rw [f2]; rfl, f1, O1.out.put rfl _ _⟩
    · have q1' : decide ((1000 : Int) < (n : Int) + 1) = false := by simp; omega
      by_cases q2 : 20 < deep
      · have q2' : decide ((20 : Int) < (deep : Int)) = true := by simp; omega
        obtain ⟨f1, f2⟩ := FIN.out w1 B1.out true (fun h => by cases h) (fun _ => by unfold oneR; simp [q2])
        go_wp2_with fail
        go_ret
        exact ⟨by rw [f2]; rfl, f1, O1.out.put rfl _ _⟩
      · have q2' : decide ((20 : Int) < (deep : Int)) = false := by simp; omega
        have q2n : ¬ 20 < deep := q2
        cases ask with
        | false =>
          obtain ⟨f1, f2⟩ := FIN.out w1 B1.out false (fun _ => ⟨by unfold oneR; simp; omega, by omega⟩) (fun h => by cases h)
          go_wp2_with fail
          go_ret
          exact ⟨by rw [f2]; rfl, f1, O1.out.put rfl _ _⟩
        | true =>
          have CC := Lib.hid (HC.out rfl w1 O1.out)
          go_wp2_with fail
          refine CC.out.mono ?_
          rintro z w2 ⟨rfl, n2⟩
          have B2 := Lib.hid (n2.at_ B1.out)
          have O2 : Hid (Only (fun k => k = g) w w2) := Lib.hid (O1.out.trans n2.only)
          clear n2 b0 b1 b2 bf CC
          obtain ⟨b0, b1, b2, bf⟩ := box3 B2.out
          cases b with
          | true =>
            obtain ⟨f1, f2⟩ := FIN.out w2 B2.out false (fun _ => ⟨by unfold oneR; simp; omega, by omega⟩) (fun h => by cases h)
            go_wp2_with fail
            go_ret
            exact ⟨by rw [f2]; rfl, f1, O2.out.put rfl _ _⟩
          | false =>
            obtain ⟨f1, f2⟩ := FIN.out w2 B2.out true (fun h => by cases h) (fun _ => by unfold oneR; simp)
            go_wp2_with fail
            go_ret
            exact ⟨by rw [f2]; rfl, f1, O2.out.put rfl _ _⟩
end Go.Proofs.YtcmaedoolinijaaGreatDoor

namespace Go.Proofs.YtcmaedoolinijaaGreatDoor
open Go Go.RowKit Go.Sort
set_option maxRecDepth 100000
set_option maxHeartbeats 3200000
def exA (k : Nat) (s : List UInt8) (n : Int) (a : Option Addr) (m c : Nat) : Array Value := #[.int .u8 (k : Int), .string ⟨s.toArray⟩, .int .i64 n, .slice a m c]
theorem box4 {w : World} {p : Nat} {a b c d : Value} {t : TypeId} (h : w.heap[p]? = some (.cells #[a, b, c, d] t (0, 0))) :
    w.cell? ⟨p, 0, none⟩ = some a ∧ w.cell? ⟨p, 1, none⟩ = some b ∧ w.cell? ⟨p, 2, none⟩ = some c ∧ w.cell? ⟨p, 3, none⟩ = some d ∧ ∀ i, w.frozen? ⟨p, i, none⟩ = false := by
  simp [World.cell?, World.frozen?, h]
theorem alone1_ok {w : World} {s : List UInt8} {n : Int} {a : Option Addr} {m c : Nat} (hm : m ≤ 9223372036854775807) :
    Calls Tryz.prog 142 #[.agg (exA 1 s n a m c)] w fun z w' => z = .returned (.bool (aloneB 1 s n m)) ∧ Nw w w' := by
  have N := Lib.hid ((Nw.refl w).alloc (.cells (exA 1 s n a m c) 132))
  have B := heap_alloc_new w (.cells (exA 1 s n a m c) 132)
  unfold exA at N B ⊢
  obtain ⟨b0, b1, b2, b3, bf⟩ := box4 B
  have hr : aloneB 1 s n m = (decide (0 ≤ n) && (s == []) && decide (m = 0)) := by
    unfold aloneB; simp only [if_true]; cases s <;> simp
  rw [hr]
  clear B hr
  by_cases q1 : 0 ≤ n
  · have q1' : decide (0 ≤ n) = true := decide_eq_true q1
    by_cases q2 : s = []
    · subst q2
      by_cases q3 : m = 0
      · subst q3
        go_enter Tryz.func142, Tryz.ntmps142
        go_wp2_with fail
        go_ret
        exact ⟨by simp [q1], N.out⟩
      · have q3' : ((m : Int) == 0) = false := by simp; omega
        go_enter Tryz.func142, Tryz.ntmps142
        go_wp2_with fail
        go_ret
        exact ⟨by simp [q3], N.out⟩
    · have q2' : (s == []) = false := by cases s <;> simp_all
      go_enter Tryz.func142, Tryz.ntmps142
      go_wp2_with fail
      go_ret
      exact ⟨by rw [q2']; simp, N.out⟩
  · have q1' : decide (0 ≤ n) = false := decide_eq_false q1
    go_enter Tryz.func142, Tryz.ntmps142
    go_wp2_with fail
    go_ret
    exact ⟨by simp [q1], N.out⟩
theorem alone2_ok {w : World} (hM : Mx w) {s : List UInt8} (hl : s.length ≤ 9223372036854775807) {n : Int} {a : Option Addr} {m c : Nat} (hm : m ≤ 9223372036854775807) :
    Calls Tryz.prog 142 #[.agg (exA 2 s n a m c)] w fun z w' => z = .returned (.bool (aloneB 2 s n m)) ∧ Nw w w' := by
  have N := Lib.hid ((Nw.refl w).alloc (.cells (exA 2 s n a m c) 132))
  have B := heap_alloc_new w (.cells (exA 2 s n a m c) 132)
  have NM := Lib.hid (isName_ok (hM.nw N.out) hl)
  unfold exA at N B NM ⊢
  obtain ⟨b0, b1, b2, b3, bf⟩ := box4 B
  have hr : aloneB 2 s n m = (decide (n = 0) && decide (m = 0) && nameB s) := by unfold aloneB; simp
  rw [hr]
  clear B hr hM
  obtain ⟨y, hy⟩ : ∃ y, nameB s = y := ⟨_, rfl⟩
  rw [hy] at NM ⊢
  clear hy
  by_cases q1 : n = 0
  · subst q1
    by_cases q3 : m = 0
    · subst q3
      go_enter Tryz.func142, Tryz.ntmps142
      go_wp2_with fail
      refine NM.out.mono ?_
      rintro z w1 ⟨rfl, n1⟩
      have N1 := Lib.hid (N.out.trans n1)
      clear n1
      go_wp2_with fail
      go_ret
      exact ⟨by simp, N1.out⟩
    · have q3' : ((m : Int) == 0) = false := by simp; omega
      go_enter Tryz.func142, Tryz.ntmps142
      go_wp2_with fail
      go_ret
      exact ⟨by simp [q3], N.out⟩
  · have q1' : (n == 0) = false := by simp [q1]
    go_enter Tryz.func142, Tryz.ntmps142
    go_wp2_with fail
    go_ret
    exact ⟨by simp [q1], N.out⟩
theorem alone0_ok {w : World} {k : Nat} (h1 : k ≠ 1) (h2 : k ≠ 2) (h3 : k ≠ 3) {s : List UInt8} {n : Int} {a : Option Addr} {m c : Nat} (hm : m ≤ 9223372036854775807) :
    Calls Tryz.prog 142 #[.agg (exA k s n a m c)] w fun z w' => z = .returned (.bool (aloneB k s n m)) ∧ Nw w w' := by
  have N := Lib.hid ((Nw.refl w).alloc (.cells (exA k s n a m c) 132))
  have B := heap_alloc_new w (.cells (exA k s n a m c) 132)
  unfold exA at N B ⊢
  obtain ⟨b0, b1, b2, b3, bf⟩ := box4 B
  have hr : aloneB k s n m = false := by unfold aloneB; simp [h1, h2, h3]
  rw [hr]
  have q1 : ((k : Int) == 1) = false := by simp; omega
  have q2 : ((k : Int) == 2) = false := by simp; omega
  have q3 : ((k : Int) == 3) = false := by simp; omega
  clear B hr h1 h2 h3
  go_enter Tryz.func142, Tryz.ntmps142
  go_wp2_with fail
  go_ret
  exact ⟨rfl, N.out⟩
theorem alone3_ok {w : World} {s : List UInt8} {n : Int} {a : Option Addr} {m c : Nat} (hm : m ≤ 9223372036854775807) :
    Calls Tryz.prog 142 #[.agg (exA 3 s n a m c)] w fun z w' => z = .returned (.bool (aloneB 3 s n m)) ∧ Nw w w' := by
  have N := Lib.hid ((Nw.refl w).alloc (.cells (exA 3 s n a m c) 132))
  have B := heap_alloc_new w (.cells (exA 3 s n a m c) 132)
  unfold exA at N B ⊢
  obtain ⟨b0, b1, b2, b3, bf⟩ := box4 B
  go_enter Tryz.func142, Tryz.ntmps142
  go_upto_region 9 with fail
  clear b0 b1 b2 b3 bf B
  obtain ⟨w4, hw4⟩ : ∃ w4, ((((w.alloc (.cells #[.int .u8 3, .string ⟨s.toArray⟩, .int .i64 n, .slice a m c] 132)).alloc (.cells #[.string ⟨#[45]⟩] 9)).alloc (.cells #[.string ⟨#[43]⟩, .string ⟨#[45]⟩, .string ⟨#[42]⟩, .string ⟨#[61, 61]⟩, .string ⟨#[60]⟩] 9)).alloc (.cells #[.slice (some ⟨w.heap.size + 1, 0, none⟩) 1 1, .slice (some ⟨w.heap.size + 1 + 1, 0, none⟩) 5 5] 241)) = w4 := ⟨_, rfl⟩
  have hA := two_blk w #[.int .u8 3, .string ⟨s.toArray⟩, .int .i64 n, .slice a m c] #[.string ⟨#[45]⟩] 132 9
  obtain ⟨hN, hE, hR1⟩ := hA
  have hB := two_blk ((w.alloc (.cells #[.int .u8 3, .string ⟨s.toArray⟩, .int .i64 n, .slice a m c] 132)).alloc (.cells #[.string ⟨#[45]⟩] 9)) #[.string ⟨#[43]⟩, .string ⟨#[45]⟩, .string ⟨#[42]⟩, .string ⟨#[61, 61]⟩, .string ⟨#[60]⟩] #[.slice (some ⟨w.heap.size + 1, 0, none⟩) 1 1, .slice (some ⟨w.heap.size + 1 + 1, 0, none⟩) 5 5] 9 241
  obtain ⟨hN2, hR2, hAB⟩ := hB
  have hsz : ((w.alloc (.cells #[.int .u8 3, .string ⟨s.toArray⟩, .int .i64 n, .slice a m c] 132)).alloc (.cells #[.string ⟨#[45]⟩] 9)).heap.size = w.heap.size + 1 + 1 := by simp
  rw [hsz] at hR2 hAB
  rw [hw4] at hN2 hR2 hAB
  have N4 := Lib.hid (hN.trans hN2)
  have E4 := Lib.hid (hN2.at_ hE)
  have R1 := Lib.hid (hN2.at_ hR1)
  have R2 := Lib.hid hR2
  have AB := Lib.hid hAB
  rw [hw4]
  obtain ⟨eb, heb⟩ : ∃ eb, w.heap.size = eb := ⟨_, rfl⟩
  rw [heb] at E4 R1 R2 AB ⊢
  clear hw4 hN hE hR1 hN2 hR2 hAB hsz heb N
  have S1 : Hid (∀ W, Nw w4 W → Strs W (.slice (some ⟨eb + 1, 0, none⟩) 1 1) [[45]]) := Lib.hid fun W hW => .inr ⟨eb + 1, 0, 1, rfl, Nat.le_refl _, by decide, lt_of_block (hW.at_ R1.out), fun i hi => by
    obtain rfl : i = 0 := by simpa using hi
    simp [World.cell?, hW.at_ R1.out]⟩
  have S2 : Hid (∀ W, Nw w4 W → Strs W (.slice (some ⟨eb + 1 + 1, 0, none⟩) 5 5) [[43], [45], [42], [61, 61], [60]]) := Lib.hid fun W hW => .inr ⟨eb + 1 + 1, 0, 5, rfl, Nat.le_refl _, by decide, lt_of_block (hW.at_ R2.out), fun i hi => by
    have hi' : i < 5 := hi
    match i, hi' with
    | 0, _ => simp [World.cell?, hW.at_ R2.out]
    | 1, _ => simp [World.cell?, hW.at_ R2.out]
    | 2, _ => simp [World.cell?, hW.at_ R2.out]
    | 3, _ => simp [World.cell?, hW.at_ R2.out]
    | 4, _ => simp [World.cell?, hW.at_ R2.out]⟩
  obtain ⟨b0, b1, b2, b3, bf⟩ := box4 E4.out
  obtain ⟨a0, a1, af⟩ := box2 AB.out
  by_cases q1 : n = 0
  · subst q1
    by_cases q2 : m < 1
    · have q2' : decide ((1 : Int) ≤ (m : Int)) = false := by simp; omega
      have q2n : ¬ 1 ≤ m := by omega
      have hr : aloneB 3 s 0 m = false := by unfold aloneB; simp; omega
      have HR := Lib.hid hr
      clear hr q2
      go_quiet (fail)
      go_wp2_with fail
      go_ret
      exact ⟨by rw [HR.out]; rfl, Nw.drewN N4.out _⟩
    · by_cases q3 : 2 < m
      · have q2' : decide ((1 : Int) ≤ (m : Int)) = true := by simp; omega
        have q2n : 1 ≤ m := by omega
        have q3' : decide ((m : Int) ≤ 2) = false := by simp; omega
        have q3n : ¬ m ≤ 2 := by omega
        have hr : aloneB 3 s 0 m = false := by unfold aloneB; simp; omega
        have HR := Lib.hid hr
        clear hr q2 q3
        go_quiet (fail)
        go_wp2_with fail
        go_ret
        exact ⟨by rw [HR.out]; rfl, Nw.drewN N4.out _⟩
      · obtain rfl | rfl : m = 1 ∨ m = 2 := by omega
        · have hr : aloneB 3 s 0 1 = [[45]].contains s := by unfold aloneB; simp
          have HR := Lib.hid hr
          obtain ⟨y, hy⟩ : ∃ y, [[45]].contains s = y := ⟨_, rfl⟩
          have CT : Hid (∀ k, Calls Tryz.prog 63 #[.slice (some ⟨eb + 1, 0, none⟩) 1 1, .string ⟨s.toArray⟩] (w4.drewN k) fun z w' => z = .returned (.bool y) ∧ w' = w4.drewN k) := Lib.hid fun k => by have := Contains_ok (S1.out (w4.drewN k) (Nw.drewN (Nw.refl _) k)) (by decide) s; rw [hy] at this; exact this
          rw [hy] at HR
          clear hr q2 q3 hy
          go_quiet ((go_at_call 63; exact Calls.quiet_of_same (CT.out _)))
          go_wp2_with fail
          go_ret
          exact ⟨by rw [HR.out]; rfl, Nw.drewN N4.out _⟩
        · have hr : aloneB 3 s 0 2 = [[43], [45], [42], [61, 61], [60]].contains s := by unfold aloneB; simp
          have HR := Lib.hid hr
          obtain ⟨y, hy⟩ : ∃ y, [[43], [45], [42], [61, 61], [60]].contains s = y := ⟨_, rfl⟩
          have CT : Hid (∀ k, Calls Tryz.prog 63 #[.slice (some ⟨eb + 1 + 1, 0, none⟩) 5 5, .string ⟨s.toArray⟩] (w4.drewN k) fun z w' => z = .returned (.bool y) ∧ w' = w4.drewN k) := Lib.hid fun k => by have := Contains_ok (S2.out (w4.drewN k) (Nw.drewN (Nw.refl _) k)) (by decide) s; rw [hy] at this; exact this
          rw [hy] at HR
          clear hr q2 q3 hy
          go_quiet ((go_at_call 63; exact Calls.quiet_of_same (CT.out _)))
          go_wp2_with fail
          go_ret
          exact ⟨by rw [HR.out]; rfl, Nw.drewN N4.out _⟩
  · have q1' : (n == 0) = false := by simp [q1]
    have hr : aloneB 3 s n m = false := by unfold aloneB; simp [q1]
    have HR := Lib.hid hr
    clear hr
    go_quiet (fail)
    go_wp2_with fail
    go_ret
    exact ⟨by rw [HR.out]; rfl, Nw.drewN N4.out _⟩
theorem alone_ok {w : World} (hM : Mx w) {k : Nat} {s : List UInt8} (hl : s.length ≤ 9223372036854775807) {n : Int} {a : Option Addr} {m c : Nat} (hm : m ≤ 9223372036854775807) :
    Calls Tryz.prog 142 #[.agg (exA k s n a m c)] w fun z w' => z = .returned (.bool (aloneB k s n m)) ∧ Nw w w' := by
  by_cases h1 : k = 1
  · subst h1; exact alone1_ok hm
  by_cases h2 : k = 2
  · subst h2; exact alone2_ok hM hl hm
  by_cases h3 : k = 3
  · subst h3; exact alone3_ok hm
  exact alone0_ok h1 h2 h3 hm
end Go.Proofs.YtcmaedoolinijaaGreatDoor
