/-
  Texts merged by a program of this claim's: Firsts, Close, Open, Opens, WorldN.
-/
import Derived.Test.YtjapijndljknnaaGreatDoorM14
import Derived.Test.YtjapijndljknnaaGreatDoorM1
import Derived.Carry
import Derived.ChangeCalls
import Derived.Deep.DeepHandedRow
import Derived.Lib.LaidTab
import Derived.Deep.Slices
import Derived.Test.YtjapijndljknnaaGreatDoorM3
import Derived.ChangeSlices
import Derived.ChangeShapes
import Derived.Deep.Fields
import Derived.ChangeSame
import Derived.Test.YtjapijndljknnaaGreatDoorM16
import Derived.Test.YtjapijndljknnaaGreatDoorCards
import Derived.Test.YtjapijndljknnaaGreatDoorTie
import Derived.WalkKit
import Derived.ProofKit
import Derived.OpenShut
import Derived.Deep.DeepWitnessRowRef
import Derived.LaidSub
/-
  The law's map 'first': of a segment's name, where its piece begins: a name tells its number, so no other one is ever there.
-/
namespace Go.Proofs.YtjapijndljknnaaGreatDoor
open Go Go.RowKit Go.Sort
set_option maxRecDepth 100000
set_option maxHeartbeats 800000
section
variable {P : Program} {w : World} {t kt et : TypeId} {m clock : Nat} {L : List En} {k : Str}
end
/-- Each name in the map is the name of the number that lies at it. -/
def Firsts (w : World) (m : Nat) : Prop := ∃ L clock, w.heap[m]? = some (.map (ents L) clock) ∧ ∀ e ∈ L, ∃ n : Nat, e.key = segName n ∧ e.val = .int .i64 n
theorem Firsts.nw {w w' : World} {m : Nat} (h : Firsts w m) (hw : Nw w w') : Firsts w' m := by
  obtain ⟨L, c, h1, h2⟩ := h
  exact ⟨L, c, hw.at_ h1, h2⟩
end Go.Proofs.YtjapijndljknnaaGreatDoor

/-
  What every law of this seat asks behind its walk: the law returned true, and nothing that was there has turned: so each argument reads as it did.
-/
namespace Go.Proofs.YtjapijndljknnaaGreatDoor
open Go Go.ChangeShapes Go.WideShapes Go.RowKit

section
variable {H : Type} {enc : TypeId × Value → H} {P : Program} {W W' : World}
theorem trodAll_nw (hl : laidOutB P = true) (hb : Nw W W') {sp : Nat → Bool} : ∀ {ts : List TypeId} {vs : List Value} {ds : List (DataW H)} {ps : List MemPlace}, (∀ t ∈ ts, P.readableRec t = true ∧ t < P.types.size) →
    DataW.TrodAll enc P W 0 (fun _ => true) true ts vs ds ps → (∀ p ∈ ps, p.block < W.heap.size) → (∀ p ∈ ps, sp p.block = true) → DataW.TrodAll enc P W' 0 sp true ts vs ds ps
  | [], [], [], _, _, h, _, _ => h
  | _ :: _, _ :: _, _ :: _, _, ht, ⟨p, q, h1, h2, e⟩, hlt, hs =>
    ⟨p, q, WideElems.Trod_stays hl (ht _ (List.mem_cons.2 (Or.inl rfl))).1 (ht _ (List.mem_cons.2 (Or.inl rfl))).2 h1
      (fun x hx => hb.below.same (hlt x (by rw [e]; exact List.mem_append_left _ hx))) (fun x hx => hs x (by rw [e]; exact List.mem_append_left _ hx)),
      trodAll_nw hl hb (fun t h => ht t (List.mem_cons.2 (Or.inr h))) h2 (fun x hx => hlt x (by rw [e]; exact List.mem_append_right _ hx)) (fun x hx => hs x (by rw [e]; exact List.mem_append_right _ hx)), e⟩

theorem post_true {f : Func} {s : ChangeSpec} {apart fresh handsOn again : Bool} {args : Array Value} {ds gs : List (DataW H)} {before : List MemPlace} {tb : TypeId}
    (hl : laidOutB P = true) (hts : (f.params.toList.all fun t => P.readableRec t && decide (t < P.types.size)) = true) (hr : f.resultTypes = #[tb]) (htb : P.underlying tb = some .bool) (hv : s.vars = [])
    (hs : ∀ ds : List (DataW H), ds.length = f.params.size → s.fn H (ds ++ []) = { results := [.lit (.bool true)], args := ds })
    (hW : DataW.Whole enc P f.params.toList s.vars apart W args.toList ds gs before) (hb : Nw W W') : s.post enc P f apart fresh handsOn again W args (.bool true) W' := by
  have hlt := hW.lt
  have hW' := hW
  obtain ⟨p, q, hA, hV, rfl, hz, hn⟩ := hW
  rw [hv] at hV
  obtain ⟨rfl, rfl⟩ := trodVars_none hV
  have hlen : ds.length = f.params.size := by rw [(trodAll_length hA).2]; simp
  have he := hs ds hlen
  have ht : ∀ t ∈ f.params.toList, P.readableRec t = true ∧ t < P.types.size := fun t ht => by
    have := List.all_eq_true.1 hts t ht
    simpa using this
  have hargs : ∀ sp : Nat → Bool, (∀ x ∈ p ++ [], sp x.block = true) → DataW.TrodAll enc P W' 0 sp true f.params.toList args.toList (s.fn H (ds ++ [])).args (p ++ []) := fun sp hsp => by
    rw [he]
    simp only [List.append_nil] at hsp hlt ⊢
    exact trodAll_nw hl hb ht hA hlt hsp
  have hres : ∀ (b : Nat) (sp : Nat → Bool) (hd : Bool), DataW.TrodAll enc P W' b sp hd f.resultTypes.toList ((Value.bool true).resultList f.resultTypes.size) (s.fn H (ds ++ [])).results [] := fun b sp hd => by
    rw [he, hr]
    exact trodAll_mk1 (shut_bool htb true)
  have hvars : ∀ sp : Nat → Bool, DataW.TrodVars enc P W' sp s.vars (s.fn H (ds ++ [])).vars [] := fun sp => by
    rw [he, hv]; rfl
  refine ⟨ds, [], p ++ [], [], p ++ [], [], hW', hres _ _ _, hargs _ (fun x hx => by simpa using hlt x hx), hvars _, hb.below.frame _, fun _ => ⟨ok_one hr rfl (okWide_bool_mk htb true), _, _, ([] ++ (p ++ [])) ++ [], ⟨[] ++ (p ++ []), [], trodAll_append (hargs _ (fun _ _ => rfl)) (hres _ _ _), hvars _, rfl, ?_, ?_⟩, ?_⟩⟩
  · intro b off hp
    simp only [List.append_nil, List.nil_append] at hp hz hlt
    have hbk : b < W.heap.size := hlt _ hp
    rw [hb.below.frozen (p := ⟨b, off, _⟩) hbk]
    exact hz b off hp
  · intro ha
    simpa using hn ha
  · intro x hx _
    simpa using hx
end
end Go.Proofs.YtjapijndljknnaaGreatDoor

/-
  What a given argument is: bytes, a small number.
-/
namespace Go.Proofs.YtjapijndljknnaaGreatDoor
open Go Go.ChangeShapes Go.WideShapes Go.RowKit
section
variable {H : Type} {enc : TypeId × Value → H} {P : Program} {W : World}
theorem u8_of_int {z : Int} (h : (Lit.int .u8 z).wf = true) : z = ((UInt8.ofNat z.toNat).toNat : Int) := by
  simp only [Lit.wf, Bool.and_eq_true, decide_eq_true_eq] at h
  have h1 : 0 ≤ z := by have := h.1; rwa [show IntKind.u8.min = 0 from rfl] at this
  have h2 : z ≤ 255 := by have := h.2; rwa [show IntKind.u8.max = 255 from rfl] at this
  rw [UInt8.toNat_ofNat']
  omega
end
end Go.Proofs.YtjapijndljknnaaGreatDoor

/-
  What given arguments are, whatever their types: slices of elements of any number of cells, structs, strings, numbers: each type's reading told once ('Opener'), put together as the type is.
-/
namespace Go.Proofs.YtjapijndljknnaaGreatDoor
open Go Go.ChangeShapes Go.WideShapes Go.RowKit Go.Deep

/-- A slice whose elements take k cells each; R tells what an element's cells say. -/
def RdK {α : Type} (k : Nat) (R : List Value → α → Prop) (w : World) (v : Value) (l : List α) : Prop :=
  (∃ a, v = .slice a 0 0 ∧ l = []) ∨ ∃ g o cap, v = .slice (some ⟨g, o, none⟩) l.length cap ∧ l.length ≤ cap ∧ cap ≤ maxLen ∧ g < w.heap.size ∧
    ∀ i (h : i < l.length), ∃ cs : List Value, cs.length = k ∧ (∀ j (hj : j < cs.length), w.cell? ⟨g, o + i * k + j, none⟩ = some cs[j]) ∧ R cs l[i]

theorem RdK.nw {α : Type} {k : Nat} {R : List Value → α → Prop} {w w' : World} {v : Value} {l : List α} (h : RdK k R w v l) (ho : Nw w w') : RdK k R w' v l := by
  rcases h with h | ⟨g, o, cap, rfl, h1, h2, hg, h3⟩
  · exact .inl h
  · refine .inr ⟨g, o, cap, rfl, h1, h2, Nat.lt_of_lt_of_le hg ho.size, fun i hi => ?_⟩
    obtain ⟨cs, hk, hc, hr⟩ := h3 i hi
    exact ⟨cs, hk, fun j hj => ho.cell (hc j hj), hr⟩
theorem RdK.len {α : Type} {k : Nat} {R : List Value → α → Prop} {w : World} {v : Value} {l : List α} (h : RdK k R w v l) : ∃ a cap, v = .slice a l.length cap ∧ l.length ≤ cap ∧ cap ≤ maxLen ∧
    ∀ i (h : i < l.length), ∃ g o, a = some ⟨g, o, none⟩ ∧ g < w.heap.size ∧ ∃ cs : List Value, cs.length = k ∧ (∀ j (hj : j < cs.length), w.cell? ⟨g, o + i * k + j, none⟩ = some cs[j]) ∧ R cs l[i] := by
  rcases h with ⟨a, rfl, rfl⟩ | ⟨g, o, cap, rfl, h1, h2, hg, h3⟩
  · exact ⟨_, _, rfl, by simp, by simp, fun i hi => absurd hi (by simp)⟩
  · exact ⟨_, _, rfl, h1, h2, fun i hi => ⟨g, o, rfl, hg, h3 i hi⟩⟩
theorem RdK.rd {α : Type} {f : α → Value} {R : List Value → α → Prop} {w : World} {v : Value} {l : List α} (h : RdK 1 R w v l) (hR : ∀ cs x, R cs x → cs = [f x]) : Rd f w v l := by
  rcases h with h | ⟨g, o, cap, rfl, h1, h2, hg, h3⟩
  · exact .inl h
  · refine .inr ⟨g, o, cap, rfl, h1, h2, hg, fun i hi => ?_⟩
    obtain ⟨cs, hk, hc, hr⟩ := h3 i hi
    obtain rfl := hR _ _ hr
    simpa using hc 0 (by simp)

theorem list_of {α : Type} {p : Nat → α → Prop} : ∀ n : Nat, (∀ i, i < n → ∃ x, p i x) → ∃ l : List α, l.length = n ∧ ∀ i (h : i < l.length), p i l[i]
  | 0, _ => ⟨[], rfl, fun i h => absurd h (by simp)⟩
  | n + 1, h => by
    obtain ⟨l, hl, hp⟩ := list_of n (fun i hi => h i (Nat.lt_succ_of_lt hi))
    obtain ⟨x, hx⟩ := h n (Nat.lt_succ_self n)
    refine ⟨l ++ [x], by simp [hl], fun i hi => ?_⟩
    by_cases hlt : i < l.length
    · rw [List.getElem_append_left hlt]; exact hp i hlt
    · have : i = n := by simp [hl] at hi hlt; omega
      subst this
      rw [List.getElem_append_right (by omega)]
      simpa using hx

theorem spot_of_cell {w : World} {a : Addr} {v : Value} (h : w.cell? a = some v) : a.spot = none := by
  unfold World.cell? at h
  split at h
  · split at h
    · cases h
    · rename_i hs; simpa using hs
  · cases h
theorem addp (g o n : Nat) : (⟨g, o, none⟩ : Addr).add n = ⟨g, o + n, none⟩ := by
  unfold Addr.add
  split
  · rename_i h; subst h; rfl
  · rfl

section
variable {H : Type} {enc : TypeId × Value → H} {P : Program} {W : World}
def Opener {α : Type} (enc : TypeId × Value → H) (P : Program) (W : World) (t : TypeId) (R : List Value → α → Prop) : Prop :=
  ∀ (fuel : Nat) (cs : List Value) (x : DataW H × List MemPlace), DataW.trod enc P W 0 (fun _ => true) true fuel t cs = some x → ∃ y, R cs y

theorem Opener.slice {α : Type} {R : List Value → α → Prop} {t e : TypeId} {k : Nat} (ht : P.underlying t = some (.slice e)) (hc : P.cellsOf e = k) (hk : 0 < k) (h : Opener enc P W e R) :
    Opener enc P W t (fun cs (l : List α) => ∃ v, cs = [v] ∧ RdK k R W v l) := by
  intro fuel cs x hx
  subst hc
  rcases open_slice ht hx with ⟨rfl, rfl⟩ | ⟨a, len, cap, m, n, D, Pl, rfl, hb, hl, hm, hmm, rfl, hel⟩
  · exact ⟨[], _, rfl, .inl ⟨none, rfl, rfl⟩⟩
  · simp only [if_true] at hmm
    subst hmm
    by_cases h0 : m = 0
    · subst h0
      obtain rfl : len = 0 := by omega
      exact ⟨[], _, rfl, .inl ⟨some a, rfl, rfl⟩⟩
    · obtain ⟨g, o, sp⟩ := a
      obtain ⟨c0, hc0, -⟩ := hel 0 (by omega)
      obtain ⟨-, hl0, hat0⟩ := World.cells?_some hc0
      have h00 := hat0 0 hk
      rw [List.getElem?_eq_getElem (by omega)] at h00
      rw [Nat.zero_mul] at h00
      have hsp : sp = none := spot_of_cell h00
      subst hsp
      have hg : g < W.heap.size := World.block_lt_of_cell? _ _ h00
      obtain ⟨l, hll, hp⟩ := list_of (p := fun i (y : α) => ∃ cs : List Value, cs.length = P.cellsOf e ∧ (∀ j (hj : j < cs.length), W.cell? ⟨g, o + i * P.cellsOf e + j, none⟩ = some cs[j]) ∧ R cs y) len (fun i hi => by
        obtain ⟨cs', hcs, htr⟩ := hel i (by omega)
        obtain ⟨y, hy⟩ := h _ _ _ htr
        obtain ⟨-, hl', hat⟩ := World.cells?_some hcs
        refine ⟨y, cs', hl', fun j hj => ?_, hy⟩
        have := hat j (by omega)
        rw [List.getElem?_eq_getElem hj, addp, addp] at this
        exact this)
      subst hll
      exact ⟨l, _, rfl, .inr ⟨g, o, m, rfl, hl, hm, hg, hp⟩⟩

theorem Opener.imp {α β : Type} {R : List Value → α → Prop} {R' : List Value → β → Prop} {t : TypeId} (h : Opener enc P W t R) (hi : ∀ cs x, R cs x → ∃ y, R' cs y) : Opener enc P W t R' := by
  intro fuel cs x hx
  obtain ⟨y, hy⟩ := h _ _ _ hx
  exact hi _ _ hy
theorem Opener.int {t : TypeId} {k : IntKind} (ht : P.underlying t = some (.int k)) : Opener enc P W t (fun cs (z : Int) => cs = [.int k z] ∧ (Lit.int k z).wf = true) := by
  intro fuel cs x hx
  obtain ⟨z, rfl, -, hw⟩ := DataW.trod_int ht hx
  exact ⟨z, rfl, hw⟩
def isU8 (cs : List Value) (c : UInt8) : Prop := cs = [u8 c]
def isI64 (cs : List Value) (z : Int) : Prop := cs = [.int .i64 z] ∧ -9223372036854775808 ≤ z ∧ z ≤ 9223372036854775807
def isStr (cs : List Value) (s : Str) : Prop := cs = [.string ⟨s.toArray⟩] ∧ s.length ≤ 9223372036854775807
def isBool (cs : List Value) (b : Bool) : Prop := cs = [.bool b]
def isBs (W : World) (cs : List Value) (l : List UInt8) : Prop := ∃ v, cs = [v] ∧ Bs W v l
theorem Opener.u8 {t : TypeId} (ht : P.underlying t = some (.int .u8)) : Opener enc P W t isU8 :=
  (Opener.int ht).imp fun cs z ⟨h, hw⟩ => ⟨UInt8.ofNat z.toNat, by rw [isU8, h, Go.Proofs.YtjapijndljknnaaGreatDoor.u8, ← u8_of_int hw]⟩
theorem Opener.i64 {t : TypeId} (ht : P.underlying t = some (.int .i64)) : Opener enc P W t isI64 :=
  (Opener.int ht).imp fun cs z ⟨h, hw⟩ => ⟨z, h, by
    simp only [Lit.wf, Bool.and_eq_true, decide_eq_true_eq] at hw
    have h1 := hw.1
    have h2 := hw.2
    rw [show IntKind.i64.min = -9223372036854775808 from rfl] at h1
    rw [show IntKind.i64.max = 9223372036854775807 from rfl] at h2
    exact ⟨h1, h2⟩⟩
theorem Opener.str {t : TypeId} (ht : P.underlying t = some .string) : Opener enc P W t isStr := by
  intro fuel cs x hx
  obtain ⟨s, rfl, -, hs⟩ := DataW.trod_string ht hx
  refine ⟨s.data.toList, ?_, ?_⟩
  · simp
  · unfold maxLen at hs
    simpa using hs
theorem Opener.bool {t : TypeId} (ht : P.underlying t = some .bool) : Opener enc P W t isBool := by
  intro fuel cs x hx
  obtain ⟨b, rfl, -⟩ := DataW.trod_bool ht hx
  exact ⟨b, rfl⟩
theorem Opener.bytes {t e : TypeId} (ht : P.underlying t = some (.slice e)) (he : P.underlying e = some (.int .u8)) (hc : P.cellsOf e = 1) : Opener enc P W t (isBs W) :=
  (Opener.slice ht hc (by omega) (Opener.u8 he)).imp fun _ _ ⟨v, hv, h⟩ => ⟨_, v, hv, h.rd fun _ _ h => h⟩
theorem Opener.struct4 {α0 α1 α2 α3 : Type} {R0 : List Value → α0 → Prop} {R1 : List Value → α1 → Prop} {R2 : List Value → α2 → Prop} {R3 : List Value → α3 → Prop} {t : TypeId} {f0 f1 f2 f3 : Field} (hs : P.underlying t = some (.struct #[f0, f1, f2, f3])) (hone : oneCellFields P #[f0, f1, f2, f3] = true) (hC : P.cellsOf t = 4) (h0 : Opener enc P W f0.type R0) (h1 : Opener enc P W f1.type R1) (h2 : Opener enc P W f2.type R2) (h3 : Opener enc P W f3.type R3) :
    Opener enc P W t (fun cs (x : α0 × α1 × α2 × α3) => ∃ v0 v1 v2 v3, cs = [v0, v1, v2, v3] ∧ R0 [v0] x.1 ∧ R1 [v1] x.2.1 ∧ R2 [v2] x.2.2.1 ∧ R3 [v3] x.2.2.2) := by
  intro fuel cs x hx
  obtain ⟨xs, n, _, _, hcl, hlen, hg⟩ := DataW.trod_struct hs hx
  rw [hC] at hcl
  obtain ⟨o0, k0⟩ := hone_of hone 0 f0 rfl
  obtain ⟨o1, k1⟩ := hone_of hone 1 f1 rfl
  obtain ⟨o2, k2⟩ := hone_of hone 2 f2 rfl
  obtain ⟨o3, k3⟩ := hone_of hone 3 f3 rfl
  match cs, hcl with
  | [c0, c1, c2, c3], _ =>
    match xs, hlen with
    | [y0, y1, y2, y3], _ =>
      have g0 := hg 0 f0 rfl
      rw [o0, k0] at g0
      obtain ⟨z0, e0⟩ := h0 n [c0] y0 (by simpa using g0)
      have g1 := hg 1 f1 rfl
      rw [o1, k1] at g1
      obtain ⟨z1, e1⟩ := h1 n [c1] y1 (by simpa using g1)
      have g2 := hg 2 f2 rfl
      rw [o2, k2] at g2
      obtain ⟨z2, e2⟩ := h2 n [c2] y2 (by simpa using g2)
      have g3 := hg 3 f3 rfl
      rw [o3, k3] at g3
      obtain ⟨z3, e3⟩ := h3 n [c3] y3 (by simpa using g3)
      exact ⟨(z0, z1, z2, z3), c0, c1, c2, c3, rfl, e0, e1, e2, e3⟩
theorem Opener.struct5 {α0 α1 α2 α3 α4 : Type} {R0 : List Value → α0 → Prop} {R1 : List Value → α1 → Prop} {R2 : List Value → α2 → Prop} {R3 : List Value → α3 → Prop} {R4 : List Value → α4 → Prop} {t : TypeId} {f0 f1 f2 f3 f4 : Field} (hs : P.underlying t = some (.struct #[f0, f1, f2, f3, f4])) (hone : oneCellFields P #[f0, f1, f2, f3, f4] = true) (hC : P.cellsOf t = 5) (h0 : Opener enc P W f0.type R0) (h1 : Opener enc P W f1.type R1) (h2 : Opener enc P W f2.type R2) (h3 : Opener enc P W f3.type R3) (h4 : Opener enc P W f4.type R4) :
    Opener enc P W t (fun cs (x : α0 × α1 × α2 × α3 × α4) => ∃ v0 v1 v2 v3 v4, cs = [v0, v1, v2, v3, v4] ∧ R0 [v0] x.1 ∧ R1 [v1] x.2.1 ∧ R2 [v2] x.2.2.1 ∧ R3 [v3] x.2.2.2.1 ∧ R4 [v4] x.2.2.2.2) := by
  intro fuel cs x hx
  obtain ⟨xs, n, _, _, hcl, hlen, hg⟩ := DataW.trod_struct hs hx
  rw [hC] at hcl
  obtain ⟨o0, k0⟩ := hone_of hone 0 f0 rfl
  obtain ⟨o1, k1⟩ := hone_of hone 1 f1 rfl
  obtain ⟨o2, k2⟩ := hone_of hone 2 f2 rfl
  obtain ⟨o3, k3⟩ := hone_of hone 3 f3 rfl
  obtain ⟨o4, k4⟩ := hone_of hone 4 f4 rfl
  match cs, hcl with
  | [c0, c1, c2, c3, c4], _ =>
    match xs, hlen with
    | [y0, y1, y2, y3, y4], _ =>
      have g0 := hg 0 f0 rfl
      rw [o0, k0] at g0
      obtain ⟨z0, e0⟩ := h0 n [c0] y0 (by simpa using g0)
      have g1 := hg 1 f1 rfl
      rw [o1, k1] at g1
      obtain ⟨z1, e1⟩ := h1 n [c1] y1 (by simpa using g1)
      have g2 := hg 2 f2 rfl
      rw [o2, k2] at g2
      obtain ⟨z2, e2⟩ := h2 n [c2] y2 (by simpa using g2)
      have g3 := hg 3 f3 rfl
      rw [o3, k3] at g3
      obtain ⟨z3, e3⟩ := h3 n [c3] y3 (by simpa using g3)
      have g4 := hg 4 f4 rfl
      rw [o4, k4] at g4
      obtain ⟨z4, e4⟩ := h4 n [c4] y4 (by simpa using g4)
      exact ⟨(z0, z1, z2, z3, z4), c0, c1, c2, c3, c4, rfl, e0, e1, e2, e3, e4⟩
end
end Go.Proofs.YtjapijndljknnaaGreatDoor

/-
  A world for the witnesses of a seat that lists tables of numbers: the settled one, each listed table holding what its initialiser lays; and what a law's list gives its walk (Tab).
-/
namespace Go.Proofs.YtjapijndljknnaaGreatDoor
open Go Go.ChangeShapes Go.WideShapes Go.ChangeAt Go.RowKit Go.Deep
set_option maxRecDepth 100000
theorem own : ownKnob Tryz.prog.godebug = none := by kernel_rfl
theorem laidOut : laidOutB Tryz.prog = true := by kernel_rfl
def layIn (cs : Array Value) : Obj → Obj
  | .cells _ t frozen => .cells cs t frozen
  | o => o
def lit1 : DataW Unit → List Value
  | .lit (.int k z) => [.int k z]
  | _ => []
def lit2 : DataW Unit → List Value
  | .agg l => l.flatMap lit1
  | d => lit1 d
def lit3 : DataW Unit → List Value
  | .agg l => l.flatMap lit2
  | d => lit2 d
noncomputable def laidHeap (h : Array Obj) : Array Obj :=
  ((((h.modify 2 (layIn (lit3 Rows.laid_unicode_utf8_first).toArray)).modify 3 (layIn (lit3 Rows.laid_unicode_utf8_acceptRanges).toArray)).modify 1 (layIn (lit3 Rows.laid_internal_strconv_uint64pow10).toArray)).modify 4 (layIn (lit3 Rows.laid_math_bits_deBruijn32tab).toArray)).modify 5 (layIn (lit3 Rows.laid_math_bits_deBruijn64tab).toArray)
noncomputable def laidWorld (os : Os) : World :=
  { World.holding Tryz.prog os ⟨#[], #[], []⟩ with heap := laidHeap (World.holding Tryz.prog os ⟨#[], #[], []⟩).heap }
theorem pow_at : Tryz.prog.globalNamed "internal/strconv.uint64pow10" = some 1 := by kernel_rfl
theorem tab_of_laid {L : List (String × DataW Unit)} {W : World} (h : laidMetH Tryz.prog L W)
    (hL : (L.filter fun x => ["internal/strconv.uint64pow10"].contains x.1) = [("internal/strconv.uint64pow10", Lib.tabData .u64 Lib.pow10Tab)]) : Tab W := by
  have h1 := h.filter (fun x => ["internal/strconv.uint64pow10"].contains x.1)
  rw [hL] at h1
  have h2 := (laidMetH_iff.1 h1).1
  rw [show ([("internal/strconv.uint64pow10", (Lib.tabData .u64 Lib.pow10Tab : DataW Unit))].filter fun x => x.2.handleName?.isNone) = [("internal/strconv.uint64pow10", Lib.tabData .u64 Lib.pow10Tab)] by kernel_rfl] at h2
  exact Lib.tabIs_of_head (t := 224) (e := 103) (n := 20) pow_at (by kernel_rfl) (by kernel_rfl) (by kernel_rfl) (by kernel_rfl) (by kernel_rfl) h2

section
variable {H : Type} {enc : TypeId × Value → H} {P : Program} {W : World}
theorem Opener.any {t : TypeId} : Opener enc P W t (fun _ (_ : Unit) => True) := fun _ _ _ _ => ⟨(), trivial⟩
end
end Go.Proofs.YtjapijndljknnaaGreatDoor
