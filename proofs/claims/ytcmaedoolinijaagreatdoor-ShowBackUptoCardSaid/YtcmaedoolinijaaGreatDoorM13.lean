/-
  Texts merged by a program of this claim's: Close, WorldS.
-/
import Derived.Test.YtcmaedoolinijaaGreatDoorM1
import Derived.Carry
import Derived.ChangeCalls
import Derived.Deep.DeepHandedRow
import Derived.Lib.LaidTab
import Derived.Deep.Slices
import Derived.Test.YtcmaedoolinijaaGreatDoorM5
import Derived.Test.YtcmaedoolinijaaGreatDoorM9
import Derived.Test.YtcmaedoolinijaaGreatDoorCards
import Derived.Test.YtcmaedoolinijaaGreatDoorTie
import Derived.WalkKit
import Derived.ProofKit
import Derived.OpenShut
import Derived.Deep.DeepWitnessRowRef
import Derived.LaidSub
import Derived.Shelf.Vars
namespace Go.Proofs.YtcmaedoolinijaaGreatDoor
open Go Go.ChangeShapes Go.WideShapes Go.RowKit

section
variable {H : Type} {enc : TypeId × Value → H} {P : Program} {W W' : World}
theorem trodAll_nw (hl : laidOutB P = true) (hb : Nw W W') {sp : Nat → Bool} : ∀ {ts : List TypeId} {vs : List Value} {ds : List (DataW H)} {ps : List MemPlace}, (∀ t ∈ ts, P.readableRec t = true ∧ t < P.types.size) →
    DataW.TrodAll enc P W 0 (fun _ => true) true ts vs ds ps → (∀ p ∈ ps, p.block < W.heap.size) → (∀ p ∈ ps, sp p.block = true) → DataW.TrodAll enc P W' 0 sp true ts vs ds ps
  | [], [], [], _, _, h, _, _ => h
  | _ :: _, _ :: _, _ :: _, _, ht, ⟨p, q, h1, h2, e⟩, hlt, hs =>
    ⟨p, q, WideElems.Trod_stays hl (ht _ (List.mem_cons.2 (Or.inl rfl))).1 (ht _ (List.mem_cons.2 (Or.inl rfl))).2 h1
      (fun x hx => hb.below.same (hlt x (by rw [e]; exact List.mem_append_left _ hx))) (fun x hx => hs x (by rw [e]; exact List.mem_append_left _ hx)),
      trodAll_nw hl hb (fun t h => ht t (List.mem_cons.2 (Or.inr h))) h2 (fun x hx => hlt x (by rw [e]; exact List.mem_append_right _ hx)) (fun x hx => hs x (by rw [e]; exact List.mem_append_right _ hx)), e⟩

theorem post_true {f : Func} {s : ChangeSpec} {apart fresh handsOn again : Bool} {args : Array Value} {ds gs : List (DataW H)} {before : List MemPlace} {tb : TypeId}
    (hl : laidOutB P = true) (hts : (f.params.toList.all fun t => P.readableRec t && decide (t < P.types.size)) = true) (hr : f.resultTypes = #[tb]) (htb : P.underlying tb = some .bool) (hv : s.vars = [])
    (hs : ∀ ds : List (DataW H), ds.length = f.params.size → s.fn H (ds ++ []) = { results := [.lit (.bool true)], args := ds })
    (hW : DataW.Whole enc P f.params.toList s.vars apart W args.toList ds gs before) (hb : Nw W W') : s.post enc P f apart fresh handsOn again W args (.bool true) W' := by
  have hlt := hW.lt
  have hW' := hW
  obtain ⟨p, q, hA, hV, rfl, hz, hn⟩ := hW
  rw [hv] at hV
  obtain ⟨rfl, rfl⟩ := trodVars_none hV
  have hlen : ds.length = f.params.size := by rw [(trodAll_length hA).2]; simp
  have he := hs ds hlen
  have ht : ∀ t ∈ f.params.toList, P.readableRec t = true ∧ t < P.types.size := fun t ht => by
    have := List.all_eq_true.1 hts t ht
    simpa using this
  have hargs : ∀ sp : Nat → Bool, (∀ x ∈ p ++ [], sp x.block = true) → DataW.TrodAll enc P W' 0 sp true f.params.toList args.toList (s.fn H (ds ++ [])).args (p ++ []) := fun sp hsp => by
    rw [he]
    simp only [List.append_nil] at hsp hlt ⊢
    exact trodAll_nw hl hb ht hA hlt hsp
  have hres : ∀ (b : Nat) (sp : Nat → Bool) (hd : Bool), DataW.TrodAll enc P W' b sp hd f.resultTypes.toList ((Value.bool true).resultList f.resultTypes.size) (s.fn H (ds ++ [])).results [] := fun b sp hd => by
    rw [he, hr]
    exact trodAll_mk1 (shut_bool htb true)
  have hvars : ∀ sp : Nat → Bool, DataW.TrodVars enc P W' sp s.vars (s.fn H (ds ++ [])).vars [] := fun sp => by
    rw [he, hv]; rfl
  refine ⟨ds, [], p ++ [], [], p ++ [], [], hW', hres _ _ _, hargs _ (fun x hx => by simpa using hlt x hx), hvars _, hb.below.frame _, fun _ => ⟨ok_one hr rfl (okWide_bool_mk htb true), _, _, ([] ++ (p ++ [])) ++ [], ⟨[] ++ (p ++ []), [], trodAll_append (hargs _ (fun _ _ => rfl)) (hres _ _ _), hvars _, rfl, ?_, ?_⟩, ?_⟩⟩
  · intro b off hp
    simp only [List.append_nil, List.nil_append] at hp hz hlt
    have hbk : b < W.heap.size := hlt _ hp
    rw [hb.below.frozen (p := ⟨b, off, _⟩) hbk]
    exact hz b off hp
  · intro ha
    simpa using hn ha
  · intro x hx _
    simpa using hx
end
end Go.Proofs.YtcmaedoolinijaaGreatDoor

namespace Go.Proofs.YtcmaedoolinijaaGreatDoor
open Go Go.ChangeShapes Go.WideShapes Go.ChangeAt Go.RowKit Go.Deep
set_option maxRecDepth 100000
theorem own : ownKnob Tryz.prog.godebug = none := by kernel_rfl
theorem laidOut : laidOutB Tryz.prog = true := by kernel_rfl
def layIn (cs : Array Value) : Obj → Obj
  | .cells _ t frozen => .cells cs t frozen
  | o => o
def lit1 : DataW Unit → List Value
  | .lit (.int k z) => [.int k z]
  | _ => []
def lit2 : DataW Unit → List Value
  | .agg l => l.flatMap lit1
  | d => lit1 d
def lit3 : DataW Unit → List Value
  | .agg l => l.flatMap lit2
  | d => lit2 d
def ws16 : List (Int × Int × Int) := [(9, 13, 1), (32, 133, 101), (160, 5760, 5600), (8192, 8202, 1), (8232, 8233, 1), (8239, 8287, 48), (12288, 12288, 1)]
def moreBlks (n : Nat) : Array Obj := #[
  .cells #[.string ⟨#[118, 97, 108, 117, 101, 32, 111, 117, 116, 32, 111, 102, 32, 114, 97, 110, 103, 101]⟩] 256,
  .cells #[.string ⟨#[105, 110, 118, 97, 108, 105, 100, 32, 115, 121, 110, 116, 97, 120]⟩] 256,
  .cells (ws16.flatMap fun x => [Value.int .u16 x.1, .int .u16 x.2.1, .int .u16 x.2.2]).toArray 248,
  .cells #[.slice (some ⟨n + 2, 0, none⟩) 7 7, .slice none 0 0, .int .i64 2] 245]
noncomputable def laidHeap (h : Array Obj) : Array Obj :=
  (((((((((h ++ moreBlks h.size).modify 1 (layIn (lit3 Rows.laid_unicode_utf8_first).toArray)).modify 2 (layIn (lit3 Rows.laid_unicode_utf8_acceptRanges).toArray)).modify 5 (layIn (lit3 Rows.laid_internal_strconv_uint64pow10).toArray)).modify 8 (layIn (lit3 Rows.laid_math_bits_deBruijn32tab).toArray)).modify 9 (layIn (lit3 Rows.laid_math_bits_deBruijn64tab).toArray)).modify 3 (layIn (lit3 Rows.laid_strings_asciiSpace).toArray)).modify 7 (layIn #[.iface 254 (.pointer (some ⟨h.size, 0, none⟩))])).modify 6 (layIn #[.iface 254 (.pointer (some ⟨h.size + 1, 0, none⟩))])).modify 4 (layIn #[.pointer (some ⟨h.size + 3, 0, none⟩)])
noncomputable def laidWorld (os : Os) : World :=
  { World.holding Tryz.prog os ⟨#[], #[], []⟩ with heap := laidHeap (World.holding Tryz.prog os ⟨#[], #[], []⟩).heap }
theorem pow_at : Tryz.prog.globalNamed "internal/strconv.uint64pow10" = some 5 := by kernel_rfl
theorem sp_at : Tryz.prog.globalNamed "strings.asciiSpace" = some 3 := by kernel_rfl
theorem pow_of_laid {L : List (String × DataW Unit)} {W : World} (h : laidMetH Tryz.prog L W)
    (hL : (L.filter fun x => ["internal/strconv.uint64pow10"].contains x.1) = [("internal/strconv.uint64pow10", Lib.tabData .u64 Lib.pow10Tab)]) : Lib.TabIs Tryz.prog W "internal/strconv.uint64pow10" .u64 Lib.pow10Tab := by
  have h1 := h.filter (fun x => ["internal/strconv.uint64pow10"].contains x.1)
  rw [hL] at h1
  have h2 := (laidMetH_iff.1 h1).1
  rw [show ([("internal/strconv.uint64pow10", (Lib.tabData .u64 Lib.pow10Tab : DataW Unit))].filter fun x => x.2.handleName?.isNone) = [("internal/strconv.uint64pow10", Lib.tabData .u64 Lib.pow10Tab)] by kernel_rfl] at h2
  exact Lib.tabIs_of_head (t := 232) (e := 206) (n := 20) pow_at (by kernel_rfl) (by kernel_rfl) (by kernel_rfl) (by kernel_rfl) (by kernel_rfl) h2
theorem sp_of_laid {L : List (String × DataW Unit)} {W : World} (h : laidMetH Tryz.prog L W)
    (hL : (L.filter fun x => ["strings.asciiSpace"].contains x.1) = [("strings.asciiSpace", Lib.tabData .u8 Lib.asciiSpaceTab)]) : Lib.TabIs Tryz.prog W "strings.asciiSpace" .u8 Lib.asciiSpaceTab := by
  have h1 := h.filter (fun x => ["strings.asciiSpace"].contains x.1)
  rw [hL] at h1
  have h2 := (laidMetH_iff.1 h1).1
  rw [show ([("strings.asciiSpace", (Lib.tabData .u8 Lib.asciiSpaceTab : DataW Unit))].filter fun x => x.2.handleName?.isNone) = [("strings.asciiSpace", Lib.tabData .u8 Lib.asciiSpaceTab)] by kernel_rfl] at h2
  exact Lib.tabIs_of_head (t := 174) (e := 5) (n := 256) sp_at (by kernel_rfl) (by kernel_rfl) (by kernel_rfl) (by kernel_rfl) (by kernel_rfl) h2
theorem iface_of_trod {P : Program} {w : World} {fuel : Nat} {t : TypeId} {cs : List Value} {ms : Array (String × TypeId)} {nm : String} {d : DataW Unit} {p : List MemPlace} {sp : Nat → Bool} (ht : P.underlying t = some (.interface ms))
    (h : DataW.trod (fun _ => ()) P w 0 sp false fuel t cs = some (.iface nm d, p)) : ∃ u v, cs = [.iface u v] := by
  cases fuel with
  | zero => simp [DataW.trod] at h
  | succ fuel =>
    unfold DataW.trod at h
    rw [ht] at h
    split at h <;> simp_all
theorem iface_of_laid {P : Program} {W : World} {name nm : String} {d : DataW Unit} {rest : List (String × DataW Unit)} {g : Nat} {t : TypeId} {ms : Array (String × TypeId)}
    (hg : P.globalNamed name = some g) (hty : (P.globals[g]?).map (·.type) = some t) (ht : P.underlying t = some (.interface ms)) (h : laidMet P ((name, .iface nm d) :: rest) W) :
    ∃ ev, W.cell? ⟨g, 0, none⟩ = some ev ∧ (ev = .nilIface ∨ ∃ te pe, ev = .iface te pe) := by
  obtain ⟨ps, hl, -, -⟩ := h
  obtain ⟨g', t', cs, fuel, p, q, e1, e2, e3, e4, -, -⟩ := hl
  rw [hg] at e1
  obtain rfl := Option.some.inj e1
  rw [hty] at e2
  obtain rfl := Option.some.inj e2
  obtain ⟨u, v, hc⟩ := iface_of_trod ht e4
  refine ⟨.iface u v, ?_, .inr ⟨u, v, rfl⟩⟩
  unfold World.var? at e3
  rw [hg, Option.bind_some] at e3
  split at e3
  · rename_i c ty fz hh
    have e5 := Option.some.inj e3
    subst e5
    have : c = #[.iface u v] := by rw [← hc]
    subst this
    simp [World.cell?, hh]
  · cases e3
theorem es_at : Tryz.prog.globalNamed "strconv.ErrSyntax" = some 6 := by kernel_rfl
theorem er_at : Tryz.prog.globalNamed "strconv.ErrRange" = some 7 := by kernel_rfl
theorem one_of_laid {L : List (String × DataW Unit)} {W : World} {n : String} {d : DataW Unit} (h : laidMetH Tryz.prog L W) (hL : (L.filter fun x => [n].contains x.1) = [(n, d)]) (hd : ([(n, d)].filter fun x => x.2.handleName?.isNone) = [(n, d)]) : laidMet Tryz.prog [(n, d)] W := by
  have h1 := h.filter (fun x => [n].contains x.1)
  rw [hL] at h1
  have h2 := (laidMetH_iff.1 h1).1
  rw [hd] at h2
  exact h2
theorem stab_of_laid {L : List (String × DataW Unit)} {W : World} (h : laidMetH Tryz.prog L W) (hs : W.ShapedOpen Tryz.prog)
    (h1 : (L.filter fun x => ["internal/strconv.uint64pow10"].contains x.1) = [("internal/strconv.uint64pow10", Lib.tabData .u64 Lib.pow10Tab)])
    (h2 : (L.filter fun x => ["strings.asciiSpace"].contains x.1) = [("strings.asciiSpace", Lib.tabData .u8 Lib.asciiSpaceTab)])
    (h3 : (L.filter fun x => ["strconv.ErrSyntax"].contains x.1) = [("strconv.ErrSyntax", Rows.laid_strconv_ErrSyntax)])
    (h4 : (L.filter fun x => ["strconv.ErrRange"].contains x.1) = [("strconv.ErrRange", Rows.laid_strconv_ErrRange)]) : STab W where
  mx := Go.Proofs.cell_of_shapedOpen_int hs (g := 0) (t := 3) (zero := #[.int .i64 0]) (of_decide_eq_true (by kernel_rfl)) (by kernel_rfl) rfl (by kernel_rfl) (by kernel_rfl) (by kernel_rfl)
  sp := sp_of_laid h h2
  p10 := pow_of_laid h h1
  es := iface_of_laid es_at (t := 64) (ms := #[("Error", 69)]) (by kernel_rfl) (by kernel_rfl) (one_of_laid h h3 (by kernel_rfl))
  er := iface_of_laid er_at (t := 64) (ms := #[("Error", 69)]) (by kernel_rfl) (by kernel_rfl) (one_of_laid h h4 (by kernel_rfl))
def onceB : Nat → List Nat → Bool
  | _, [] => true
  | m, k :: l => !(m.testBit k) && onceB (m ||| 2 ^ k) l
theorem onceB_spec : ∀ (l : List Nat) (m : Nat), onceB m l = true → l.Nodup ∧ ∀ k ∈ l, m.testBit k = false
  | [], _, _ => ⟨List.nodup_nil, by simp⟩
  | k :: l, m, h => by
    simp only [onceB, Bool.and_eq_true, Bool.not_eq_true'] at h
    obtain ⟨i1, i2⟩ := onceB_spec l _ h.2
    refine ⟨List.nodup_cons.2 ⟨fun hm => ?_, i1⟩, fun j hj => ?_⟩
    · have := i2 k hm
      rw [Nat.testBit_or, Nat.testBit_two_pow] at this
      simp at this
    · rcases List.mem_cons.1 hj with rfl | hj
      · exact h.1
      · have := i2 j hj
        rw [Nat.testBit_or] at this
        exact (Bool.or_eq_false_iff.1 this).1
def placeKey : MemPlace → Nat
  | .cell b off => b * 512 + off
  | .map b => b * 512 + 511
theorem nodup_of_keys {l : List MemPlace} (h : onceB 0 (l.map placeKey) = true) : l.Nodup :=
  List.Pairwise.of_map placeKey (fun a b hab e => hab (by rw [e])) (onceB_spec _ _ h).1
theorem laidMet_by {P : Program} {w : World} {l : List (String × DataW Unit)} (fuel : Nat) (h : (DataW.laidRun P w fuel (l.map (·.1))).map (·.1) = some l)
    (hn : (DataW.laidRun P w fuel (l.map (·.1))).map (fun x => onceB 0 (x.2.map placeKey)) = some true)
    (hr : (DataW.laidRun P w fuel (l.map (·.1))).map (fun x => laidRowsB P w x.2) = some true) : laidMet P l w := by
  cases hx : DataW.laidRun P w fuel (l.map (·.1)) with
  | none => simp [hx] at h
  | some x =>
    obtain ⟨l', ps⟩ := x
    simp only [hx, Option.map_some, Option.some.injEq] at h hn hr
    subst h
    exact laidMet_of_run fuel hx (decide_eq_true (nodup_of_keys hn)) hr
end Go.Proofs.YtcmaedoolinijaaGreatDoor
