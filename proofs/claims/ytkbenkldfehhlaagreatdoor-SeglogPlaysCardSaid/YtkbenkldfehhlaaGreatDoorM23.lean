/-
  Texts merged by a program of this claim's: Twin, DocD, DocI, DocS, DocT, DocU, DocV, DocW.
-/
import Derived.Test.YtkbenkldfehhlaaGreatDoorM22
import Derived.Lib.ItoaLen
import Derived.Test.YtkbenkldfehhlaaGreatDoorM21
import Derived.Test.YtkbenkldfehhlaaGreatDoorLogJS
namespace Go.Proofs.YtkbenkldfehhlaaGreatDoor
open Go Go.RowKit Go.Sort
set_option maxRecDepth 100000
set_option maxHeartbeats 800000
def Tw (Y : Nat → Prop) (w0 w : World) (b : Nat) (dp : Dsk) (v : Value) (dd : Dsk) : Prop := ∃ X, HasX (fun k => X k ∨ Y k) w0 w b dp ∧ RD X w v dd ∧ ∀ k, X k → ¬ Y k
section
variable {Y Z : Nat → Prop} {w0 w w' : World} {b : Nat} {dp dp' dd dd' d : Dsk} {v : Value}
theorem Kept.at_ {X : Nat → Prop} (h : Kept X w w') {k : Nat} {u : Obj} (hk : w.heap[k]? = some u) (hx : X k) : w'.heap[k]? = some u := by
  rw [h.2 k hx (lt_of_block hk)]
  exact hk
theorem Tw.has (h : Tw Y w0 w b dp v dd) : HasX Y w0 w b dp := by
  obtain ⟨X, h1, -, -⟩ := h
  exact h1.weak fun k hk => .inr hk
theorem Tw.base (h : Tw Y w0 w b dp v dd) : Nw w0 w := h.has.base
theorem Tw.lt (h : Tw Y w0 w b dp v dd) : ∀ k, Y k → k < w.heap.size := h.has.lt
theorem HasX.old {X : Nat → Prop} (h : HasX X w0 w b d) : HasX (fun k => X k ∨ k < w0.heap.size) w0 w b d := by
  obtain ⟨S, h1, h2, h3, h4⟩ := h
  refine ⟨S, h1, h2, h3, fun k hk => ?_⟩
  rcases hk with hk | hk
  · exact h4 k hk
  · exact ⟨Nat.lt_of_lt_of_le hk h2.size, fun hs => by have := h3 k hs; omega⟩
theorem Tw.doc (h : Tw Y w0 w b dp v dd) : ∃ X, RD X w v dd := by
  obtain ⟨X, -, h2, -⟩ := h
  exact ⟨X, h2⟩
theorem Tw.weak (h : Tw Y w0 w b dp v dd) (hy : ∀ k, Z k → Y k) : Tw Z w0 w b dp v dd := by
  obtain ⟨X, h1, h2, h3⟩ := h
  exact ⟨X, h1.weak fun k hk => hk.imp id (hy k), h2, fun k hk hz => h3 k hk (hy k hz)⟩
theorem Tw.nw (h : Tw Y w0 w b dp v dd) (hw : Nw w w') : Tw Y w0 w' b dp v dd := by
  obtain ⟨X, h1, h2, h3⟩ := h
  exact ⟨X, h1.nw hw, h2.nw hw, h3⟩
theorem Tw.put {T : Nat → Prop} (h : Tw Y w0 w b dp v dd) (hw : Only T w w') (ht : ∀ k, T k → k < w.heap.size → Y k ∧ w0.heap.size ≤ k) (hy : ∀ k, Z k → Y k ∨ w.heap.size ≤ k ∧ k < w'.heap.size) : Tw Z w0 w' b dp v dd := by
  obtain ⟨X, h1, h2, h3⟩ := h
  have hlt := h1.lt
  refine ⟨X, h1.put hw (fun k hk hl => ⟨.inr (ht k hk hl).1, (ht k hk hl).2⟩) (fun k hk => ?_), h2.put hw (fun k hk hl hT => h3 k hk (ht k hT hl).1), fun k hk hz => ?_⟩
  · rcases hk with hk | hk
    · exact .inl (.inl hk)
    · exact (hy k hk).imp .inr id
  · rcases hy k hz with h | h
    · exact h3 k hk h
    · have := hlt k (.inl hk); omega
theorem Tw.nwY (h : Tw Y w0 w b dp v dd) (hw : Nw w w') (hy : ∀ k, Z k → Y k ∨ w.heap.size ≤ k ∧ k < w'.heap.size) : Tw Z w0 w' b dp v dd := h.put hw (fun _ hf => hf.elim) hy
theorem Tw.new (h : HasX Y w0 w b dp) (hr : RD (fun k => w.heap.size ≤ k) w' v dd) (hw : Nw w w') : Tw Y w0 w' b dp v dd := by
  refine ⟨fun k => w.heap.size ≤ k ∧ k < w'.heap.size, h.nwY hw (fun k hk => hk.symm), hr.narrow, fun k hk hy => ?_⟩
  have := h.lt k hy
  omega
theorem Tw.does {P : Program} {f : FuncId} {args : Array Value} {R : (Nat → Prop) → Ending → World → Prop} (h : Tw Y w0 w b dp v dd)
    (hc : ∀ X : Nat → Prop, (∀ k, Y k → X k) → HasX X w0 w b dp → Calls P f args w fun e w' => R X e w' ∧ HasX X w0 w' b dp' ∧ Kept X w w') :
    Calls P f args w fun e w' => ∃ X, (∀ k, Y k → X k) ∧ R X e w' ∧ Tw Y w0 w' b dp' v dd ∧ Kept X w w' := by
  obtain ⟨X, h1, h2, h3⟩ := h
  refine (hc _ (fun k hk => .inr hk) h1).mono ?_
  rintro e w' ⟨he, hx, hk⟩
  exact ⟨_, fun k hk => .inr hk, he, ⟨X, hx, ⟨h2.1, h2.2.elim fun r hr => ⟨r, hr.1.kept (hk.weak fun k hk => .inl hk), hr.2⟩⟩, h3⟩, hk⟩
theorem Tw.docs {P : Program} {f : FuncId} {args : Array Value} {E : Ending → Value → World → Prop} (h : Tw Y w0 w b dp v dd)
    (hc : ∀ X : Nat → Prop, (∀ k, w.heap.size ≤ k → X k) → RD X w v dd → Calls P f args w fun e w' => ∃ v', E e v' w' ∧ RD X w' v' dd' ∧ Nw w w') :
    Calls P f args w fun e w' => ∃ v', E e v' w' ∧ Tw Y w0 w' b dp v' dd' ∧ Nw w w' := by
  obtain ⟨X, h1, h2, h3⟩ := h
  have hlt := h1.lt
  refine (hc (fun k => X k ∨ w.heap.size ≤ k) (fun k hk => .inr hk) (h2.mono fun k hk => .inl hk)).mono ?_
  rintro e w' ⟨v', he, hr, hn⟩
  refine ⟨v', he, ⟨fun k => X k ∨ (w.heap.size ≤ k ∧ k < w'.heap.size), h1.nwY hn (fun k hk => ?_), hr.narrow.mono (fun k hk => ?_), fun k hk hy => ?_⟩, hn⟩
  · rcases hk with (hk | hk) | hk
    · exact .inl (.inl hk)
    · exact .inr hk
    · exact .inl (.inr hk)
  · rcases hk with ⟨h | h, h'⟩
    · exact .inl h
    · exact .inr ⟨h, h'⟩
  · rcases hk with hk | hk
    · exact h3 k hk hy
    · have := hlt k (.inr hy); omega
theorem Tw.rde {P : Program} {f : FuncId} {args : Array Value} {x : Int} (h : Tw Y w0 w b dp v dd)
    (hc : ∀ X : Nat → Prop, (∀ k, w.heap.size ≤ k → X k) → RD X w v dd → Calls P f args w (RDE X w dd' x)) :
    Calls P f args w fun e w' => ∃ (m : Int) (a : Option Addr) (n c : Nat) (la : Int) (dn : Bool), e = .returned (.tuple #[.agg #[.int .i64 m, .slice a n c, .int .i64 la, .bool dn], .int .i64 x]) ∧ Tw Y w0 w' b dp (.agg #[.int .i64 m, .slice a n c, .int .i64 la, .bool dn]) dd' ∧ Nw w w' := by
  refine (h.docs (dd' := dd') (E := fun e v' _ => ∃ (m : Int) (a : Option Addr) (n c : Nat) (la : Int) (dn : Bool), v' = .agg #[.int .i64 m, .slice a n c, .int .i64 la, .bool dn] ∧ e = .returned (.tuple #[v', .int .i64 x])) (fun X hX hR => (hc X hX hR).mono ?_)).mono ?_
  · rintro e w' ⟨m, a, n, c, la, dn, rfl, h1, h2⟩
    exact ⟨_, ⟨m, a, n, c, la, dn, rfl, rfl⟩, h1, h2⟩
  · rintro e w' ⟨v', ⟨m, a, n, c, la, dn, rfl, rfl⟩, h1, h2⟩
    exact ⟨m, a, n, c, la, dn, rfl, h1, h2⟩
theorem Tw.rd1 {P : Program} {f : FuncId} {args : Array Value} (h : Tw Y w0 w b dp v dd)
    (hc : ∀ X : Nat → Prop, (∀ k, w.heap.size ≤ k → X k) → RD X w v dd → Calls P f args w (RD1 X w dd')) :
    Calls P f args w fun e w' => ∃ (m : Int) (a : Option Addr) (n c : Nat) (la : Int) (dn : Bool), e = .returned (.agg #[.int .i64 m, .slice a n c, .int .i64 la, .bool dn]) ∧ Tw Y w0 w' b dp (.agg #[.int .i64 m, .slice a n c, .int .i64 la, .bool dn]) dd' ∧ Nw w w' := by
  refine (h.docs (dd' := dd') (E := fun e v' _ => ∃ (m : Int) (a : Option Addr) (n c : Nat) (la : Int) (dn : Bool), v' = .agg #[.int .i64 m, .slice a n c, .int .i64 la, .bool dn] ∧ e = .returned v') (fun X hX hR => (hc X hX hR).mono ?_)).mono ?_
  · rintro e w' ⟨m, a, n, c, la, dn, rfl, h1, h2⟩
    exact ⟨_, ⟨m, a, n, c, la, dn, rfl, rfl⟩, h1, h2⟩
  · rintro e w' ⟨v', ⟨m, a, n, c, la, dn, rfl, rfl⟩, h1, h2⟩
    exact ⟨m, a, n, c, la, dn, rfl, h1, h2⟩
theorem Tw.parts (h : Tw Y w0 w b dp v dd) : ∃ (m : Int) (a : Option Addr) (n c : Nat) (la : Int) (dn : Bool), v = .agg #[.int .i64 m, .slice a n c, .int .i64 la, .bool dn] := by
  obtain ⟨X, h2⟩ := h.doc
  exact h2.parts
theorem Tw.same (h : Tw Y w0 w b d v d) : Calls Tryz.prog 12 #[.pointer (some ⟨b, 0, none⟩), v] w fun e w' => e = .returned (.bool true) ∧ Nw w w' := by
  obtain ⟨S, hS, -⟩ := h.has
  obtain ⟨X, -, r, hr, ho⟩ := h.doc
  exact SameDisk_ok hS hr ho
theorem rd_new (m : Int) (h0 : 0 ≤ m) (h1 : m ≤ 16777216) (w : World) (X : Nat → Prop) : RD X w (.agg #[.int .i64 m, .slice none 0 0, .int .i64 (-1), .bool false]) (newDsk m) :=
  ⟨⟨h0, h1, by simp [newDsk], by simp [newDsk], List.nodup_nil, (fun n hn => (List.not_mem_nil hn).elim), by simp [newDsk], (by simpa [newDsk, usedF] using h0), (fun x hx => (List.not_mem_nil hx).elim)⟩, newDsk m, ⟨_, rfl, [], ⟨rfl, .inl ⟨none, rfl, rfl⟩⟩, rfl, fun hne => absurd rfl hne⟩, ref_new m⟩
end
end Go.Proofs.YtkbenkldfehhlaaGreatDoor

namespace Go.Proofs.YtkbenkldfehhlaaGreatDoor
open Go Go.RowKit Go.Sort
set_option maxRecDepth 100000
set_option maxHeartbeats 1600000
theorem dgt0 (W : World) : (Instr.slice 9 (.string ⟨#[48, 49, 50, 51, 52, 53, 54, 55, 56, 57]⟩) (some (.int .i64 0)) (some (.int .i64 1)) none).run Tryz.prog W = .ok (.string ⟨#[48]⟩) W := by kernel_rfl
theorem dgt1 (W : World) : (Instr.slice 9 (.string ⟨#[48, 49, 50, 51, 52, 53, 54, 55, 56, 57]⟩) (some (.int .i64 1)) (some (.int .i64 2)) none).run Tryz.prog W = .ok (.string ⟨#[49]⟩) W := by kernel_rfl
theorem dgt2 (W : World) : (Instr.slice 9 (.string ⟨#[48, 49, 50, 51, 52, 53, 54, 55, 56, 57]⟩) (some (.int .i64 2)) (some (.int .i64 3)) none).run Tryz.prog W = .ok (.string ⟨#[50]⟩) W := by kernel_rfl
theorem dgt3 (W : World) : (Instr.slice 9 (.string ⟨#[48, 49, 50, 51, 52, 53, 54, 55, 56, 57]⟩) (some (.int .i64 3)) (some (.int .i64 4)) none).run Tryz.prog W = .ok (.string ⟨#[51]⟩) W := by kernel_rfl
theorem dgt4 (W : World) : (Instr.slice 9 (.string ⟨#[48, 49, 50, 51, 52, 53, 54, 55, 56, 57]⟩) (some (.int .i64 4)) (some (.int .i64 5)) none).run Tryz.prog W = .ok (.string ⟨#[52]⟩) W := by kernel_rfl
theorem dgt5 (W : World) : (Instr.slice 9 (.string ⟨#[48, 49, 50, 51, 52, 53, 54, 55, 56, 57]⟩) (some (.int .i64 5)) (some (.int .i64 6)) none).run Tryz.prog W = .ok (.string ⟨#[53]⟩) W := by kernel_rfl
theorem dgt6 (W : World) : (Instr.slice 9 (.string ⟨#[48, 49, 50, 51, 52, 53, 54, 55, 56, 57]⟩) (some (.int .i64 6)) (some (.int .i64 7)) none).run Tryz.prog W = .ok (.string ⟨#[54]⟩) W := by kernel_rfl
theorem dgt7 (W : World) : (Instr.slice 9 (.string ⟨#[48, 49, 50, 51, 52, 53, 54, 55, 56, 57]⟩) (some (.int .i64 7)) (some (.int .i64 8)) none).run Tryz.prog W = .ok (.string ⟨#[55]⟩) W := by kernel_rfl
theorem dgt8 (W : World) : (Instr.slice 9 (.string ⟨#[48, 49, 50, 51, 52, 53, 54, 55, 56, 57]⟩) (some (.int .i64 8)) (some (.int .i64 9)) none).run Tryz.prog W = .ok (.string ⟨#[56]⟩) W := by kernel_rfl
theorem dgt9 (W : World) : (Instr.slice 9 (.string ⟨#[48, 49, 50, 51, 52, 53, 54, 55, 56, 57]⟩) (some (.int .i64 9)) (some (.int .i64 10)) none).run Tryz.prog W = .ok (.string ⟨#[57]⟩) W := by kernel_rfl
theorem dgt_at (k : Nat) (hk : k < 10) (W : World) : (Instr.slice 9 (.string ⟨#[48, 49, 50, 51, 52, 53, 54, 55, 56, 57]⟩) (some (.int .i64 k)) (some (.int .i64 ((k : Int) + 1))) none).run Tryz.prog W = .ok (.string ⟨#[UInt8.ofNat (48 + k)]⟩) W := by
  match k, hk with
  | 0, _ => exact dgt0 W
  | 1, _ => exact dgt1 W
  | 2, _ => exact dgt2 W
  | 3, _ => exact dgt3 W
  | 4, _ => exact dgt4 W
  | 5, _ => exact dgt5 W
  | 6, _ => exact dgt6 W
  | 7, _ => exact dgt7 W
  | 8, _ => exact dgt8 W
  | 9, _ => exact dgt9 W
theorem decDigits_more {q : Nat} (h : 0 < q) (l : List UInt8) : Lib.decDigits q ++ l = if q / 10 = 0 then UInt8.ofNat (48 + q % 10) :: l else Lib.decDigits (q / 10) ++ (UInt8.ofNat (48 + q % 10) :: l) := by
  by_cases h10 : q < 10
  · have e : q / 10 = 0 := by omega
    have e2 : q % 10 = q := by omega
    rw [if_pos e, Lib.decDigits, dif_pos h10, e2]
    rfl
  · have e : q / 10 ≠ 0 := by omega
    rw [if_neg e]
    conv => lhs; rw [Lib.decDigits, dif_neg h10]
    simp
theorem dDec_ok (w : World) (n : Nat) (hn : n ≤ 9223372036854775807) : Calls Tryz.prog 64 #[.int .i64 n] w fun e w' => e = .returned (.string ⟨(Lib.decDigits n).toArray⟩) ∧ w = w' := by
  have hm : Int.tmod (n : Int) 10 = ((n % 10 : Nat) : Int) := by rw [Int.tmod_eq_emod_of_nonneg (by omega)]; omega
  have hd : Int.tdiv (n : Int) 10 = ((n / 10 : Nat) : Int) := by rw [Int.tdiv_eq_ediv_of_nonneg (by omega)]; omega
  have hst : Lib.decDigits n = if n / 10 = 0 then [UInt8.ofNat (48 + n % 10)] else Lib.decDigits (n / 10) ++ [UInt8.ofNat (48 + n % 10)] := by
    by_cases h : n < 10
    · have e : n / 10 = 0 := by omega
      have e2 : n % 10 = n := by omega
      rw [if_pos e, e2, Lib.decDigits, dif_pos h]
    · rw [if_neg (by omega)]
      conv => lhs; rw [Lib.decDigits, dif_neg h]
  have HST := Lib.hid hst
  clear hst
  obtain ⟨r, hr⟩ : ∃ r, n % 10 = r := ⟨_, rfl⟩
  obtain ⟨q, hq⟩ : ∃ q, n / 10 = q := ⟨_, rfl⟩
  have hrl : r < 10 := by omega
  have hql : q ≤ 922337203685477580 := by omega
  rw [hr] at hm HST
  rw [hq] at hd HST
  have hs := dgt_at r hrl
  have hw1 : IntKind.i64.wrap ((r : Int) + 1) = (r : Int) + 1 := IntWalk.i64_in _ (by omega)
  have hw2 : IntKind.i64.wrap (q : Int) = (q : Int) := IntWalk.i64_in _ (by omega)
  obtain ⟨c0, hc0⟩ : ∃ c : UInt8, UInt8.ofNat (48 + r) = c := ⟨_, rfl⟩
  rw [hc0] at hs HST
  clear hr hq hc0
  go_enter Tryz.func64, Tryz.ntmps64
  go_wp2
  go_loopw [0, 3] (fun v s wr => ∃ (j : Nat) (l : List UInt8), v = .int .i64 j ∧ s = .string ⟨l.toArray⟩ ∧ j ≤ 922337203685477580 ∧ l.length + j ≤ 922337203685477600 ∧ (Lib.decDigits n = if j = 0 then l else Lib.decDigits j ++ l) ∧ w = wr) (fun v _ _ => (intOf v).toNat)
  case atStart => exact ⟨q, [c0], rfl, rfl, hql, by simp only [List.length_singleton]; omega, HST.out, rfl⟩
  case round =>
    obtain ⟨j, l, rfl, rfl, hj, hl, hdl, rfl⟩ := hrel
    have HDL := Lib.hid hdl
    clear hs hm hd hw1 hw2 hdl
    by_cases h0 : 0 < j
    case neg =>
      have e : Lib.decDigits n = l := by rw [HDL.out, if_pos (by omega)]
      have E := Lib.hid e
      clear e
      go_wp2
      go_ret
      exact ⟨by rw [E.out]; rfl, rfl⟩
    have hm : Int.tmod (j : Int) 10 = ((j % 10 : Nat) : Int) := by rw [Int.tmod_eq_emod_of_nonneg (by omega)]; omega
    have hd : Int.tdiv (j : Int) 10 = ((j / 10 : Nat) : Int) := by rw [Int.tdiv_eq_ediv_of_nonneg (by omega)]; omega
    have hnx : Hid (Lib.decDigits n = if j / 10 = 0 then UInt8.ofNat (48 + j % 10) :: l else Lib.decDigits (j / 10) ++ (UInt8.ofNat (48 + j % 10) :: l)) := Lib.hid (by rw [HDL.out, if_neg (by omega), decDigits_more h0])
    obtain ⟨r2, hr⟩ : ∃ r, j % 10 = r := ⟨_, rfl⟩
    obtain ⟨q2, hq⟩ : ∃ q, j / 10 = q := ⟨_, rfl⟩
    rw [hr] at hm hnx
    rw [hq] at hd hnx
    have hs := dgt_at r2 (by omega)
    have hw1 : IntKind.i64.wrap ((r2 : Int) + 1) = (r2 : Int) + 1 := IntWalk.i64_in _ (by omega)
    have hw2 : IntKind.i64.wrap (q2 : Int) = (q2 : Int) := IntWalk.i64_in _ (by omega)
    have hqj : q2 < j := by omega
    have hcat : (⟨#[UInt8.ofNat (48 + r2)]⟩ ++ ⟨l.toArray⟩ : ByteArray) = ⟨((UInt8.ofNat (48 + r2)) :: l).toArray⟩ := ByteArray.mk_append_mk [UInt8.ofNat (48 + r2)] l
    have hll : l.length ≤ 922337203685477600 := by omega
    obtain ⟨ch, hch⟩ : ∃ c : UInt8, UInt8.ofNat (48 + r2) = c := ⟨_, rfl⟩
    rw [hch] at hs hcat hnx
    clear hr hq HDL hch
    go_wp2
    go_roundw
    case rel => exact ⟨q2, ch :: l, by go_num, by rw [← hcat], by omega, by simp only [List.length_cons]; omega, hnx.out, by first | rfl | trivial⟩
    case measure => simp [intOf]; omega
end Go.Proofs.YtkbenkldfehhlaaGreatDoor

namespace Go.Proofs.YtkbenkldfehhlaaGreatDoor
open Go Go.RowKit Go.Sort
set_option maxRecDepth 100000
set_option maxHeartbeats 3200000
section
variable {X : Nat → Prop} {d d' : Dsk} {v : Value} {w : World}
def RDB (X : Nat → Prop) (w : World) (d' : Dsk) (k : Nat) (x : Int) (e : Ending) (w' : World) : Prop :=
  ∃ (m : Int) (a : Option Addr) (n c : Nat) (la : Int) (dn : Bool), e = .returned (.tuple #[.agg #[.int .i64 m, .slice a n c, .int .i64 la, .bool dn], .int .i64 k, .int .i64 x]) ∧ RD X w' (.agg #[.int .i64 m, .slice a n c, .int .i64 la, .bool dn]) d' ∧ Nw w w'
theorem segName_len (n : Nat) (hn : n ≤ 4611686018427387904) : (segName n).length ≤ 100 := by
  unfold segName
  rw [List.length_cons, Lib.decDigits_length]
  have := Lib.nDigits_le20 n (by omega)
  omega
theorem dBegin_ok (h : RD X w v d) (hX : ∀ k, w.heap.size ≤ k → X k) {n : Nat} (hn : n ≤ 4611686018427387904) {x : Int} (hr : d.begun n = (d', x)) :
    Calls Tryz.prog 69 #[v, .int .i64 n] w (RDB X w d' (headB n).length x) := by
  have HR := Lib.hid hr
  clear hr
  have HSL := Lib.hid (segName_len n hn)
  have hsn : (⟨#[115]⟩ ++ ⟨(Lib.decDigits n).toArray⟩ : ByteArray) = ⟨(segName n).toArray⟩ := ByteArray.mk_append_mk [115] (Lib.decDigits n)
  obtain ⟨dg, hdg⟩ : ∃ y, Lib.decDigits n = y := ⟨_, rfl⟩
  have HDG := Lib.hid hdg
  rw [hdg] at hsn
  obtain ⟨sn, hsn2⟩ : ∃ y, segName n = y := ⟨_, rfl⟩
  rw [hsn2] at hsn HSL
  have HSN := Lib.hid hsn2
  have hdl : dg.length ≤ 99 := by have h1 := HSL.out; have h2 := HSN.out; unfold segName at h2; rw [← h2, List.length_cons, HDG.out] at h1; omega
  clear hdg hsn2
  have HHL := Lib.hid (headB_len (n := n) (by omega))
  obtain ⟨hb, hhb⟩ : ∃ y, headB n = y := ⟨_, rfl⟩
  have HHB := Lib.hid hhb
  rw [hhb] at HHL ⊢
  clear hhb
  obtain ⟨m0, a0, n0, c0, la0, dn0, rfl⟩ := h.parts
  have S0 := Lib.hid (Stt.new h)
  have HX := Lib.hid hX
  clear h hX
  obtain ⟨w0, hw0⟩ : ∃ x, (w.alloc (DB (.int .i64 m0) (.slice a0 n0 c0) (.int .i64 la0) (.bool dn0))).alloc (DB (.int .i64 0) (.slice none 0 0) (.int .i64 0) (.bool false)) = x := ⟨_, rfl⟩
  rw [hw0] at S0
  unfold DB at hw0
  go_enter Tryz.func69, Tryz.ntmps69
  go_upto_region 1 with fail
  clear hw0
  have HE := dHead_ok n hn w0
  rw [HHB.out] at HE
  have HE := Lib.hid HE
  go_wp2_with fail
  refine HE.out.mono ?_
  rintro e w01 ⟨hv, rfl, hb1, nn, -⟩
  obtain ⟨ha, hc, rfl, -⟩ := hb1.len
  have HBB := Lib.hid hb1.rd
  have S00 := Lib.hid (S0.out.on nn)
  clear hb1 nn HE
  have HFR : Hid (d.fresh sn hb = (d', x)) := Lib.hid (by rw [← HSN.out, ← HHB.out]; exact HR.out)
  go_upto_region 2 with fail
  go_cut [9] (fun t wx => ∃ (m : Int) (a : Option Addr) (nn c : Nat) (la : Int) (dn : Bool), t = .int .i64 x ∧ Stt X w wx d' m a nn c la dn)
  case first =>
    obtain ⟨b0, b1, b2, b3, -⟩ := S00.out.cells
    have DK := Lib.hid (fun W => dDec_ok W n (by omega))
    rw [HDG.out] at DK
    have FK := Lib.hid (fun W' (hW : Nw w01 W') => dFile_ok (s := sn) (S00.out.on hW).rd (S00.out.on hW).fresh (by have := HSL.out; omega) (HBB.out.nw hW) (by have := HHL.out; omega) HFR.out)
    go_region_with (first | (refine (DK.out _).mono ?_; rintro e y1 ⟨rfl, rfl⟩) | (refine (FK.out _ ((Nw.refl w01).drew)).mono ?_; rintro e y2 ⟨m1, a1, n1, c1, la1, dn1, rfl, dd, nn⟩; have SN := (S00.out.on ((Nw.refl w01).drew)).on nn; obtain ⟨p0, p1, p2, p3, g0, g1, g2, g3⟩ := SN.cells))
    all_goals
      go_wp2_with fail
      go_meet
      case rel =>
        obtain ⟨w9, hw9, s9, -⟩ := (S00.out.on ((Nw.refl w01).drew)).step dd nn
        exact ⟨m1, a1, n1, c1, la1, dn1, rfl, by rw [hw9]; exact s9⟩
  case rest =>
    obtain ⟨m1, a1, n1, c1, la1, dn1, rfl, s1⟩ := hcut
    have S1 := Lib.hid s1
    clear s1
    obtain ⟨b0, b1, b2, b3, -⟩ := S1.out.cells
    obtain ⟨u0, u1, u2, u3, r0, r1, r2, r3, f0, f1, f2, f3⟩ := S1.out.rcells
    go_wp2
    obtain ⟨w9, hw9, D9, N9, -, B9⟩ := S1.out.fin HX.out
    rw [hw9]
    obtain ⟨e0, e1, e2, e3, -⟩ := box_cells B9
    exact bodyPost_ret (v := .tuple #[.agg #[.int .i64 m1, .slice a1 n1 c1, .int .i64 la1, .bool dn1], .int .i64 hb.length, .int .i64 x]) (by simp [results, Tryz.results69, go_sem, e0, e1, e2, e3]) rfl ⟨m1, a1, n1, c1, la1, dn1, rfl, D9, N9⟩
end
end Go.Proofs.YtkbenkldfehhlaaGreatDoor

namespace Go.Proofs.YtkbenkldfehhlaaGreatDoor
open Go Go.RowKit Go.Sort
set_option maxRecDepth 100000
set_option maxHeartbeats 1600000
def LB (u0 u1 u2 u3 u4 u5 : Value) : Obj := .cells #[u0, u1, u2, u3, u4, u5] 49 (0, 0)
def logB (L : Lg) (pa : Option Addr) (pc : Nat) : Obj := LB (.int .i64 L.size) (.slice pa L.l.length pc) (.int .i64 L.n) (.int .i64 L.acked) (.int .i64 L.bytes) (.bool L.over)
def LogV (X : Nat → Prop) (w : World) (v : Value) (L : Lg) : Prop := ∃ (pa : Option Addr) (pc : Nat), v = .agg #[.int .i64 L.size, .slice pa L.l.length pc, .int .i64 L.n, .int .i64 L.acked, .int .i64 L.bytes, .bool L.over] ∧ Pcs w (.slice pa L.l.length pc) L.l ∧ (∀ g, (Value.slice pa L.l.length pc).ownBlock = some g → X g)
section
variable {X Y : Nat → Prop} {d d' : Dsk} {v : Value} {w wk w' : World} {m la m' la' : Int} {a a' pa pa' : Option Addr} {n c n' c' pc pc' pl pd rd rl K : Nat} {dn dn' : Bool} {L L' : Lg}
theorem LogV.nw (h : LogV X w v L) (hw : Nw w w') : LogV X w' v L := by
  obtain ⟨pa, pc, h1, h2, h3⟩ := h
  exact ⟨pa, pc, h1, h2.nw hw, h3⟩
theorem lb_cells {p : Nat} {u0 u1 u2 u3 u4 u5 : Value} (h : w.heap[p]? = some (LB u0 u1 u2 u3 u4 u5)) :
    (w.cell? ⟨p, 0, none⟩ = some u0 ∧ w.cell? ⟨p, 1, none⟩ = some u1 ∧ w.cell? ⟨p, 2, none⟩ = some u2 ∧ w.cell? ⟨p, 3, none⟩ = some u3 ∧ w.cell? ⟨p, 4, none⟩ = some u4 ∧ w.cell? ⟨p, 5, none⟩ = some u5) ∧
    w.frozen? ⟨p, 0, none⟩ = false ∧ w.frozen? ⟨p, 1, none⟩ = false ∧ w.frozen? ⟨p, 2, none⟩ = false ∧ w.frozen? ⟨p, 3, none⟩ = false ∧ w.frozen? ⟨p, 4, none⟩ = false ∧ w.frozen? ⟨p, 5, none⟩ = false := by
  unfold LB at h
  simp [World.cell?, World.frozen?, h]
structure Sl (X : Nat → Prop) (w wk : World) (pl pd rd rl K : Nat) (d : Dsk) (m : Int) (a : Option Addr) (n c : Nat) (la : Int) (dn : Bool) (L : Lg) (pa : Option Addr) (pc : Nat) : Prop where
  nw : Nw w wk
  lo : w.heap.size ≤ pl ∧ w.heap.size ≤ pd ∧ w.heap.size ≤ rd ∧ w.heap.size ≤ rl
  hi : pl < K ∧ pd < K ∧ rd < K ∧ rl < K
  kk : K ≤ wk.heap.size
  ne : pl ≠ pd ∧ pl ≠ rd ∧ pl ≠ rl ∧ pd ≠ rd ∧ pd ≠ rl ∧ rd ≠ rl
  bl : wk.heap[pl]? = some (logB L pa pc)
  bd : wk.heap[pd]? = some (DB (.int .i64 m) (.slice a n c) (.int .i64 la) (.bool dn))
  brd : ∃ u0 u1 u2 u3, wk.heap[rd]? = some (DB u0 u1 u2 u3)
  brl : ∃ u0 u1 u2 u3 u4 u5, wk.heap[rl]? = some (LB u0 u1 u2 u3 u4 u5)
  rdk : RD (fun k => X k ∧ k < w.heap.size ∨ K ≤ k) wk (.agg #[.int .i64 m, .slice a n c, .int .i64 la, .bool dn]) d
  pcs : Pcs wk (.slice pa L.l.length pc) L.l
  own : ∀ g, (Value.slice pa L.l.length pc).ownBlock = some g → (X g ∧ g < w.heap.size ∨ K ≤ g)
theorem Sl.on (h : Sl X w wk pl pd rd rl K d m a n c la dn L pa pc) (hn : Nw wk w') : Sl X w w' pl pd rd rl K d m a n c la dn L pa pc := by
  obtain ⟨u0, u1, u2, u3, hr⟩ := h.brd
  obtain ⟨v0, v1, v2, v3, v4, v5, hq⟩ := h.brl
  exact ⟨h.nw.trans hn, h.lo, h.hi, Nat.le_trans h.kk hn.size, h.ne, hn.at_ h.bl, hn.at_ h.bd, ⟨_, _, _, _, hn.at_ hr⟩, ⟨_, _, _, _, _, _, hn.at_ hq⟩, h.rdk.nw hn, h.pcs.nw hn, h.own⟩
theorem Sl.fresh (h : Sl X w wk pl pd rd rl K d m a n c la dn L pa pc) : ∀ k, wk.heap.size ≤ k → (X k ∧ k < w.heap.size ∨ K ≤ k) := fun k hk => .inr (Nat.le_trans h.kk hk)
theorem Sl.put {S : Nat → Prop} (h : Sl X w wk pl pd rd rl K d m a n c la dn L pa pc) (hO : Only S wk w') (hS : ∀ k, S k → k = pl ∨ k = pd ∨ k = rd ∨ k = rl) :
    Nw w w' ∧ K ≤ w'.heap.size ∧ RD (fun k => X k ∧ k < w.heap.size ∨ K ≤ k) w' (.agg #[.int .i64 m, .slice a n c, .int .i64 la, .bool dn]) d ∧ Pcs w' (.slice pa L.l.length pc) L.l := by
  have hlo := h.lo
  have hhi := h.hi
  have hno : ∀ k, (X k ∧ k < w.heap.size ∨ K ≤ k) → ¬ S k := fun k hk hs => by rcases hS k hs with e | e | e | e <;> subst e <;> omega
  refine ⟨h.nw.trans' hO (fun k hk hs => by rcases hS k hs with e | e | e | e <;> subst e <;> omega), Nat.le_trans h.kk hO.size, h.rdk.put hO (fun k hk _ => hno k hk), SrcV.kept (X := fun k => ¬ S k) h.pcs.src ⟨hO.size, fun k hk hl => hO.block k hl hk⟩ (fun _ g hg => hno g (h.own g hg)), h.pcs.ok⟩
theorem Sl.step (h : Sl X w wk pl pd rd rl K d m a n c la dn L pa pc) (hd : RD (fun k => X k ∧ k < w.heap.size ∨ K ≤ k) w' (.agg #[.int .i64 m', .slice a' n' c', .int .i64 la', .bool dn']) d') (hn : Nw wk w') :
    ∃ w2, ((((w'.setCell ⟨pd, 0, none⟩ (.int .i64 m')).setCell ⟨pd, 1, none⟩ (.slice a' n' c')).setCell ⟨pd, 2, none⟩ (.int .i64 la')).setCell ⟨pd, 3, none⟩ (.bool dn')) = w2 ∧ Sl X w w2 pl pd rd rl K d' m' a' n' c' la' dn' L pa pc ∧ Only (fun k => k = pd) w' w2 := by
  have h2 := h.on hn
  have hO := only_set4 w' pd (.int .i64 m') (.slice a' n' c') (.int .i64 la') (.bool dn')
  obtain ⟨u0, u1, u2, u3, hr⟩ := h2.brd
  obtain ⟨v0, v1, v2, v3, v4, v5, hq⟩ := h2.brl
  obtain ⟨p1, p2, -, p4⟩ := h2.put hO (fun k hk => .inr (.inl hk))
  have hlo := h.lo
  have hhi := h.hi
  obtain ⟨e1, e2, e3, e4, e5, e6⟩ := h.ne
  exact ⟨_, rfl, ⟨p1, h.lo, h.hi, p2, h.ne, hO.at_ h2.bl e1, heap_set4 h2.bd _ _ _ _, ⟨_, _, _, _, hO.at_ hr (Ne.symm e4)⟩, ⟨_, _, _, _, _, _, hO.at_ hq (Ne.symm e5)⟩,
    hd.put hO (fun k hk _ e => by subst e; omega), p4, h.own⟩, hO⟩
theorem Sl.field (h : Sl X w wk pl pd rd rl K d m a n c la dn L pa pc) (j : Nat) (u : Value) (hl : L'.l = L.l) (hb : (wk.setCell ⟨pl, j, none⟩ u).heap[pl]? = some (logB L' pa pc)) :
    Sl X w (wk.setCell ⟨pl, j, none⟩ u) pl pd rd rl K d m a n c la dn L' pa pc := by
  have hO : Only (fun k => k = pl) wk (wk.setCell ⟨pl, j, none⟩ u) := Only.setCell (S := fun k => k = pl) (Only.refl wk) (fun _ => rfl) u
  obtain ⟨u0, u1, u2, u3, hr⟩ := h.brd
  obtain ⟨v0, v1, v2, v3, v4, v5, hq⟩ := h.brl
  obtain ⟨p1, p2, p3, p4⟩ := h.put hO (fun k hk => .inl hk)
  obtain ⟨e1, e2, e3, e4, e5, e6⟩ := h.ne
  exact ⟨p1, h.lo, h.hi, p2, h.ne, hb, hO.at_ h.bd (Ne.symm e1), ⟨_, _, _, _, hO.at_ hr (Ne.symm e2)⟩, ⟨_, _, _, _, _, _, hO.at_ hq (Ne.symm e3)⟩, p3, by rw [hl]; exact p4, by rw [hl]; exact h.own⟩
theorem Sl.pieces (h : Sl X w wk pl pd rd rl K d m a n c la dn L pa pc) (hb : (wk.setCell ⟨pl, 1, none⟩ (.slice pa' L'.l.length pc')).heap[pl]? = some (logB L' pa' pc')) (hp : Pcs wk (.slice pa' L'.l.length pc') L'.l) (ho : ∀ g, (Value.slice pa' L'.l.length pc').ownBlock = some g → (X g ∧ g < w.heap.size ∨ K ≤ g)) :
    Sl X w (wk.setCell ⟨pl, 1, none⟩ (.slice pa' L'.l.length pc')) pl pd rd rl K d m a n c la dn L' pa' pc' := by
  have hO : Only (fun k => k = pl) wk (wk.setCell ⟨pl, 1, none⟩ (.slice pa' L'.l.length pc')) := Only.setCell (S := fun k => k = pl) (Only.refl wk) (fun _ => rfl) _
  obtain ⟨u0, u1, u2, u3, hr⟩ := h.brd
  obtain ⟨v0, v1, v2, v3, v4, v5, hq⟩ := h.brl
  obtain ⟨p1, p2, p3, -⟩ := h.put hO (fun k hk => .inl hk)
  obtain ⟨e1, e2, e3, e4, e5, e6⟩ := h.ne
  have hlo := h.lo
  have hhi := h.hi
  exact ⟨p1, h.lo, h.hi, p2, h.ne, hb, hO.at_ h.bd (Ne.symm e1), ⟨_, _, _, _, hO.at_ hr (Ne.symm e2)⟩, ⟨_, _, _, _, _, _, hO.at_ hq (Ne.symm e3)⟩, p3, ⟨SrcV.kept (X := fun k => ¬ k = pl) hp.src ⟨hO.size, fun k hk hl => hO.block k hl hk⟩ (fun _ g hg e => by have := ho g hg; subst e; omega), hp.ok⟩, ho⟩
theorem only_set6 (w1 : World) (p : Nat) (a b c d e f : Value) : Only (fun k => k = p) w1 ((((((w1.setCell ⟨p, 0, none⟩ a).setCell ⟨p, 1, none⟩ b).setCell ⟨p, 2, none⟩ c).setCell ⟨p, 3, none⟩ d).setCell ⟨p, 4, none⟩ e).setCell ⟨p, 5, none⟩ f) := by
  refine Only.setCell (S := fun k => k = p) (p := ⟨p, 5, none⟩) ?_ (fun _ => rfl) f
  refine Only.setCell (S := fun k => k = p) (p := ⟨p, 4, none⟩) ?_ (fun _ => rfl) e
  exact only_set4 w1 p a b c d
theorem heap_set6 {w1 : World} {p : Nat} {u0 u1 u2 u3 u4 u5 : Value} (h : w1.heap[p]? = some (LB u0 u1 u2 u3 u4 u5)) (a b c d e f : Value) :
    ((((((w1.setCell ⟨p, 0, none⟩ a).setCell ⟨p, 1, none⟩ b).setCell ⟨p, 2, none⟩ c).setCell ⟨p, 3, none⟩ d).setCell ⟨p, 4, none⟩ e).setCell ⟨p, 5, none⟩ f).heap[p]? = some (LB a b c d e f) := by
  have := heap_setCell_at (heap_setCell_at (heap_setCell_at (heap_setCell_at (heap_setCell_at (heap_setCell_at h 0 a) 1 b) 2 c) 3 d) 4 e) 5 f
  simpa [LB] using this
theorem Sl.fin (hX : ∀ k, w.heap.size ≤ k → X k) (h : Sl X w wk pl pd rd rl K d m a n c la dn L pa pc) :
    ∃ w4, ((((((((((wk.setCell ⟨rd, 0, none⟩ (.int .i64 m)).setCell ⟨rd, 1, none⟩ (.slice a n c)).setCell ⟨rd, 2, none⟩ (.int .i64 la)).setCell ⟨rd, 3, none⟩ (.bool dn)).setCell ⟨rl, 0, none⟩ (.int .i64 L.size)).setCell ⟨rl, 1, none⟩ (.slice pa L.l.length pc)).setCell ⟨rl, 2, none⟩ (.int .i64 L.n)).setCell ⟨rl, 3, none⟩ (.int .i64 L.acked)).setCell ⟨rl, 4, none⟩ (.int .i64 L.bytes)).setCell ⟨rl, 5, none⟩ (.bool L.over)) = w4 ∧
      RD X w4 (.agg #[.int .i64 m, .slice a n c, .int .i64 la, .bool dn]) d ∧ LogV X w4 (.agg #[.int .i64 L.size, .slice pa L.l.length pc, .int .i64 L.n, .int .i64 L.acked, .int .i64 L.bytes, .bool L.over]) L ∧ Nw w w4 ∧
      w4.heap[rd]? = some (DB (.int .i64 m) (.slice a n c) (.int .i64 la) (.bool dn)) ∧ w4.heap[rl]? = some (logB L pa pc) := by
  obtain ⟨u0, u1, u2, u3, hr⟩ := h.brd
  obtain ⟨v0, v1, v2, v3, v4, v5, hq⟩ := h.brl
  obtain ⟨e1, e2, e3, e4, e5, e6⟩ := h.ne
  have hO1 := only_set4 wk rd (.int .i64 m) (.slice a n c) (.int .i64 la) (.bool dn)
  have hB1 := heap_set4 hr (.int .i64 m) (.slice a n c) (.int .i64 la) (.bool dn)
  have hQ1 := hO1.at_ hq (Ne.symm e6)
  generalize ((((wk.setCell ⟨rd, 0, none⟩ (.int .i64 m)).setCell ⟨rd, 1, none⟩ (.slice a n c)).setCell ⟨rd, 2, none⟩ (.int .i64 la)).setCell ⟨rd, 3, none⟩ (.bool dn)) = w3 at hO1 hB1 hQ1 ⊢
  have hO2 := only_set6 w3 rl (.int .i64 L.size) (.slice pa L.l.length pc) (.int .i64 L.n) (.int .i64 L.acked) (.int .i64 L.bytes) (.bool L.over)
  have hO : Only (fun k => k = rd ∨ k = rl) wk _ := (hO1.mono (fun k _ hk => .inl hk)).trans (hO2.mono (fun k _ hk => .inr hk))
  obtain ⟨p1, p2, p3, p4⟩ := h.put hO (fun k hk => .inr (.inr hk))
  have hlo := h.lo
  have hhi := h.hi
  refine ⟨_, rfl, p3.mono (fun k hk => ?_), ⟨pa, pc, rfl, p4, fun g hg => ?_⟩, p1, hO2.at_ hB1 e6, heap_set6 hQ1 _ _ _ _ _ _⟩
  · rcases hk with hk | hk
    · exact hk.1
    · exact hX k (by omega)
  · rcases h.own g hg with hk | hk
    · exact hk.1
    · exact hX g (by omega)
end
end Go.Proofs.YtkbenkldfehhlaaGreatDoor

namespace Go.Proofs.YtkbenkldfehhlaaGreatDoor
open Go Go.RowKit Go.Sort
set_option maxRecDepth 100000
set_option maxHeartbeats 3200000
section
variable {X Y : Nat → Prop} {d d' : Dsk} {v lv : Value} {w wk w' : World} {L L' : Lg}
def RDL (X : Nat → Prop) (w : World) (d' : Dsk) (L' : Lg) (x : Int) (e : Ending) (w' : World) : Prop :=
  ∃ (m : Int) (a : Option Addr) (n c : Nat) (la : Int) (dn : Bool) (pa : Option Addr) (pc : Nat), e = .returned (.tuple #[.agg #[.int .i64 m, .slice a n c, .int .i64 la, .bool dn], .agg #[.int .i64 L'.size, .slice pa L'.l.length pc, .int .i64 L'.n, .int .i64 L'.acked, .int .i64 L'.bytes, .bool L'.over], .int .i64 x]) ∧
    RD X w' (.agg #[.int .i64 m, .slice a n c, .int .i64 la, .bool dn]) d' ∧ LogV X w' (.agg #[.int .i64 L'.size, .slice pa L'.l.length pc, .int .i64 L'.n, .int .i64 L'.acked, .int .i64 L'.bytes, .bool L'.over]) L' ∧ Nw w w'
theorem four_boxes (w : World) (A B C D : Obj) :
    let W := (((w.alloc A).alloc B).alloc C).alloc D
    Nw w W ∧ W.heap[w.heap.size]? = some A ∧ W.heap[w.heap.size + 1]? = some B ∧ W.heap[w.heap.size + 1 + 1]? = some C ∧ W.heap[w.heap.size + 1 + 1 + 1]? = some D ∧ W.heap.size = w.heap.size + 4 := by
  obtain ⟨h1, h2, h3, h4⟩ := boxes_in w A B
  obtain ⟨g1, g2, g3, g4⟩ := boxes_in ((w.alloc A).alloc B) C D
  refine ⟨h1.trans g1, g1.at_ h2, g1.at_ h3, ?_, ?_, by rw [g4, h4]⟩
  · rw [h4] at g2; exact g2
  · rw [h4] at g3; exact g3
theorem Sl.new (hne : L.l ≠ []) {m la : Int} {a pa : Option Addr} {n c pc : Nat} {dn : Bool} (h : RD X w (.agg #[.int .i64 m, .slice a n c, .int .i64 la, .bool dn]) d) (hp : Pcs w (.slice pa L.l.length pc) L.l) (ho : ∀ g, (Value.slice pa L.l.length pc).ownBlock = some g → X g) :
    Sl X w ((((w.alloc (logB L pa pc)).alloc (DB (.int .i64 m) (.slice a n c) (.int .i64 la) (.bool dn))).alloc (DB (.int .i64 0) (.slice none 0 0) (.int .i64 0) (.bool false))).alloc (LB (.int .i64 0) (.slice none 0 0) (.int .i64 0) (.int .i64 0) (.int .i64 0) (.bool false)))
      w.heap.size (w.heap.size + 1) (w.heap.size + 1 + 1) (w.heap.size + 1 + 1 + 1) (w.heap.size + 4) d m a n c la dn L pa pc := by
  obtain ⟨h1, h2, h3, h4, h5, h6⟩ := four_boxes w (logB L pa pc) (DB (.int .i64 m) (.slice a n c) (.int .i64 la) (.bool dn)) (DB (.int .i64 0) (.slice none 0 0) (.int .i64 0) (.bool false)) (LB (.int .i64 0) (.slice none 0 0) (.int .i64 0) (.int .i64 0) (.int .i64 0) (.bool false))
  have hlt : ∀ g, (Value.slice pa L.l.length pc).ownBlock = some g → g < w.heap.size := fun g hg => by
    obtain ⟨-, ⟨b, -, e⟩ | ⟨g', o, cp, e, -, -, hl, -⟩⟩ := hp.src
    · exact absurd (List.eq_nil_of_length_eq_zero e) hne
    · rw [e] at hg
      have : g' = g := by simpa [Value.ownBlock] using hg
      omega
  exact ⟨h1, by omega, by omega, by rw [h6]; omega, by omega, h2, h3, ⟨_, _, _, _, h4⟩, ⟨_, _, _, _, _, _, h5⟩, (h.narrow.nw h1).mono (fun k hk => .inl hk), hp.nw h1, fun g hg => .inl ⟨ho g hg, hlt g hg⟩⟩
theorem dLSync_ok (h : RD X w v d) (hl : LogV X w lv L) (hne : L.l ≠ []) (hX : ∀ k, w.heap.size ≤ k → X k) :
    Calls Tryz.prog 31 #[lv, v] w (RDL X w (L.sync d).d (L.sync d).L (L.sync d).e) := by
  obtain ⟨m0, a0, n0, c0, la0, dn0, rfl⟩ := h.parts
  obtain ⟨pa0, pc0, rfl, hp, ho⟩ := hl
  have S0 := Lib.hid (Sl.new hne h hp ho)
  have HX := Lib.hid hX
  clear h hX
  obtain ⟨R, hR⟩ : ∃ r, L.sync d = r := ⟨_, rfl⟩
  have HR := Lib.hid hR
  rw [hR]
  clear hR
  obtain ⟨w0, hw0⟩ : ∃ x, (((w.alloc (logB L pa0 pc0)).alloc (DB (.int .i64 m0) (.slice a0 n0 c0) (.int .i64 la0) (.bool dn0))).alloc (DB (.int .i64 0) (.slice none 0 0) (.int .i64 0) (.bool false))).alloc (LB (.int .i64 0) (.slice none 0 0) (.int .i64 0) (.int .i64 0) (.int .i64 0) (.bool false)) = x := ⟨_, rfl⟩
  rw [hw0] at S0
  unfold logB LB DB at hw0
  go_enter Tryz.func31, Tryz.ntmps31
  go_upto_region 1 with fail
  clear hw0
  generalize w.heap.size + 4 = K at S0
  generalize w.heap.size + 1 + 1 + 1 = rl at S0 ⊢
  generalize w.heap.size + 1 + 1 = rd at S0 ⊢
  generalize w.heap.size + 1 = pd at S0 ⊢
  generalize w.heap.size = pl at S0 ⊢
  cases hov : L.over
  case true =>
    have E : R = ⟨d, L, 16⟩ := by rw [← HR.out]; unfold Lg.sync; rw [hov]; rfl
    have HE := Lib.hid E
    clear E
    obtain ⟨⟨q0, q1, q2, q3, q4, q5⟩, -⟩ := lb_cells S0.out.bl
    rw [hov] at q5
    obtain ⟨b0, b1, b2, b3, -⟩ := box_cells S0.out.bd
    obtain ⟨u0, u1, u2, u3, hr⟩ := S0.out.brd
    obtain ⟨v0, v1, v2, v3, v4, v5, hq⟩ := S0.out.brl
    obtain ⟨r0, r1, r2, r3, f0, f1, f2, f3⟩ := box_cells hr
    obtain ⟨⟨s0, s1, s2, s3, s4, s5⟩, g0, g1, g2, g3, g4, g5⟩ := lb_cells hq
    obtain ⟨e1, e2, e3, e4, e5, e6⟩ := S0.out.ne
    clear hr hq
    go_upto_region 2 with fail
    go_region_with fail
    all_goals
      go_wp2
      obtain ⟨w9, hw9, D9, V9, N9, BD9, BL9⟩ := S0.out.fin HX.out
      rw [hov] at hw9
      rw [hw9]
      have ND := (Nw.refl w9).drew
      obtain ⟨e0, e1, e2, e3, -⟩ := box_cells BD9
      obtain ⟨⟨j0, j1, j2, j3, j4, j5⟩, -⟩ := lb_cells BL9
      obtain ⟨k0, k1, k2, k3, -⟩ := box_cells (ND.at_ BD9)
      obtain ⟨⟨i0, i1, i2, i3, i4, i5⟩, -⟩ := lb_cells (ND.at_ BL9)
      refine bodyPost_ret (v := .tuple #[.agg #[.int .i64 m0, .slice a0 n0 c0, .int .i64 la0, .bool dn0], .agg #[.int .i64 L.size, .slice pa0 L.l.length pc0, .int .i64 L.n, .int .i64 L.acked, .int .i64 L.bytes, .bool L.over], .int .i64 16]) (by simp [results, Tryz.results31, go_sem, e0, e1, e2, e3, j0, j1, j2, j3, j4, j5, k0, k1, k2, k3, i0, i1, i2, i3, i4, i5]) rfl ?_
      rw [HE.out]
      first
        | exact ⟨m0, a0, n0, c0, la0, dn0, pa0, pc0, rfl, D9, V9, N9⟩
        | exact ⟨m0, a0, n0, c0, la0, dn0, pa0, pc0, rfl, D9.nw ND, V9.nw ND, N9.trans ND⟩
  case false =>
    obtain ⟨ga, gc, he0, -, -, hel⟩ := S0.out.pcs.elem
    have hlen : 0 < L.l.length := List.length_pos_iff.2 hne
    obtain ⟨g, o, hpa, hg, cn0, -⟩ := hel (L.l.length - 1) (by omega)
    injection he0 with ep _ ec
    subst ep
    subst ec
    subst hpa
    have hlast : L.l[L.l.length - 1]'(by omega) = lastP L.l := by
      unfold lastP
      rw [List.getLastD_eq_getLast?, List.getLast?_eq_getElem?, List.getElem?_eq_getElem (by omega)]
      rfl
    rw [hlast] at cn0
    have hcc := S0.out.pcs.src
    have hpc : L.l.length ≤ pc0 ∧ pc0 ≤ maxLen := by
      obtain ⟨-, ⟨b, -, e⟩ | ⟨g', o', cp, e, h1, h2, -⟩⟩ := hcc
      · omega
      · injection e with _ _ e3
        omega
    unfold maxLen at hpc
    obtain ⟨hpc1, hpc2⟩ := hpc
    obtain ⟨d2, x2, hsy⟩ : ∃ d2 x2, d.sync (lastP L.l).name = (d2, x2) := ⟨_, _, rfl⟩
    have HSY := Lib.hid hsy
    obtain ⟨pn, hpn⟩ : ∃ y, (lastP L.l).name = y := ⟨_, rfl⟩
    rw [hpn] at cn0 hsy
    have HS2 := Lib.hid hsy
    have C0 := Lib.hid cn0
    have hj : IntKind.i64.wrap ((L.l.length : Int) - 1) = ((L.l.length - 1 : Nat) : Int) := by rw [show ((L.l.length : Int) - 1) = ((L.l.length - 1 : Nat) : Int) by omega]; exact IntWalk.i64_in _ (by omega)
    clear hel hlast hcc cn0 hsy
    obtain ⟨⟨q0, q1, q2, q3, q4, q5⟩, -⟩ := lb_cells S0.out.bl
    rw [hov] at q5
    obtain ⟨b0, b1, b2, b3, -⟩ := box_cells S0.out.bd
    go_upto_region 3 with fail
    go_cut [7] (fun t wx => ∃ (m1 : Int) (a1 : Option Addr) (n1 c1 : Nat) (la1 : Int) (dn1 : Bool), t = .int .i64 x2 ∧ Sl X w wx pl pd rd rl K d2 m1 a1 n1 c1 la1 dn1 L (some ⟨g, o, none⟩) pc0)
    case first =>
      have cn0 := C0.out
      have SY := Lib.hid (fun W' (hW : Nw w0 W') => (S0.out.on hW).rdk.sync (S0.out.on hW).fresh HS2.out)
      have hk0 : (0 : Int) ≤ ((L.l.length - 1 : Nat) : Int) := by omega
      have hk1 : ((L.l.length - 1 : Nat) : Int) < (L.l.length : Int) := by omega
      go_region_with (refine (SY.out _ ((Nw.refl w0).drew)).mono ?_; rintro e y1 ⟨m1, a1, n1, c1, la1, dn1, rfl, dd, nn⟩; have SN := (S0.out.on ((Nw.refl w0).drew)).on nn; obtain ⟨p0, p1, p2, p3, g0, g1, g2, g3⟩ := box_cells SN.bd)
      all_goals
        go_wp2_with fail
        go_meet
        case rel =>
          obtain ⟨w9, hw9, s9, -⟩ := (S0.out.on ((Nw.refl w0).drew)).step dd nn
          exact ⟨m1, a1, n1, c1, la1, dn1, rfl, by rw [hw9]; exact s9⟩
    case rest =>
      obtain ⟨m1, a1, n1, c1, la1, dn1, rfl, s1⟩ := hcut
      have S1 := Lib.hid s1
      clear s1 q0 q1 q2 q3 q4 q5 b0 b1 b2 b3
      obtain ⟨⟨q0, q1, q2, q3, q4, q5⟩, h0, h1, h2, h3, h4, h5⟩ := lb_cells S1.out.bl
      rw [hov] at q5
      by_cases hx : x2 = 0
      case neg =>
        have qx : (x2 == 0) = false := by simpa using hx
        have E : R = ⟨d2, { L with over := true }, x2⟩ := by rw [← HR.out]; unfold Lg.sync; rw [hov, HSY.out]; simp [hx]
        have HE := Lib.hid E
        clear E hx
        obtain ⟨w2, hw2⟩ : ∃ y, wc.setCell ⟨pl, 5, none⟩ (.bool true) = y := ⟨_, rfl⟩
        have S2 := Lib.hid (hw2 ▸ S1.out.field (L' := { L with over := true }) 5 (.bool true) rfl (by have := heap_setCell_at S1.out.bl 5 (.bool true); simpa [logB, LB] using this))
        go_upto_region 6 with fail
        (try rw [hw2])
        clear hw2 q0 q1 q2 q3 q4 q5 h0 h1 h2 h3 h4 h5
        obtain ⟨⟨q0, q1, q2, q3, q4, q5⟩, -⟩ := lb_cells S2.out.bl
        obtain ⟨b0, b1, b2, b3, -⟩ := box_cells S2.out.bd
        obtain ⟨u0, u1, u2, u3, hr⟩ := S2.out.brd
        obtain ⟨v0, v1, v2, v3, v4, v5, hq⟩ := S2.out.brl
        obtain ⟨r0, r1, r2, r3, f0, f1, f2, f3⟩ := box_cells hr
        obtain ⟨⟨s0, s1, s2, s3, s4, s5⟩, g0, g1, g2, g3, g4, g5⟩ := lb_cells hq
        obtain ⟨e1, e2, e3, e4, e5, e6⟩ := S2.out.ne
        clear hr hq
        dsimp only at q0 q1 q2 q3 q4 q5
        go_region_with fail
        all_goals
          go_wp2
          obtain ⟨w9, hw9, D9, V9, N9, BD9, BL9⟩ := S2.out.fin HX.out
          dsimp only at hw9 V9
          rw [hw9]
          have ND := (Nw.refl w9).drew
          obtain ⟨e0, e1, e2, e3, -⟩ := box_cells BD9
          obtain ⟨⟨j0, j1, j2, j3, j4, j5⟩, -⟩ := lb_cells BL9
          obtain ⟨k0, k1, k2, k3, -⟩ := box_cells (ND.at_ BD9)
          obtain ⟨⟨i0, i1, i2, i3, i4, i5⟩, -⟩ := lb_cells (ND.at_ BL9)
          dsimp only at j0 j1 j2 j3 j4 j5 i0 i1 i2 i3 i4 i5
          refine bodyPost_ret (v := .tuple #[.agg #[.int .i64 m1, .slice a1 n1 c1, .int .i64 la1, .bool dn1], .agg #[.int .i64 L.size, .slice (some ⟨g, o, none⟩) L.l.length pc0, .int .i64 L.n, .int .i64 L.acked, .int .i64 L.bytes, .bool true], .int .i64 x2]) (by simp [results, Tryz.results31, go_sem, e0, e1, e2, e3, j0, j1, j2, j3, j4, j5, k0, k1, k2, k3, i0, i1, i2, i3, i4, i5]) rfl ?_
          rw [HE.out]
          first
            | exact ⟨m1, a1, n1, c1, la1, dn1, (some ⟨g, o, none⟩), pc0, rfl, D9, V9, N9⟩
            | exact ⟨m1, a1, n1, c1, la1, dn1, (some ⟨g, o, none⟩), pc0, rfl, D9.nw ND, V9.nw ND, N9.trans ND⟩
      case pos =>
        subst hx
        have E : R = ⟨d2, ⟨L.size, L.l, L.n, L.n, L.bytes, false⟩, 0⟩ := by rw [← HR.out]; unfold Lg.sync; rw [hov, HSY.out]; simp [hov]
        have HE := Lib.hid E
        clear E
        obtain ⟨w2, hw2⟩ : ∃ y, wc.setCell ⟨pl, 3, none⟩ (.int .i64 L.n) = y := ⟨_, rfl⟩
        have S2 := Lib.hid (hw2 ▸ S1.out.field (L' := ⟨L.size, L.l, L.n, L.n, L.bytes, false⟩) 3 (.int .i64 L.n) rfl (by have := heap_setCell_at S1.out.bl 3 (.int .i64 L.n); simpa [logB, LB, hov] using this))
        go_upto_region 8 with fail
        (try rw [hw2])
        clear hw2 q0 q1 q2 q3 q4 q5 h0 h1 h2 h3 h4 h5
        obtain ⟨⟨q0, q1, q2, q3, q4, q5⟩, -⟩ := lb_cells S2.out.bl
        obtain ⟨b0, b1, b2, b3, -⟩ := box_cells S2.out.bd
        obtain ⟨u0, u1, u2, u3, hr⟩ := S2.out.brd
        obtain ⟨v0, v1, v2, v3, v4, v5, hq⟩ := S2.out.brl
        obtain ⟨r0, r1, r2, r3, f0, f1, f2, f3⟩ := box_cells hr
        obtain ⟨⟨s0, s1, s2, s3, s4, s5⟩, g0, g1, g2, g3, g4, g5⟩ := lb_cells hq
        obtain ⟨e1, e2, e3, e4, e5, e6⟩ := S2.out.ne
        clear hr hq
        dsimp only at q0 q1 q2 q3 q4 q5
        go_region_with fail
        all_goals
          go_wp2
          obtain ⟨w9, hw9, D9, V9, N9, BD9, BL9⟩ := S2.out.fin HX.out
          dsimp only at hw9 V9
          rw [hw9]
          have ND := (Nw.refl w9).drew
          obtain ⟨e0, e1, e2, e3, -⟩ := box_cells BD9
          obtain ⟨⟨j0, j1, j2, j3, j4, j5⟩, -⟩ := lb_cells BL9
          obtain ⟨k0, k1, k2, k3, -⟩ := box_cells (ND.at_ BD9)
          obtain ⟨⟨i0, i1, i2, i3, i4, i5⟩, -⟩ := lb_cells (ND.at_ BL9)
          dsimp only at j0 j1 j2 j3 j4 j5 i0 i1 i2 i3 i4 i5
          refine bodyPost_ret (v := .tuple #[.agg #[.int .i64 m1, .slice a1 n1 c1, .int .i64 la1, .bool dn1], .agg #[.int .i64 L.size, .slice (some ⟨g, o, none⟩) L.l.length pc0, .int .i64 L.n, .int .i64 L.n, .int .i64 L.bytes, .bool false], .int .i64 0]) (by simp [results, Tryz.results31, go_sem, e0, e1, e2, e3, j0, j1, j2, j3, j4, j5, k0, k1, k2, k3, i0, i1, i2, i3, i4, i5]) rfl ?_
          rw [HE.out]
          first
            | exact ⟨m1, a1, n1, c1, la1, dn1, (some ⟨g, o, none⟩), pc0, rfl, D9, V9, N9⟩
            | exact ⟨m1, a1, n1, c1, la1, dn1, (some ⟨g, o, none⟩), pc0, rfl, D9.nw ND, V9.nw ND, N9.trans ND⟩
end
end Go.Proofs.YtkbenkldfehhlaaGreatDoor

namespace Go.Proofs.YtkbenkldfehhlaaGreatDoor
open Go Go.RowKit Go.Sort
set_option maxRecDepth 100000
set_option maxHeartbeats 1600000
section
variable {X : Nat → Prop} {d : Dsk} {w wk : World} {m la : Int} {a pa pa' : Option Addr} {n c pc pc' pl pd rd rl K : Nat} {dn : Bool} {L L' : Lg}
theorem Sl.log (h : Sl X w wk pl pd rd rl K d m a n c la dn L pa pc) (hp : Pcs wk (.slice pa' L'.l.length pc') L'.l) (ho : ∀ g, (Value.slice pa' L'.l.length pc').ownBlock = some g → (X g ∧ g < w.heap.size ∨ K ≤ g)) :
    ∃ w2, ((((((wk.setCell ⟨pl, 0, none⟩ (.int .i64 L'.size)).setCell ⟨pl, 1, none⟩ (.slice pa' L'.l.length pc')).setCell ⟨pl, 2, none⟩ (.int .i64 L'.n)).setCell ⟨pl, 3, none⟩ (.int .i64 L'.acked)).setCell ⟨pl, 4, none⟩ (.int .i64 L'.bytes)).setCell ⟨pl, 5, none⟩ (.bool L'.over)) = w2 ∧ Sl X w w2 pl pd rd rl K d m a n c la dn L' pa' pc' := by
  have hO := only_set6 wk pl (.int .i64 L'.size) (.slice pa' L'.l.length pc') (.int .i64 L'.n) (.int .i64 L'.acked) (.int .i64 L'.bytes) (.bool L'.over)
  have hB : _ = some (logB L' pa' pc') := heap_set6 h.bl (.int .i64 L'.size) (.slice pa' L'.l.length pc') (.int .i64 L'.n) (.int .i64 L'.acked) (.int .i64 L'.bytes) (.bool L'.over)
  obtain ⟨u0, u1, u2, u3, hr⟩ := h.brd
  obtain ⟨v0, v1, v2, v3, v4, v5, hq⟩ := h.brl
  obtain ⟨p1, p2, p3, -⟩ := h.put hO (fun k hk => .inl hk)
  obtain ⟨e1, e2, e3, e4, e5, e6⟩ := h.ne
  have hlo := h.lo
  have hhi := h.hi
  exact ⟨_, rfl, ⟨p1, h.lo, h.hi, p2, h.ne, hB, hO.at_ h.bd (Ne.symm e1), ⟨_, _, _, _, hO.at_ hr (Ne.symm e2)⟩, ⟨_, _, _, _, _, _, hO.at_ hq (Ne.symm e3)⟩, p3, ⟨SrcV.kept (X := fun k => ¬ k = pl) hp.src ⟨hO.size, fun k hk hl => hO.block k hl hk⟩ (fun _ g hg e => by have := ho g hg; subst e; omega), hp.ok⟩, ho⟩⟩
end
end Go.Proofs.YtkbenkldfehhlaaGreatDoor

namespace Go.Proofs.YtkbenkldfehhlaaGreatDoor
open Go Go.RowKit Go.Sort
set_option maxRecDepth 100000
set_option maxHeartbeats 1600000
def noLg : Lg := ⟨0, [], 0, 0, 0, false⟩
section
variable {X Y : Nat → Prop} {d d' : Dsk} {v : Value} {w wk w' : World} {m la m' la' : Int} {a a' pa pa' : Option Addr} {n c n' c' pc pc' pd rd rl K : Nat} {dn dn' : Bool} {L L' : Lg}
structure St3 (X : Nat → Prop) (w wk : World) (pd rd rl K : Nat) (d : Dsk) (m : Int) (a : Option Addr) (n c : Nat) (la : Int) (dn : Bool) : Prop where
  nw : Nw w wk
  lo : w.heap.size ≤ pd ∧ w.heap.size ≤ rd ∧ w.heap.size ≤ rl
  hi : pd < K ∧ rd < K ∧ rl < K
  kk : K ≤ wk.heap.size
  ne : pd ≠ rd ∧ pd ≠ rl ∧ rd ≠ rl
  bd : wk.heap[pd]? = some (DB (.int .i64 m) (.slice a n c) (.int .i64 la) (.bool dn))
  brd : ∃ u0 u1 u2 u3, wk.heap[rd]? = some (DB u0 u1 u2 u3)
  brl : ∃ u0 u1 u2 u3 u4 u5, wk.heap[rl]? = some (LB u0 u1 u2 u3 u4 u5)
  rdk : RD (fun k => X k ∧ k < w.heap.size ∨ K ≤ k) wk (.agg #[.int .i64 m, .slice a n c, .int .i64 la, .bool dn]) d
theorem St3.on (h : St3 X w wk pd rd rl K d m a n c la dn) (hn : Nw wk w') : St3 X w w' pd rd rl K d m a n c la dn := by
  obtain ⟨u0, u1, u2, u3, hr⟩ := h.brd
  obtain ⟨v0, v1, v2, v3, v4, v5, hq⟩ := h.brl
  exact ⟨h.nw.trans hn, h.lo, h.hi, Nat.le_trans h.kk hn.size, h.ne, hn.at_ h.bd, ⟨_, _, _, _, hn.at_ hr⟩, ⟨_, _, _, _, _, _, hn.at_ hq⟩, h.rdk.nw hn⟩
theorem St3.fresh (h : St3 X w wk pd rd rl K d m a n c la dn) : ∀ k, wk.heap.size ≤ k → (X k ∧ k < w.heap.size ∨ K ≤ k) := fun k hk => .inr (Nat.le_trans h.kk hk)
theorem St3.put {S : Nat → Prop} (h : St3 X w wk pd rd rl K d m a n c la dn) (hO : Only S wk w') (hS : ∀ k, S k → k = pd ∨ k = rd ∨ k = rl) :
    Nw w w' ∧ K ≤ w'.heap.size ∧ RD (fun k => X k ∧ k < w.heap.size ∨ K ≤ k) w' (.agg #[.int .i64 m, .slice a n c, .int .i64 la, .bool dn]) d := by
  have hlo := h.lo
  have hhi := h.hi
  have hno : ∀ k, (X k ∧ k < w.heap.size ∨ K ≤ k) → ¬ S k := fun k hk hs => by rcases hS k hs with e | e | e <;> subst e <;> omega
  exact ⟨h.nw.trans' hO (fun k hk hs => by rcases hS k hs with e | e | e <;> subst e <;> omega), Nat.le_trans h.kk hO.size, h.rdk.put hO (fun k hk _ => hno k hk)⟩
theorem St3.step (h : St3 X w wk pd rd rl K d m a n c la dn) (hd : RD (fun k => X k ∧ k < w.heap.size ∨ K ≤ k) w' (.agg #[.int .i64 m', .slice a' n' c', .int .i64 la', .bool dn']) d') (hn : Nw wk w') :
    ∃ w2, ((((w'.setCell ⟨pd, 0, none⟩ (.int .i64 m')).setCell ⟨pd, 1, none⟩ (.slice a' n' c')).setCell ⟨pd, 2, none⟩ (.int .i64 la')).setCell ⟨pd, 3, none⟩ (.bool dn')) = w2 ∧ St3 X w w2 pd rd rl K d' m' a' n' c' la' dn' ∧ Only (fun k => k = pd) w' w2 := by
  have h2 := h.on hn
  have hO := only_set4 w' pd (.int .i64 m') (.slice a' n' c') (.int .i64 la') (.bool dn')
  obtain ⟨u0, u1, u2, u3, hr⟩ := h2.brd
  obtain ⟨v0, v1, v2, v3, v4, v5, hq⟩ := h2.brl
  obtain ⟨p1, p2, -⟩ := h2.put hO (fun k hk => .inl hk)
  have hlo := h.lo
  have hhi := h.hi
  obtain ⟨e1, e2, e3⟩ := h.ne
  exact ⟨_, rfl, ⟨p1, h.lo, h.hi, p2, h.ne, heap_set4 h2.bd _ _ _ _, ⟨_, _, _, _, hO.at_ hr (Ne.symm e1)⟩, ⟨_, _, _, _, _, _, hO.at_ hq (Ne.symm e2)⟩, hd.put hO (fun k hk _ e => by subst e; omega)⟩, hO⟩
theorem St3.fin (hX : ∀ k, w.heap.size ≤ k → X k) (h : St3 X w wk pd rd rl K d m a n c la dn) (hp : Pcs wk (.slice pa L.l.length pc) L.l) (ho : ∀ g, (Value.slice pa L.l.length pc).ownBlock = some g → (X g ∧ g < w.heap.size ∨ K ≤ g)) :
    ∃ w4, ((((((((((wk.setCell ⟨rd, 0, none⟩ (.int .i64 m)).setCell ⟨rd, 1, none⟩ (.slice a n c)).setCell ⟨rd, 2, none⟩ (.int .i64 la)).setCell ⟨rd, 3, none⟩ (.bool dn)).setCell ⟨rl, 0, none⟩ (.int .i64 L.size)).setCell ⟨rl, 1, none⟩ (.slice pa L.l.length pc)).setCell ⟨rl, 2, none⟩ (.int .i64 L.n)).setCell ⟨rl, 3, none⟩ (.int .i64 L.acked)).setCell ⟨rl, 4, none⟩ (.int .i64 L.bytes)).setCell ⟨rl, 5, none⟩ (.bool L.over)) = w4 ∧
      RD X w4 (.agg #[.int .i64 m, .slice a n c, .int .i64 la, .bool dn]) d ∧ LogV X w4 (.agg #[.int .i64 L.size, .slice pa L.l.length pc, .int .i64 L.n, .int .i64 L.acked, .int .i64 L.bytes, .bool L.over]) L ∧ Nw w w4 ∧
      w4.heap[rd]? = some (DB (.int .i64 m) (.slice a n c) (.int .i64 la) (.bool dn)) ∧ w4.heap[rl]? = some (logB L pa pc) := by
  obtain ⟨u0, u1, u2, u3, hr⟩ := h.brd
  obtain ⟨v0, v1, v2, v3, v4, v5, hq⟩ := h.brl
  obtain ⟨e1, e2, e3⟩ := h.ne
  have hO1 := only_set4 wk rd (.int .i64 m) (.slice a n c) (.int .i64 la) (.bool dn)
  have hB1 := heap_set4 hr (.int .i64 m) (.slice a n c) (.int .i64 la) (.bool dn)
  have hQ1 := hO1.at_ hq (Ne.symm e3)
  generalize ((((wk.setCell ⟨rd, 0, none⟩ (.int .i64 m)).setCell ⟨rd, 1, none⟩ (.slice a n c)).setCell ⟨rd, 2, none⟩ (.int .i64 la)).setCell ⟨rd, 3, none⟩ (.bool dn)) = w3 at hO1 hB1 hQ1 ⊢
  have hO2 := only_set6 w3 rl (.int .i64 L.size) (.slice pa L.l.length pc) (.int .i64 L.n) (.int .i64 L.acked) (.int .i64 L.bytes) (.bool L.over)
  have hO : Only (fun k => k = rd ∨ k = rl) wk _ := (hO1.mono (fun k _ hk => .inl hk)).trans (hO2.mono (fun k _ hk => .inr hk))
  obtain ⟨p1, p2, p3⟩ := h.put hO (fun k hk => .inr hk)
  have hlo := h.lo
  have hhi := h.hi
  refine ⟨_, rfl, p3.mono (fun k hk => ?_), ⟨pa, pc, rfl, ⟨SrcV.kept (X := fun k => ¬ (k = rd ∨ k = rl)) hp.src ⟨hO.size, fun k hk hl => hO.block k hl hk⟩ (fun _ g hg e => ?_), hp.ok⟩, fun g hg => ?_⟩, p1, hO2.at_ hB1 e3, heap_set6 hQ1 _ _ _ _ _ _⟩
  · rcases hk with hk | hk
    · exact hk.1
    · exact hX k (by omega)
  · rcases e with e | e <;> subst e <;> rcases ho _ hg with hk | hk <;> omega
  · rcases ho g hg with hk | hk
    · exact hk.1
    · exact hX g (by omega)
theorem three_boxes (w : World) (B C D : Obj) :
    let W := ((w.alloc B).alloc C).alloc D
    Nw w W ∧ W.heap[w.heap.size]? = some B ∧ W.heap[w.heap.size + 1]? = some C ∧ W.heap[w.heap.size + 1 + 1]? = some D ∧ W.heap.size = w.heap.size + 3 := by
  obtain ⟨h1, h2, h3, h4⟩ := boxes_in w B C
  have n1 := (Nw.refl ((w.alloc B).alloc C)).alloc D
  have b3 := heap_alloc_new ((w.alloc B).alloc C) D
  rw [h4] at b3
  exact ⟨h1.trans n1, n1.at_ h2, n1.at_ h3, b3, by rw [World.size_alloc, h4]⟩
theorem St3.new (h : RD X w (.agg #[.int .i64 m, .slice a n c, .int .i64 la, .bool dn]) d) :
    St3 X w (((w.alloc (DB (.int .i64 m) (.slice a n c) (.int .i64 la) (.bool dn))).alloc (DB (.int .i64 0) (.slice none 0 0) (.int .i64 0) (.bool false))).alloc (LB (.int .i64 0) (.slice none 0 0) (.int .i64 0) (.int .i64 0) (.int .i64 0) (.bool false)))
      w.heap.size (w.heap.size + 1) (w.heap.size + 1 + 1) (w.heap.size + 3) d m a n c la dn := by
  obtain ⟨h1, h2, h3, h4, h6⟩ := three_boxes w (DB (.int .i64 m) (.slice a n c) (.int .i64 la) (.bool dn)) (DB (.int .i64 0) (.slice none 0 0) (.int .i64 0) (.bool false)) (LB (.int .i64 0) (.slice none 0 0) (.int .i64 0) (.int .i64 0) (.int .i64 0) (.bool false))
  exact ⟨h1, by omega, by omega, by rw [h6]; omega, by omega, h2, ⟨_, _, _, _, h3⟩, ⟨_, _, _, _, _, _, h4⟩, (h.narrow.nw h1).mono (fun k hk => .inl hk)⟩
end
end Go.Proofs.YtkbenkldfehhlaaGreatDoor

namespace Go.Proofs.YtkbenkldfehhlaaGreatDoor
open Go Go.RowKit Go.Sort
set_option maxRecDepth 100000
set_option maxHeartbeats 1600000
section
variable {X : Nat → Prop} {d : Dsk} {w wk w' : World} {m la : Int} {a pa : Option Addr} {n c pc pl pd rd rl K : Nat} {dn : Bool} {L : Lg}
theorem pcs_lastAt {w : World} {l : List Pc} (h : Pcs w (.slice pa l.length pc) l) (hne : l ≠ []) : ∃ g o, pa = some ⟨g, o, none⟩ ∧ g < w.heap.size ∧ (0 < l.length ∧ l.length ≤ pc ∧ pc ≤ 9223372036854775807) ∧
    w.cell? ⟨g, o + (l.length - 1) * 4, none⟩ = some (.string ⟨(lastP l).name.toArray⟩) ∧ w.cell? ⟨g, o + (l.length - 1) * 4 + 1, none⟩ = some (.int .i64 (lastP l).first) ∧ w.cell? ⟨g, o + (l.length - 1) * 4 + 2, none⟩ = some (.int .i64 (lastP l).count) ∧ w.cell? ⟨g, o + (l.length - 1) * 4 + 3, none⟩ = some (.bool (lastP l).dense) ∧
    (lastP l).name.length ≤ 9223372036854775807 ∧ in64 (lastP l).first := by
  have hlen : 0 < l.length := List.length_pos_iff.2 hne
  have hok := h.ok
  obtain ⟨ga, gc, he0, e1, e2, hel⟩ := h.elem
  injection he0 with ep _ ec
  subst ep
  subst ec
  obtain ⟨g, o, hpa, hg, c0, c1, c2, c3⟩ := hel (l.length - 1) (by omega)
  have hm : lastP l ∈ l := by
    have : lastP l ∈ l.dropLast ++ [lastP l] := by simp
    rwa [← split_last hne] at this
  rw [lastP_at hne] at c0 c1 c2 c3
  unfold maxLen at e2
  exact ⟨g, o, hpa, hg, ⟨hlen, e1, by omega⟩, c0, c1, c2, c3, (hok _ hm).name, (hok _ hm).first⟩
theorem LogV.at_ {pa : Option Addr} {pc : Nat} (h : LogV X w (.agg #[.int .i64 L.size, .slice pa L.l.length pc, .int .i64 L.n, .int .i64 L.acked, .int .i64 L.bytes, .bool L.over]) L) : Pcs w (.slice pa L.l.length pc) L.l ∧ ∀ g, (Value.slice pa L.l.length pc).ownBlock = some g → X g := by
  obtain ⟨pa', pc', e, h1, h2⟩ := h
  have e2 : (Value.slice pa L.l.length pc) = .slice pa' L.l.length pc' := by
    have := congrArg (fun v => match v with | .agg #[_, s, _, _, _, _] => s | _ => .bool true) e
    exact this
  rw [e2]
  exact ⟨h1, h2⟩
theorem Sl.both {m' la' : Int} {a' pa' : Option Addr} {n' c' pc' : Nat} {dn' : Bool} {d' : Dsk} {L' : Lg} (h : Sl X w wk pl pd rd rl K d m a n c la dn L pa pc)
    (hd : RD (fun k => X k ∧ k < w.heap.size ∨ K ≤ k) w' (.agg #[.int .i64 m', .slice a' n' c', .int .i64 la', .bool dn']) d') (hp : Pcs w' (.slice pa' L'.l.length pc') L'.l) (ho : ∀ g, (Value.slice pa' L'.l.length pc').ownBlock = some g → (X g ∧ g < w.heap.size ∨ K ≤ g)) (hn : Nw wk w') :
    ∃ w3, ((((((((((w'.setCell ⟨pd, 0, none⟩ (.int .i64 m')).setCell ⟨pd, 1, none⟩ (.slice a' n' c')).setCell ⟨pd, 2, none⟩ (.int .i64 la')).setCell ⟨pd, 3, none⟩ (.bool dn')).setCell ⟨pl, 0, none⟩ (.int .i64 L'.size)).setCell ⟨pl, 1, none⟩ (.slice pa' L'.l.length pc')).setCell ⟨pl, 2, none⟩ (.int .i64 L'.n)).setCell ⟨pl, 3, none⟩ (.int .i64 L'.acked)).setCell ⟨pl, 4, none⟩ (.int .i64 L'.bytes)).setCell ⟨pl, 5, none⟩ (.bool L'.over)) = w3 ∧
      Sl X w w3 pl pd rd rl K d' m' a' n' c' la' dn' L' pa' pc' ∧ Only (fun k => k = pd ∨ k = pl) w' w3 := by
  obtain ⟨w2, e2, s2, o2⟩ := h.step hd hn
  have hlo := h.lo
  have hhi := h.hi
  have hp2 : Pcs w2 (.slice pa' L'.l.length pc') L'.l := ⟨SrcV.kept (X := fun k => ¬ k = pd) hp.src ⟨o2.size, fun k hk hl => o2.block k hl hk⟩ (fun _ g hg e => by have := ho g hg; subst e; omega), hp.ok⟩
  obtain ⟨w3, e3, s3⟩ := s2.log hp2 ho
  refine ⟨w3, by rw [e2]; exact e3, s3, ?_⟩
  rw [← e3]
  exact (o2.mono (fun k _ hk => .inl hk)).trans ((only_set6 w2 pl _ _ _ _ _ _).mono (fun k _ hk => .inr hk))
theorem Sl.up (h : Sl X w wk pl pd rd rl K d m a n c la dn L pa pc) (hk : wk.heap.size = K) (hne : L.l ≠ []) (o : Obj) : Sl X w (wk.alloc o) pl pd rd rl (K + 1) d m a n c la dn L pa pc := by
  have hn := (Nw.refl wk).alloc o
  obtain ⟨u0, u1, u2, u3, hr⟩ := h.brd
  obtain ⟨v0, v1, v2, v3, v4, v5, hq⟩ := h.brl
  have hhi := h.hi
  refine ⟨h.nw.trans hn, h.lo, by omega, by rw [World.size_alloc]; omega, h.ne, hn.at_ h.bl, hn.at_ h.bd, ⟨_, _, _, _, hn.at_ hr⟩, ⟨_, _, _, _, _, _, hn.at_ hq⟩, (h.rdk.narrow.nw hn).mono (fun k hk' => ?_), h.pcs.nw hn, fun g hg => ?_⟩
  · rcases hk'.1 with e | e
    · exact .inl e
    · have := hk'.2; omega
  · rcases h.own g hg with e | e
    · exact .inl e
    · obtain ⟨g', o', hpa, hlt, -⟩ := pcs_lastAt h.pcs hne
      subst hpa
      have : g' = g := by simpa [Value.ownBlock] using hg
      omega
theorem Sl.aside {S : Nat → Prop} (h : Sl X w wk pl pd rd rl K d m a n c la dn L pa pc) (hO : Only S wk w') (hS : ∀ k, S k → w.heap.size ≤ k ∧ k < K ∧ k ≠ pl ∧ k ≠ pd ∧ k ≠ rd ∧ k ≠ rl) : Sl X w w' pl pd rd rl K d m a n c la dn L pa pc := by
  obtain ⟨u0, u1, u2, u3, hr⟩ := h.brd
  obtain ⟨v0, v1, v2, v3, v4, v5, hq⟩ := h.brl
  have hno : ∀ k, (X k ∧ k < w.heap.size ∨ K ≤ k) → ¬ S k := fun k hk hs => by have := hS k hs; omega
  exact ⟨h.nw.trans' hO (fun k hk hs => by have := hS k hs; omega), h.lo, h.hi, Nat.le_trans h.kk hO.size, h.ne, hO.at_ h.bl (fun hs => (hS _ hs).2.2.1 rfl), hO.at_ h.bd (fun hs => (hS _ hs).2.2.2.1 rfl), ⟨_, _, _, _, hO.at_ hr (fun hs => (hS _ hs).2.2.2.2.1 rfl)⟩, ⟨_, _, _, _, _, _, hO.at_ hq (fun hs => (hS _ hs).2.2.2.2.2 rfl)⟩,
    h.rdk.put hO (fun k hk _ => hno k hk), ⟨SrcV.kept (X := fun k => ¬ S k) h.pcs.src ⟨hO.size, fun k hk hl => hO.block k hl hk⟩ (fun _ g hg => hno g (h.own g hg)), h.pcs.ok⟩, h.own⟩
structure OV (k K : Nat) (w : World) (v : Value) (n : Nat) (cs : List Value) : Prop where
  vec : Vec k w v n cs
  off : ∀ g, v.ownBlock = some g → K ≤ g
theorem OV.nw {k n : Nat} {v : Value} {cs : List Value} (h : OV k K w v n cs) (hn : Nw w w') : OV k K w' v n cs := ⟨h.vec.nw hn, h.off⟩
theorem OV.put {k n : Nat} {S : Nat → Prop} {v : Value} {cs : List Value} (h : OV k K w v n cs) (hO : Only S w w') (hS : ∀ k, S k → k < K) : OV k K w' v n cs :=
  ⟨h.vec.keep hO.size (fun g hg => hO.block g (h.vec.lt g hg) (fun hs => by have := hS g hs; have := h.off g hg; omega)), h.off⟩
theorem more_ne {L : Lg} : morePcs L ≠ [] := by simp [morePcs]
theorem another_ne (h : L.l ≠ []) : (L.another d).L.l ≠ [] := by
  unfold Lg.another
  repeat' split
  all_goals first | exact h | exact more_ne
theorem roomed_facts (h : PutOk L) (hne : L.l ≠ []) : PutOk (L.roomed d).L ∧ (L.roomed d).L.l ≠ [] := by
  unfold Lg.roomed
  split
  · have h1 := another_small L d
    have h2 := headB_len (n := L.n) (by have := h.1; omega)
    have := h.1
    have := h.2
    exact ⟨⟨by rw [h1.1]; omega, by rcases h1.2 with e | e <;> omega⟩, another_ne hne⟩
  · exact ⟨h, hne⟩
end
end Go.Proofs.YtkbenkldfehhlaaGreatDoor
