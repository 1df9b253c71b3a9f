/-
  Texts merged by a program of this claim's: AwLog, AckPlain, Firsts, Close, Open.
-/
import Derived.Test.YtoikjiojhlfgiaaGreatDoorM18
import Derived.Test.YtoikjiojhlfgiaaGreatDoorM10
import Derived.Test.YtoikjiojhlfgiaaGreatDoorM13
import Derived.Test.YtoikjiojhlfgiaaGreatDoorM1
import Derived.Carry
import Derived.ChangeCalls
import Derived.Deep.DeepHandedRow
import Derived.Lib.LaidTab
import Derived.Deep.Slices
import Derived.Test.YtoikjiojhlfgiaaGreatDoorM3
import Derived.ChangeSlices
import Derived.ChangeShapes
/-
  The chapter's examples on logs, as every statement of chapter 05 asks them.
-/
namespace Go.Proofs.YtoikjiojhlfgiaaGreatDoor
open Go Go.RowKit Go.Sort
set_option maxRecDepth 100000
set_option maxHeartbeats 1600000
section
variable {X : Nat → Prop} {w0 w w' : World} {p b : Nat} {d d' : Dsk} {L : Lg} {m : Int} {k a : Nat}
theorem HasL.len (h : HasL X w0 w p b d L) {n : Nat} (hn : L.n = n) : Calls Tryz.prog 19 #[.pointer (some ⟨p, 0, none⟩)] w fun e w' => e = .returned (.int .i64 n) ∧ w = w' := by
  obtain ⟨g, o, cap, h⟩ := h
  rw [← hn]; exact Len_ok h.mem
theorem HasL.ack (h : HasL X w0 w p b d L) {n : Nat} (hn : L.acked = n) : Calls Tryz.prog 18 #[.pointer (some ⟨p, 0, none⟩)] w fun e w' => e = .returned (.int .i64 n) ∧ w = w' := by
  obtain ⟨g, o, cap, h⟩ := h
  rw [← hn]; exact Acked_ok h.mem
theorem HasL.over (h : HasL X w0 w p b d L) {x : Bool} (hx : L.over = x) : Calls Tryz.prog 26 #[.pointer (some ⟨p, 0, none⟩)] w fun e w' => e = .returned (.bool x) ∧ w = w' := by
  obtain ⟨g, o, cap, h⟩ := h
  rw [← hx]; exact Over_ok h.mem
theorem HasL.pieces (h : HasL X w0 w p b d L) {l : List Pc} (hl : L.l = l) (hl2 : l.length ≤ 1000000) : Calls Tryz.prog 20 #[.pointer (some ⟨p, 0, none⟩)] w (CloneP w l) := by
  obtain ⟨g, o, cap, h⟩ := h
  rw [← hl]; exact Pieces_ok h.mem (by rw [hl]; exact hl2)
theorem HasL.pok (h : HasL X w0 w p b d L) : ∀ q ∈ L.l, q.Ok := by
  obtain ⟨g, o, cap, h⟩ := h
  exact h.mem.pcs.ok
theorem St.call (h : HasL X w0 w p b d L) (hs : St m d L k a) (hk : k ≤ 5) (ht : Tab w0) {v : Value} {es : List Ev} (hv : Evs w v es) :
    Calls Tryz.prog 16 #[.pointer (some ⟨p, 0, none⟩), v] w (DidL X w0 w p b (L.add d es).d (L.add d es).L (.int .i64 (L.add d es).e)) := by
  have hl : L.l = [pc0] := hs.inv.l
  refine LAppend_ok h ht ⟨by rw [hs.n]; omega, by rw [hs.bytes]; omega⟩ (by rw [hl]; decide) (by rw [hl]; decide) (by rw [hs.size]; unfold in64; omega) hv h.pok
/-- One event, as a literal lays it. -/
theorem ev_lit (w : World) (e : Ev) (he : e.Ok) (c : Nat) (hc : 1 ≤ c) (hm : c ≤ maxLen) : Evs (w.alloc (.cells (evV e).toArray 55 (0, 0))) (.slice (some ⟨w.heap.size, 0, none⟩) 1 c) [e] :=
  ⟨by have := src_lit w 55 (0, 0) 5 1 c (evV e) rfl hc hm; simpa using this, fun x hx => by rw [List.mem_singleton] at hx; subst hx; exact he⟩
theorem ev1_ok : ev1.Ok := ⟨by unfold in64 ev1; simp, by unfold in64 ev1; simp, by unfold in64 ev1; simp, by unfold in64 ev1; simp⟩
/-- The loop's states. -/
def AwS (w wr : World) (p b : Nat) (i : Nat) : Prop :=
  (i ≤ 4 ∧ ∃ d L, St 1000 d L (i + 1) 1 ∧ HasL (fun _ => False) w wr p b d L) ∨
  (i = 5 ∧ ∃ d L, L.n = 6 ∧ L.acked = 5 ∧ L.l = [⟨segName 0, 0, 5, false⟩, ⟨segName 5, 5, 0, false⟩] ∧ HasL (fun _ => False) w wr p b d L)
theorem Dec_ok (w : World) : Calls Tryz.prog 60 #[.int .i64 5] w fun e w' => e = .returned (.string ⟨#[53]⟩) ∧ w = w' := by
  go_enter Tryz.func60, Tryz.ntmps60
  go_wp2
  go_loopw [0, 3] (fun n s wr => n = .int .i64 0 ∧ s = .string ⟨#[53]⟩ ∧ w = wr) (fun _ _ _ => 0)
  case atStart => exact ⟨rfl, rfl, rfl⟩
  case round =>
    obtain ⟨rfl, rfl, rfl⟩ := hrel
    go_wp2
    go_ret
    exact ⟨rfl, rfl⟩
end
theorem infoEv : (Tryz.prog.info? 55).map (fun i => (i.zero, i.size, i.bytes)) = some (some (.agg #[.int .i64 0, .int .u8 0, .int .i64 0, .int .i64 0, .int .i64 0]), 5, 40) := by kernel_rfl
/-- Fifty events that are nothing. -/
theorem make50 (w : World) : ∃ W, (Instr.makeSlice 33 (.int .i64 50) (.int .i64 50)).run Tryz.prog w = .ok (.slice (some ⟨w.heap.size, 0, none⟩) 50 50) W ∧ Nw w W ∧ Evs W (.slice (some ⟨w.heap.size, 0, none⟩) 50 50) (List.replicate 50 Ev.zero) := by
  obtain ⟨i0, hi, hz0, hz1, hz2⟩ := info_parts infoEv
  have hr := run_makeSlice (P := Tryz.prog) w 33 55 i0 _ Tryz.underlying33 hi hz0 .i64 .i64 50 50 (by omega) (by omega) (by rw [hz1]; decide) (by rw [hz2]; decide) (by omega)
  rw [hz1] at hr
  refine ⟨_, hr, (Nw.refl w).alloc _, ⟨?_, fun e he => by rw [List.eq_of_mem_replicate he]; exact zero_ok⟩⟩
  have e : madeCells (Value.agg #[.int .i64 0, .int .u8 0, .int .i64 0, .int .i64 0, .int .i64 0]).cells ((50 : Int).toNat * 5) = ((List.replicate 50 Ev.zero).flatMap evV).toArray := by kernel_rfl
  rw [e]
  exact src_lit w 55 (0, 0) 5 50 50 ((List.replicate 50 Ev.zero).flatMap evV) (by kernel_rfl) (by omega) (by decide)
theorem awake_ok (w : World) (ht : Tab w) : Calls Tryz.prog 21 #[] w fun e w' => e = .returned (.bool true) ∧ Nw w w' := by
  have HT := Lib.hid ht
  clear ht
  obtain ⟨d0, cr0, st0, fl0⟩ := St.new 1000 (.inl (by omega))
  have CR0 := Lib.hid cr0
  have ST0 := Lib.hid st0
  have LI0 : Hid (d0.list = [manifestS, [115, 48]]) := Lib.hid (by
    rw [list_eq, fl0]
    simp only [namesF, List.map_cons, List.map_nil, seg0_eq]
    decide)
  clear cr0 st0 fl0
  go_enter Tryz.func21, Tryz.ntmps21
  go_wp2_with fail
  refine (HasX.new 1000 w (by omega) (by omega)).mono ?_
  rintro e w1 ⟨b, rfl, H1⟩
  have H1 := Lib.hid H1
  have HC := Lib.hid (Create_ok H1.out HT.out 64)
  have hcr := CR0.out
  rw [hcr] at HC
  clear hcr
  go_wp2_with fail
  refine HC.out.mono ?_
  rintro e w2 ⟨-, ⟨-, p, rfl, L2⟩ | ⟨hx, -⟩⟩
  case inr => exact absurd rfl hx
  have L2 := Lib.hid L2
  clear HC H1 CR0
  go_wp2_with fail
  refine (L2.out.has.list LI0.out).mono ?_
  rintro e w3 ⟨v3, rfl, s3, n3, -⟩
  have L3 := Lib.hid (L2.out.nw n3)
  have S3 := Lib.hid s3
  clear s3 n3 L2
  go_wp2_with fail
  have n4 := (Nw.refl w3).alloc (.cells #[.string ⟨#[109, 97, 110, 105, 102, 101, 115, 116]⟩, .string ⟨#[115, 48]⟩] 9 (0, 0))
  have s4 : Ss (w3.alloc (.cells #[.string ⟨#[109, 97, 110, 105, 102, 101, 115, 116]⟩, .string ⟨#[115, 48]⟩] 9 (0, 0))) (.slice (some ⟨w3.heap.size, 0, none⟩) 2 2) [manifestS, [115, 48]] := rd_lit (f := encStr) w3 9 (0, 0) [manifestS, [115, 48]] _ 2 rfl (by decide) (by decide)
  refine (SameTexts_ok (S3.out.nw n4) s4).mono ?_
  rintro e w5 ⟨rfl, n5⟩
  have L5 := Lib.hid (L3.out.nw (n4.trans n5))
  have hsame : ((([manifestS, [115, 48]] : List Str) == [manifestS, [115, 48]]) : Bool) = true := by decide
  rw [hsame]
  clear n4 s4 n5 S3 L3 hsame LI0
  go_wp2_with fail
  have E6 := ev_lit w5 ev1 ev1_ok 1 (by omega) (by decide)
  have L6 := Lib.hid (L5.out.nw ((Nw.refl w5).alloc (.cells (evV ev1).toArray 55 (0, 0))))
  obtain ⟨d1, K1, ad1, st1⟩ := ST0.out.add (e := ev1) (by omega) (by omega) frm1
  have C6 := St.call L6.out ST0.out (by omega) HT.out E6
  rw [ad1] at C6
  refine C6.mono ?_
  rintro e w7 ⟨rfl, L7, -⟩
  have L7 := Lib.hid L7
  have ST1 := Lib.hid st1
  clear E6 L6 ad1 st1 C6 ST0 L5
  go_wp2_with fail
  refine (L7.out.len ST1.out.n).mono ?_
  rintro e w8 ⟨rfl, rfl⟩
  go_wp2_with fail
  refine (L7.out.ack ST1.out.acked).mono ?_
  rintro e w8 ⟨rfl, rfl⟩
  obtain ⟨d2, K2, sy2, st2⟩ := ST1.out.sync
  have C8 := LSync_ok L7.out
  rw [show (K1.sync d1) = ⟨d2, K2, 0⟩ from sy2] at C8
  have C8 := Lib.hid C8
  have ST2 := Lib.hid st2
  clear sy2 st2
  go_wp2_with fail
  refine C8.out.mono ?_
  rintro e w9 ⟨rfl, L9, -⟩
  have L9 := Lib.hid L9
  clear C8 L7 ST1
  go_wp2_with fail
  refine (L9.out.ack ST2.out.acked).mono ?_
  rintro e w10 ⟨rfl, rfl⟩
  go_wp2
  go_loopw [5] (fun i wr => ∃ k : Nat, k ≤ 5 ∧ i = .int .i64 k ∧ AwS w wr p b k) (fun i _ => 5 - (intOf i).toNat)
  case atStart => exact ⟨0, by omega, rfl, .inl ⟨by omega, d2, K2, ST2.out, L9.out⟩⟩
  case round =>
    obtain ⟨k, hk, rfl, ⟨hk4, d3, K3, st3, L3⟩ | ⟨rfl, d3, K3, n3, a3, l3, L3⟩⟩ := hrel
    · have ST3 := Lib.hid st3
      have L3 := Lib.hid L3
      have hl3 : K3.l = [pc0] := st3.inv.l
      have PC := Lib.hid (L3.out.pieces hl3 (by decide))
      clear st3 hl3
      go_wp2_with fail
      refine PC.out.mono ?_
      rintro e w11 ⟨v11, rfl, q1, q2, q3⟩
      obtain ⟨xa, xc, rfl, -⟩ := q1.len
      have L11 := Lib.hid (L3.out.nw q2)
      clear q1 q2 q3 PC L3
      go_wp2_with fail
      have E12 := ev_lit w11 ev1 ev1_ok 1 (by omega) (by decide)
      have L12 := Lib.hid (L11.out.nw ((Nw.refl w11).alloc (.cells (evV ev1).toArray 55 (0, 0))))
      have C12 := St.call L12.out ST3.out (by omega) HT.out E12
      have hres : ∃ d4 K4, K3.add d3 [ev1] = ⟨d4, K4, 0⟩ ∧ ∀ wr, HasL (fun _ => False) w wr p b d4 K4 → AwS w wr p b (k + 1) := by
        by_cases h4 : k = 4
        · subst h4
          obtain ⟨d4, K4, e1, e2, e3, e4⟩ := ST3.out.more frm1
          exact ⟨d4, K4, e1, fun wr h => .inr ⟨rfl, d4, K4, e2, e3, e4, h⟩⟩
        · obtain ⟨d4, K4, e1, e2⟩ := ST3.out.add (e := ev1) (by omega) (by omega) frm1
          exact ⟨d4, K4, e1, fun wr h => .inl ⟨by omega, d4, K4, e2, h⟩⟩
      obtain ⟨d4, K4, e1, hnext⟩ := hres
      rw [e1] at C12
      have HN := Lib.hid hnext
      clear hnext e1
      refine C12.mono ?_
      rintro e w13 ⟨rfl, L13, -⟩
      have L13 := Lib.hid L13
      clear C12 E12 L12 L11
      go_wp2
      go_roundw
      case rel => exact ⟨k + 1, by omega, by go_num, HN.out _ L13.out⟩
      case measure => simp [intOf]; omega
    · have L3 := Lib.hid L3
      have PC := Lib.hid (L3.out.pieces l3 (by decide))
      have NA := Lib.hid (And.intro n3 a3)
      go_wp2_with fail
      refine PC.out.mono ?_
      rintro e w11 ⟨v11, rfl, q1, q2, q3⟩
      obtain ⟨xa, xc, rfl, -⟩ := q1.len
      have L11 := Lib.hid (L3.out.nw q2)
      have PC2 := Lib.hid (L11.out.pieces l3 (by decide))
      clear q1 q2 q3 PC L3 n3 a3 l3
      go_wp2_with fail
      refine PC2.out.mono ?_
      rintro e w12 ⟨v12, rfl, q1, q2, q3⟩
      obtain ⟨g12, o12, c12, rfl⟩ : ∃ g o c, v12 = .slice (some ⟨g, o, none⟩) 2 c := by
        obtain ⟨-, ⟨-, hz⟩ | ⟨g, o, c, hv, -⟩⟩ := q1
        · simp at hz
        · exact ⟨g, o, c, hv⟩
      have L12 := Lib.hid (L11.out.nw q2)
      have P12 : Hid (w12.cell? ⟨g12, o12 + 2, none⟩ = some (.int .i64 5) ∧ w12.cell? ⟨g12, o12 + 4, none⟩ = some (.string ⟨#[115, 53]⟩) ∧ g12 < w12.heap.size) := Lib.hid (by
        obtain ⟨-, ⟨hv, -⟩ | ⟨g', o', cap', hv, h1, h2, h3, h4, h5, h6⟩⟩ := q1
        · cases hv
        · injection hv with ea eb ec
          injection ea with ea
          injection ea with e1 e2
          subst e1 e2
          have a1 := h6 2 (by simp [pcV])
          have a2 := h6 4 (by simp [pcV])
          refine ⟨by simpa [pcV] using a1, ?_, h3⟩
          rw [a2]
          simp [pcV, seg5_eq])
      clear q1 q2 q3 PC2 L11
      go_upto_region 11 with fail
      have HA : Hid (∀ q : Regrown, Calls Tryz.prog 18 #[.pointer (some ⟨p, 0, none⟩)] (grow (redrawn w12 q.d) q.os) fun e w'' => e = .returned (.int .i64 ((5 : Nat) : Int)) ∧ ∃ p' : Regrown, w'' = grow (redrawn w12 p'.d) p'.os) := Lib.hid fun q => quiet_nw fun w2 hw2 => ((L12.out.nw hw2).ack NA.out.2).mono fun e w' ⟨he, hw⟩ => ⟨he, hw ▸ Nw.refl _⟩
      have HL : Hid (∀ q : Regrown, Calls Tryz.prog 19 #[.pointer (some ⟨p, 0, none⟩)] (grow (redrawn w12 q.d) q.os) fun e w'' => e = .returned (.int .i64 ((6 : Nat) : Int)) ∧ ∃ p' : Regrown, w'' = grow (redrawn w12 p'.d) p'.os) := Lib.hid fun q => quiet_nw fun w2 hw2 => ((L12.out.nw hw2).len NA.out.1).mono fun e w' ⟨he, hw⟩ => ⟨he, hw ▸ Nw.refl _⟩
      have HD : Hid (∀ q : Regrown, Calls Tryz.prog 60 #[.int .i64 5] (grow (redrawn w12 q.d) q.os) fun e w'' => e = .returned (.string ⟨#[53]⟩) ∧ ∃ p' : Regrown, w'' = grow (redrawn w12 p'.d) p'.os) := Lib.hid fun q => quiet_nw fun w2 hw2 => (Dec_ok w2).mono fun e w' ⟨he, hw⟩ => ⟨he, hw ▸ Nw.refl _⟩
      have c1 := cellG P12.out.1
      have c2 := cellG P12.out.2.1
      have hg := P12.out.2.2
      have hcat : (⟨#[115]⟩ ++ ⟨#[53]⟩ : ByteArray) = ⟨#[115, 53]⟩ := by decide
      have hne : ((⟨#[115, 53]⟩ : ByteArray).toList == (⟨#[115]⟩ ++ ⟨#[53]⟩ : ByteArray).toList) = true := by rw [hcat]; simp
      refine wp_region_quiet_below (by kernel_rfl) (by kernel_rfl) ?_
      repeat (first | go_big_quiet_step (first | exact HA.out _ | exact HL.out _ | exact HD.out _) | quiet_step (first | exact HA.out _ | exact HL.out _ | exact HD.out _))
      refine wpQuiet_nil ?_
      intro w13 hw13
      have N13 := Lib.hid (Nw.of_regrown hw13)
      clear hw13 c1 c2 hg HA HL HD
      have B13 : Hid (Nw w w13) := Lib.hid (L12.out.base.trans N13.out)
      clear L12 P12 N13 NA
      obtain ⟨d5, cr5, st5, -⟩ := St.new 70 (.inr rfl)
      have CR5 := Lib.hid cr5
      have ST5 := Lib.hid st5
      clear cr5 st5
      have T13 := Lib.hid (HT.out.nw B13.out)
      go_wp2_with fail
      refine (HasX.new 70 w13 (by omega) (by omega)).mono ?_
      rintro e w14 ⟨b2, rfl, H14⟩
      have H14 := Lib.hid H14
      have HC := Lib.hid (Create_ok H14.out T13.out 64)
      have hcr := CR5.out
      rw [hcr] at HC
      clear hcr
      go_wp2_with fail
      refine HC.out.mono ?_
      rintro e w15 ⟨-, ⟨-, p2, rfl, L15⟩ | ⟨hx, -⟩⟩
      case inr => exact absurd rfl hx
      have L15 := Lib.hid L15
      clear HC H14 CR5
      go_wp2_with fail
      have E16 := ev_lit w15 Ev.zero zero_ok 1 (by omega) (by decide)
      have L16 := Lib.hid (L15.out.nw ((Nw.refl w15).alloc (.cells (evV Ev.zero).toArray 55 (0, 0))))
      obtain ⟨d6, K6, ad6, st6⟩ := ST5.out.add (e := Ev.zero) (by omega) (by omega) frm0
      have C16 := St.call L16.out ST5.out (by omega) T13.out E16
      rw [ad6] at C16
      refine C16.mono ?_
      rintro e w17 ⟨rfl, L17, -⟩
      have L17 := Lib.hid L17
      have ST6 := Lib.hid st6
      clear E16 L16 ad6 st6 C16 ST5 L15
      obtain ⟨d7, K7, sy7, st7⟩ := ST6.out.sync
      have C18 := LSync_ok L17.out
      rw [sy7] at C18
      have C18 := Lib.hid C18
      have ST7 := Lib.hid st7
      clear sy7 st7
      go_wp2_with fail
      refine C18.out.mono ?_
      rintro e w19 ⟨rfl, L19, -⟩
      have L19 := Lib.hid L19
      clear C18 L17 ST6
      obtain ⟨w20, mk20, n20, e20⟩ := make50 w19
      have L20 := Lib.hid (L19.out.nw n20)
      have C20 := St.call L20.out ST7.out (by omega) T13.out e20
      rw [ST7.out.full (by omega) (List.length_replicate)] at C20
      have C20 := Lib.hid C20
      clear n20 e20 L19
      go_wp2_with fail
      refine C20.out.mono ?_
      rintro e w21 ⟨rfl, L21, -⟩
      have L21 := Lib.hid L21
      clear C20 L20 mk20
      have hk := ST7.out
      go_wp2_with fail
      have E22 := ev_lit w21 Ev.zero zero_ok 1 (by omega) (by decide)
      have L22 := Lib.hid (L21.out.nw ((Nw.refl w21).alloc (.cells (evV Ev.zero).toArray 55 (0, 0))))
      have C22 := LAppend_ok L22.out T13.out ⟨by simp only; rw [hk.n]; omega, by simp only; rw [hk.bytes]; omega⟩ (by simp only; rw [hk.inv.l]; decide) (by simp only; rw [hk.inv.l]; decide) (by simp only; rw [hk.size]; unfold in64; omega) E22 L22.out.pok
      rw [over_add rfl] at C22
      clear hk
      refine C22.mono ?_
      rintro e w23 ⟨rfl, L23, -⟩
      have L23 := Lib.hid L23
      clear C22 E22 L22 L21
      go_wp2_with fail
      refine (L23.out.over (x := true) rfl).mono ?_
      rintro e w24 ⟨rfl, rfl⟩
      go_wp2_with fail
      refine (L23.out.ack (n := 1) ST7.out.acked).mono ?_
      rintro e w24 ⟨rfl, rfl⟩
      go_wp2
      go_ret
      exact ⟨rfl, B13.out.trans L23.out.base⟩
end Go.Proofs.YtoikjiojhlfgiaaGreatDoor

/-
  A log on a calm disk behind at most 60 frames of at most 30 events, in plain words.
-/
namespace Go.Proofs.YtoikjiojhlfgiaaGreatDoor
open Go
structure Ak (size : Int) (c : Nat) (d : Dsk) (L : Lg) : Prop where
  inv : ∃ A p, LInv d L A p ∧ A.length ≤ c
  most : d.most = 1048576
  used : usedF d.files ≤ 40 + c * 7466
  n : L.n ≤ 30 * c
  bytes : L.bytes ≤ 18 + c * 1239
  size : L.size = size
theorem frm_le {es : List Ev} (h : es.length ≤ 30) : (frmB es).length ≤ 1239 := by
  have := frameB_len (sum := sumB) (fun b => sumB_len b) es (by omega)
  have e : (frmB es).length = (frameB sumB es).length := rfl
  omega
theorem Ak.new {size : Int} (hs : 64 ≤ size) (hs2 : size ≤ 16777216) : ∃ d, createD (newDsk 1048576) size = (d, 0) ∧ Ak size 0 d (newLg size) := by
  obtain ⟨F, h1, h2, h3, h4⟩ := create_calm' 1048576 (by omega) hs hs2
  have hb : (headB 0).length ≤ 18 := headB_len (n := 0) (by omega)
  exact ⟨_, h1, ⟨⟨_, _, h2, by simp⟩, rfl, by simpa using h3, by simp [newLg], by simpa [newLg] using hb, rfl⟩⟩
section
variable {size : Int} {c : Nat} {d : Dsk} {L : Lg}
theorem Ak.add (h : Ak size c d L) (hc : c < 60) {es : List Ev} (h1 : es.length ≠ 0) (h2 : es.length ≤ 30) : ∃ d' L', L.add d es = ⟨d', L', 0⟩ ∧ Ak size (c + 1) d' L' ∧ L.acked ≤ L'.acked ∧ L'.n = L.n + es.length := by
  obtain ⟨⟨A, p, hi, hA⟩, hm, hu, hn, hb, hs⟩ := h
  have hf := frm_le h2
  by_cases hst : p.first < L.n ∧ L.size ≤ L.bytes
  · obtain ⟨F, a1, a2, a3, -⟩ := another_calm hi (by omega) hst.1 (by omega) (by rw [hm]; omega)
    have a4 := a2.acked1
    obtain ⟨p1, p2, p3⟩ := put_calm a2 es (by simp only; rw [hm]; omega)
    have hh : (headB L.n).length ≤ 18 := headB_len (n := L.n) (by omega)
    have e := add_more hi h1 (by omega) hst (by rw [a1])
    rw [a1] at e
    refine ⟨_, _, e.trans p1, ⟨⟨_, _, p2, ?_⟩, hm, ?_, ?_, ?_, hs⟩, ?_, rfl⟩
    · simp; omega
    · rw [p3]; simp only; omega
    · simp only; omega
    · simp only; omega
    · exact hi.acked1
  · obtain ⟨p1, p2, p3⟩ := put_calm hi es (by rw [hm]; omega)
    refine ⟨_, _, (add_stay hi h1 (by omega) hst).trans p1, ⟨⟨_, _, p2, by omega⟩, hm, ?_, ?_, ?_, hs⟩, Nat.le_refl _, rfl⟩
    · simp only; rw [p3]; omega
    · simp only; omega
    · simp only; omega
theorem Ak.sync (h : Ak size c d L) : ∃ d' L', L.sync d = ⟨d', L', 0⟩ ∧ Ak size c d' L' ∧ L'.acked = L'.n ∧ L.acked ≤ L'.acked ∧ L'.n = L.n := by
  obtain ⟨⟨A, p, hi, hA⟩, hm, hu, hn, hb, hs⟩ := h
  obtain ⟨p1, p2, p3⟩ := lsync_calm hi
  exact ⟨_, _, p1, ⟨⟨_, _, p2, hA⟩, hm, by simp only; rw [p3]; exact hu, hn, hb, hs⟩, rfl, hi.acked1, rfl⟩
theorem Ak.facts (h : Ak size c d L) (hc : c ≤ 60) : L.l ≠ [] ∧ L.l.length ≤ 61 ∧ (lastP L.l).first ≤ L.acked ∧ L.acked ≤ L.n ∧ L.n ≤ 1800 ∧ L.bytes ≤ 74358 ∧ 0 ≤ (lastP L.l).first ∧ L.over = false ∧ ∀ q ∈ L.l, 0 ≤ q.first ∧ q.first ≤ 1800 ∧ q.name = segName q.first.toNat := by
  obtain ⟨⟨A, p, hi, hA⟩, hm, hu, hn, hb, hs⟩ := h
  have h0 := hi.acked0
  have h1 := hi.acked1
  have hl := hi.open_
  refine ⟨by rw [hi.l]; simp, by rw [hi.l]; simp; omega, by rw [hl]; exact h0, h1, by omega, by omega, by rw [hl]; exact hi.firsts.1, hi.over, fun q hq => ?_⟩
  have hq2 := hi.firsts.2 q hq
  exact ⟨hq2.1, by omega, hi.seg q hq⟩
end
end Go.Proofs.YtoikjiojhlfgiaaGreatDoor

/-
  The law's map 'first': of a segment's name, where its piece begins: a name tells its number, so no other one is ever there.
-/
namespace Go.Proofs.YtoikjiojhlfgiaaGreatDoor
open Go Go.RowKit Go.Sort
set_option maxRecDepth 100000
set_option maxHeartbeats 800000
section
variable {P : Program} {w : World} {t kt et : TypeId} {m clock : Nat} {L : List En} {k : Str}
theorem run_look2_miss (ht : P.underlying t = some (.map kt et)) (hk : P.underlying kt = some .string) {z : Value} (hz : (zeroValue et).run P w = .ok z w)
    (hb : w.heap[m]? = some (.map (ents L) clock)) (hn : k ∉ L.map En.key) :
    (Instr.lookup t (.map (some m)) (.string ⟨k.toArray⟩) true).run P w = .ok (.tuple #[z, .bool false]) w := by
  have h1 := MapKept.run_findKey (w := w) hk (findNow_miss k L 0 hn)
  have h2 := fun b => run_checkStr (w := w) hk b k
  simp [Instr.lookup, run_underlying ht, MapKept.run_getObj_map hb, h2, Result.andThen, ents, h1, hz]
theorem run_look2_hit {A B : List En} {e : En} (ht : P.underlying t = some (.map kt et)) (hk : P.underlying kt = some .string)
    (hb : w.heap[m]? = some (.map (ents (A ++ e :: B)) clock)) (he : e.key = k) (hn : k ∉ A.map En.key) :
    (Instr.lookup t (.map (some m)) (.string ⟨k.toArray⟩) true).run P w = .ok (.tuple #[e.val, .bool true]) w := by
  have h1 := MapKept.run_findKey (w := w) hk (findNow_hit k e he A B 0 hn)
  have h2 := fun b => run_checkStr (w := w) hk b k
  unfold ents at hb
  generalize (A ++ e :: B).map En.entry = l at *
  simp [Instr.lookup, run_underlying ht, MapKept.run_getObj_map hb, h2, Result.andThen, h1]
end
/-- Each name in the map is the name of the number that lies at it. -/
def Firsts (w : World) (m : Nat) : Prop := ∃ L clock, w.heap[m]? = some (.map (ents L) clock) ∧ ∀ e ∈ L, ∃ n : Nat, e.key = segName n ∧ e.val = .int .i64 n
theorem Firsts.nw {w w' : World} {m : Nat} (h : Firsts w m) (hw : Nw w w') : Firsts w' m := by
  obtain ⟨L, c, h1, h2⟩ := h
  exact ⟨L, c, hw.at_ h1, h2⟩
theorem firsts_step {w W1 : World} {m : Nat} (h : Firsts W1 m) (n : Nat) (hw : Nw w W1) (hm : w.heap.size ≤ m) :
    ∃ (x : Int) (ok : Bool) (W2 : World), (Instr.lookup 32 (.map (some m)) (.string ⟨(segName n).toArray⟩) true).run Tryz.prog W1 = .ok (.tuple #[.int .i64 x, .bool ok]) W1 ∧ (ok = true → x = n) ∧
      (Instr.mapUpdate 32 (.map (some m)) (.string ⟨(segName n).toArray⟩) (.int .i64 n)).run Tryz.prog W1 = .ok () W2 ∧ Nw w W2 ∧ Only (fun k => k = m) W1 W2 ∧ Firsts W2 m := by
  obtain ⟨L, clock, hmap, hv⟩ := h
  have ht := Tryz.underlying32
  have hs := Tryz.underlying9
  rcases split_key (segName n) L with hn | ⟨A, e, B, rfl, he, hA⟩
  · refine ⟨0, false, _, run_look2_miss ht hs (zeroInt _) hmap hn, (by intro h; cases h), run_store_miss ht hs hmap hn _, Only.setBlk hw (fun h => by omega) _, Only.setBlk (S := fun k => k = m) (Only.refl W1) (fun _ => rfl) _, _, _, setBlk_same hmap, ?_⟩
    intro e he
    rcases List.mem_append.1 he with he | he
    · exact hv e he
    · rw [List.mem_singleton] at he; subst he; exact ⟨n, rfl, rfl⟩
  · obtain ⟨n', hk', hv'⟩ := hv e (by simp)
    have hnn : n' = n := segName_inj (by rw [← hk', he])
    subst hnn
    have hl := run_look2_hit (P := Tryz.prog) ht hs hmap he hA
    rw [hv'] at hl
    refine ⟨n', true, _, hl, fun _ => rfl, run_store_hit ht hs hmap he hA _, Only.setBlk hw (fun h => by omega) _, Only.setBlk (S := fun k => k = m) (Only.refl W1) (fun _ => rfl) _, _, _, setBlk_same hmap, ?_⟩
    intro e2 he2
    rcases List.mem_append.1 he2 with h | h
    · exact hv e2 (by simp [h])
    · rcases List.mem_cons.1 h with rfl | h
      · exact ⟨n', rfl, rfl⟩
      · exact hv e2 (by simp [h])
end Go.Proofs.YtoikjiojhlfgiaaGreatDoor

/-
  What every law of this seat asks behind its walk: the law returned true, and nothing that was there has turned: so each argument reads as it did.
-/
namespace Go.Proofs.YtoikjiojhlfgiaaGreatDoor
open Go Go.ChangeShapes Go.WideShapes Go.RowKit

section
variable {H : Type} {enc : TypeId × Value → H} {P : Program} {W W' : World}
theorem trodAll_nw (hl : laidOutB P = true) (hb : Nw W W') {sp : Nat → Bool} : ∀ {ts : List TypeId} {vs : List Value} {ds : List (DataW H)} {ps : List MemPlace}, (∀ t ∈ ts, P.readableRec t = true ∧ t < P.types.size) →
    DataW.TrodAll enc P W 0 (fun _ => true) true ts vs ds ps → (∀ p ∈ ps, p.block < W.heap.size) → (∀ p ∈ ps, sp p.block = true) → DataW.TrodAll enc P W' 0 sp true ts vs ds ps
  | [], [], [], _, _, h, _, _ => h
  | _ :: _, _ :: _, _ :: _, _, ht, ⟨p, q, h1, h2, e⟩, hlt, hs =>
    ⟨p, q, WideElems.Trod_stays hl (ht _ (List.mem_cons.2 (Or.inl rfl))).1 (ht _ (List.mem_cons.2 (Or.inl rfl))).2 h1
      (fun x hx => hb.below.same (hlt x (by rw [e]; exact List.mem_append_left _ hx))) (fun x hx => hs x (by rw [e]; exact List.mem_append_left _ hx)),
      trodAll_nw hl hb (fun t h => ht t (List.mem_cons.2 (Or.inr h))) h2 (fun x hx => hlt x (by rw [e]; exact List.mem_append_right _ hx)) (fun x hx => hs x (by rw [e]; exact List.mem_append_right _ hx)), e⟩

theorem post_true {f : Func} {s : ChangeSpec} {apart fresh handsOn again : Bool} {args : Array Value} {ds gs : List (DataW H)} {before : List MemPlace} {tb : TypeId}
    (hl : laidOutB P = true) (hts : (f.params.toList.all fun t => P.readableRec t && decide (t < P.types.size)) = true) (hr : f.resultTypes = #[tb]) (htb : P.underlying tb = some .bool) (hv : s.vars = [])
    (hs : ∀ ds : List (DataW H), ds.length = f.params.size → s.fn H (ds ++ []) = { results := [.lit (.bool true)], args := ds })
    (hW : DataW.Whole enc P f.params.toList s.vars apart W args.toList ds gs before) (hb : Nw W W') : s.post enc P f apart fresh handsOn again W args (.bool true) W' := by
  have hlt := hW.lt
  have hW' := hW
  obtain ⟨p, q, hA, hV, rfl, hz, hn⟩ := hW
  rw [hv] at hV
  obtain ⟨rfl, rfl⟩ := trodVars_none hV
  have hlen : ds.length = f.params.size := by rw [(trodAll_length hA).2]; simp
  have he := hs ds hlen
  have ht : ∀ t ∈ f.params.toList, P.readableRec t = true ∧ t < P.types.size := fun t ht => by
    have := List.all_eq_true.1 hts t ht
    simpa using this
  have hargs : ∀ sp : Nat → Bool, (∀ x ∈ p ++ [], sp x.block = true) → DataW.TrodAll enc P W' 0 sp true f.params.toList args.toList (s.fn H (ds ++ [])).args (p ++ []) := fun sp hsp => by
    rw [he]
    simp only [List.append_nil] at hsp hlt ⊢
    exact trodAll_nw hl hb ht hA hlt hsp
  have hres : ∀ (b : Nat) (sp : Nat → Bool) (hd : Bool), DataW.TrodAll enc P W' b sp hd f.resultTypes.toList ((Value.bool true).resultList f.resultTypes.size) (s.fn H (ds ++ [])).results [] := fun b sp hd => by
    rw [he, hr]
    exact trodAll_mk1 (shut_bool htb true)
  have hvars : ∀ sp : Nat → Bool, DataW.TrodVars enc P W' sp s.vars (s.fn H (ds ++ [])).vars [] := fun sp => by
    rw [he, hv]; rfl
  refine ⟨ds, [], p ++ [], [], p ++ [], [], hW', hres _ _ _, hargs _ (fun x hx => by simpa using hlt x hx), hvars _, hb.below.frame _, fun _ => ⟨ok_one hr rfl (okWide_bool_mk htb true), _, _, ([] ++ (p ++ [])) ++ [], ⟨[] ++ (p ++ []), [], trodAll_append (hargs _ (fun _ _ => rfl)) (hres _ _ _), hvars _, rfl, ?_, ?_⟩, ?_⟩⟩
  · intro b off hp
    simp only [List.append_nil, List.nil_append] at hp hz hlt
    have hbk : b < W.heap.size := hlt _ hp
    rw [hb.below.frozen (p := ⟨b, off, _⟩) hbk]
    exact hz b off hp
  · intro ha
    simpa using hn ha
  · intro x hx _
    simpa using hx
end
end Go.Proofs.YtoikjiojhlfgiaaGreatDoor

/-
  What a given argument is: bytes, a small number.
-/
namespace Go.Proofs.YtoikjiojhlfgiaaGreatDoor
open Go Go.ChangeShapes Go.WideShapes Go.RowKit
section
variable {H : Type} {enc : TypeId × Value → H} {P : Program} {W : World}
theorem u8_of_int {z : Int} (h : (Lit.int .u8 z).wf = true) : z = ((UInt8.ofNat z.toNat).toNat : Int) := by
  simp only [Lit.wf, Bool.and_eq_true, decide_eq_true_eq] at h
  have h1 : 0 ≤ z := by have := h.1; rwa [show IntKind.u8.min = 0 from rfl] at this
  have h2 : z ≤ 255 := by have := h.2; rwa [show IntKind.u8.max = 255 from rfl] at this
  rw [UInt8.toNat_ofNat']
  omega
theorem cells_slice {v : Value} {a : Option Addr} {n c : Nat} (h : v.cells.toList = [.slice a n c]) (hv : ∀ xs, v ≠ .agg xs) : v = .slice a n c := by
  cases v <;> simp_all [Value.cells]
end
end Go.Proofs.YtoikjiojhlfgiaaGreatDoor
