/-
  amanuensislaw02.DiskJoin: bytes that are appended piece by piece are as bytes that are appended at once.
-/
import Derived.Test.YtihagdadbeoeoaaDoorAlike
import Derived.Test.YtihagdadbeoeoaaDoorPlayed
import Derived.Test.YtihagdadbeoeoaaDoorFacts
import Derived.Test.YtihagdadbeoeoaaDoorAwake
import Derived.Test.YtihagdadbeoeoaaDoorClose
namespace Go.Proofs.YtihagdadbeoeoaaDoor.DiskJoin
open Go Go.RowKit Go.Sort
set_option maxRecDepth 100000
set_option maxHeartbeats 1600000

/-! ### Plain -/
/-- A disk with at most one file, a. -/
def one (st : Bool) (b : List UInt8) (s : Nat) : Dsk := { newDsk 1000 with files := if st then [([97], ⟨b, s⟩)] else [] }
theorem m21 : max (-1 - 1 : Int) (-1) = -1 := by decide
theorem ok97 : okName [97] = true := by decide
theorem ok98 : okName [98] = true := by decide
theorem one_append (st : Bool) (b l : List UInt8) (s : Nat) (hs : st = false → b = [] ∧ s = 0) (hl : b.length + l.length ≤ 1000) : (one st b s).append [97] l = (one true (b ++ l) s, 0) := by
  cases st
  · obtain ⟨rfl, rfl⟩ := hs rfl
    have h2 : ¬ ((1000 : Int) < (l.length : Int)) := by simp at hl; omega
    simp [Dsk.append, Dsk.op, Dsk.mayAppend, one, newDsk, ok97, usedF, namesF, h2, setF, fileOf, getF]
    decide
  · have h2 : ¬ ((1000 : Int) < (b.length : Int) + (l.length : Int)) := by omega
    simp [Dsk.append, Dsk.op, Dsk.mayAppend, one, newDsk, ok97, usedF, namesF, h2, setF, fileOf, getF]
    decide
theorem one_sync (b : List UInt8) (s : Nat) : (one true b s).sync [97] = (one true b b.length, 0) := by
  simp [Dsk.sync, Dsk.op, Dsk.there, one, newDsk, namesF, setF, fileOf, getF]
  decide
def oneB (b : List UInt8) (s : Nat) : Dsk := { newDsk 1000 with files := [([98], ⟨b, s⟩)] }
theorem one_ren (b : List UInt8) (s : Nat) : (one true b s).rename [97] [98] = (oneB b s, 0) := by
  simp [Dsk.rename, Dsk.op, Dsk.there, one, oneB, newDsk, ok98, namesF, setF, delF, fileOf, getF]
  decide
theorem oneB_ren (b : List UInt8) (s : Nat) : (oneB b s).rename [98] [97] = (one true b s, 0) := by
  simp [Dsk.rename, Dsk.op, Dsk.there, one, oneB, newDsk, ok97, namesF, setF, delF, fileOf, getF]
  decide
theorem one_list (st : Bool) (b : List UInt8) (s : Nat) : (one st b s).list = if st then [[97]] else [] := by
  cases st <;> simp [Dsk.list, one, newDsk, namesF]

/-! ### The loop -/
/-- X: what both have, Y: what came since. -/
structure Rel (w wr : World) (a b : Nat) (v : Value) (X Y : List UInt8) (st dn : Bool) : Prop where
  row : Own wr v Y
  new : ∀ g, v.ownBlock = some g → w.heap.size ≤ g
  two : Two (fun g => v.ownBlock = some g) w wr a (one st (X ++ Y) X.length) b (one dn X X.length)
  st0 : st = false → X = [] ∧ Y = []
  dn0 : dn = false → X = []

theorem walk (w : World) (v0 : Value) (ps : List (List UInt8)) (at_ : Int) (h0 : RdK 1 (isBs w) w v0 ps) (_hb : -9223372036854775808 ≤ at_ ∧ at_ ≤ 9223372036854775807) :
    Calls Tryd.prog 4 #[v0, .int .i64 at_] w fun e w' => e = .returned (.bool true) ∧ Nw w w' := by
  obtain ⟨sa, cap, rfl, hc1, hc2, hel⟩ := h0.len
  have HE := Lib.hid hel
  clear h0 hel
  unfold maxLen at hc2
  have AW := Lib.hid (fun w => awake_ok w)
  obtain ⟨i0, hi, hz0, hz1, hz2⟩ := info_parts Tryd.infoByte
  have HI := Lib.hid hi
  have HZ0 := Lib.hid hz0
  have HZ1 := Lib.hid hz1
  have HZ2 := Lib.hid hz2
  clear hi hz0 hz1 hz2
  go_enter Tryd.func4, Tryd.ntmps4
  go_wp2_with fail
  refine (HasX.new 1000 _ (by omega) (by omega)).mono ?_
  rintro e w1 ⟨a, rfl, H1⟩
  have H1 := Lib.hid H1
  go_wp2_with fail
  refine (HasX.new 1000 _ (by omega) (by omega)).mono ?_
  rintro e w2 ⟨b, rfl, H2⟩
  have T2 := Lib.hid (Two.of_new H1.out H2)
  clear H2 H1
  go_wp2
  go_loopw [9, 10] (fun v i wr => ∃ (k : Nat) (X Y : List UInt8) (st dn : Bool), k ≤ ps.length ∧ k ≤ 20 ∧ i = .int .i64 k ∧ X.length + Y.length ≤ 50 * k ∧ Rel w wr a b v X Y st dn) (fun _ i _ => ps.length - (intOf i).toNat)
  case atStart => exact ⟨0, [], [], false, false, Nat.zero_le _, by omega, rfl, by simp, ⟨RowF.nil, (fun g hg => by cases hg), T2.out.weak (fun k hk => by cases hk), (fun _ => ⟨rfl, rfl⟩), (fun _ => rfl)⟩⟩
  case round =>
    obtain ⟨k, X, Y, st, dn, hk, hk2, rfl, hXY, hrl⟩ := hrel
    have HR := Lib.hid hrl
    clear hrl
    by_cases hgo : k < ps.length ∧ k < 20
    · obtain ⟨hlt, hlt2⟩ := hgo
      · obtain ⟨g, o, rfl, hg, cs, hcl, hcc, sv, hsv, hbs⟩ := HE.out k hlt
        have hc0 : w.cell? ⟨g, o + k, none⟩ = some sv := by
          subst hsv
          simpa using hcc 0 (by simp)
        generalize ps[k] = p at *
        obtain ⟨ba, bc, hvb, -⟩ := hbs.len
        subst hvb
        have HBS := Lib.hid hbs
        have HC0 := Lib.hid hc0
        clear hcc hsv hcl hbs
        have c0 := HR.out.two.base.cell hc0
        clear hc0
        by_cases hbig : 50 < p.length
        · have f1 : decide ((p.length : Int) > 50) = true := by simp; omega
          go_wp2
          go_roundw
          case rel => exact ⟨k + 1, X, Y, st, dn, by omega, by omega, by go_num, by omega, HR.out⟩
          case measure => simp [intOf]; omega
        have f1 : decide ((p.length : Int) > 50) = false := by simp; omega
        have hap := one_append st (X ++ Y) p X.length (fun h => by obtain ⟨h1, h2⟩ := HR.out.st0 h; simp [h1, h2]) (by simp; omega)
        have HAP := Lib.hid hap
        clear hap
        go_wp2_with fail
        refine (HR.out.two.step (fun Z hXZ hZ => hZ.append [97] p _ (HBS.out.nw HR.out.two.base) (fun hne g hg => .inr (HBS.out.lt hne g hg)) (by decide) (by omega) HAP.out)).mono ?_
        rintro e w3 ⟨rfl, T3, K3⟩
        have T3 := Lib.hid T3
        have R3 := Lib.hid (HR.out.row.kept K3 (fun g hg => hg))
        have c3 := T3.out.base.cell HC0.out
        have S3 := Lib.hid (HBS.out.nw T3.out.base)
        clear c0 K3 f1
        go_wp2_with (at_builtin; refine wpList_append_row u8_one rfl _ _ 29 rfl 5 i0 (.int .u8 0) 1 Tryd.underlying29 HI.out HZ0.out HZ1.out HZ2.out rfl rfl rfl R3.out S3.out ?c1 ?c2 ?_)
        case c1 => simp [maxLen]; omega
        case c2 => simp; omega
        intro v4 w4 hr ho hf _
        have T4 : Hid (Two (fun g => v4.ownBlock = some g) w w4 a (one true (X ++ Y ++ p) X.length) b (one dn X X.length)) := Lib.hid (T3.out.put ho (fun k hk _ => ⟨hk, HR.out.new k hk⟩) (fun k hk => by
          rcases hf with hf | hf
          · exact .inl (hf ▸ hk)
          · exact .inr ⟨hf k hk, hr.lt k hk⟩))
        have N4 : Hid (∀ g, v4.ownBlock = some g → w.heap.size ≤ g) := Lib.hid (fun g hg => by
          rcases hf with hf | hf
          · exact HR.out.new g (hf ▸ hg)
          · exact Nat.le_trans T3.out.base.size (hf g hg))
        have R4 := Lib.hid hr
        clear hr ho hf c3 S3 R3 T3
        by_cases hat : at_ = k
        · have f2 : ((k : Int) == at_) = true := by simp [hat]
          clear hat
          go_wp2_with fail
          refine (T4.out.step (fun Z hXZ hZ => hZ.sync [97] (one_sync _ _))).mono ?_
          rintro e w5 ⟨rfl, T5, K5⟩
          have R5 := Lib.hid (R4.out.kept K5 (fun g hg => hg))
          have T5 := Lib.hid T5
          clear K5
          have hap2 := one_append dn X (Y ++ p) X.length (fun h => by have := HR.out.dn0 h; simp [this]) (by simp; omega)
          have HAP2 := Lib.hid hap2
          clear hap2 f2
          go_wp2_with fail
          refine (T5.out.symm.step (fun Z hXZ hZ => hZ.append [97] (Y ++ p) v4 R5.out.rd (fun _ g hg => .inl (hXZ g hg)) (by decide) (by simp; omega) HAP2.out)).mono ?_
          rintro e w6 ⟨rfl, T6, -⟩
          have T6 := Lib.hid T6
          go_wp2_with fail
          refine (T6.out.step (fun Z hXZ hZ => hZ.sync [97] (one_sync _ _))).mono ?_
          rintro e w7 ⟨rfl, T7, -⟩
          have T7 : Hid (Rel w w7 a b (.slice none 0 0) (X ++ (Y ++ p)) [] true true) := Lib.hid ⟨RowF.nil, (fun g hg => by cases hg), (by
            have := T7.symm.weak (Y := fun g => (Value.slice none 0 0).ownBlock = some g) (fun k hk => by cases hk)
            simpa using this), (fun h => by cases h), (fun h => by cases h)⟩
          clear T6 T5 R5
          go_wp2
          go_roundw
          case rel => exact ⟨k + 1, X ++ (Y ++ p), [], true, true, by omega, by omega, by go_num, by simp; omega, T7.out⟩
          case measure => simp [intOf]; omega
        · have f2 : ((k : Int) == at_) = false := by simp; omega
          clear hat
          go_wp2
          go_roundw
          case rel => exact ⟨k + 1, X, Y ++ p, true, dn, by omega, by omega, by go_num, by simp; omega, ⟨R4.out, N4.out, (by rw [← List.append_assoc]; exact T4.out), (fun h => by cases h), HR.out.dn0⟩⟩
          case measure => simp [intOf]; omega
    · have hl : X.length + Y.length ≤ 1000 := by omega
      have hex : (¬ k < ps.length) ∨ (k < ps.length ∧ ¬ k < 20) := by omega
      have HST := Lib.hid HR.out.st0
      have HDN := Lib.hid HR.out.dn0
      cases st
      case false =>
        have HL : Hid ((one false (X ++ Y) X.length).list = []) := Lib.hid (one_list _ _ _)
        clear hXY hgo
        rcases hex with h | ⟨h, h'⟩
        all_goals
          go_wp2_with fail
          refine (HR.out.two.fst.list HL.out).mono ?_
          rintro e w3 ⟨v3, rfl, s3, n3, -⟩
          obtain ⟨sa3, cap3, rfl, -, -, -⟩ := s3.elems
          have T3 := Lib.hid (HR.out.two.nw n3)
          clear s3 n3
          go_wp2_with fail
          refine (AW.out _).mono ?_
          rintro e w6 ⟨rfl, n6⟩
          have N6 := Lib.hid n6
          clear n6
          go_wp2
          go_ret
          exact ⟨rfl, T3.out.base.trans N6.out⟩
      case true =>
        have HL : Hid ((one true (X ++ Y) X.length).list = [[97]]) := Lib.hid (one_list _ _ _)
        have hap := one_append dn X Y X.length (fun h => by have := HDN.out h; simp [this]) (by omega)
        have HAP := Lib.hid hap
        have hl2 : Y.length ≤ 140737488355328 := by omega
        clear hXY hgo hap
        rcases hex with h | ⟨h, h'⟩
        all_goals
          go_wp2_with fail
          refine (HR.out.two.fst.list HL.out).mono ?_
          rintro e w3 ⟨v3, rfl, s3, n3, -⟩
          obtain ⟨sa3, cap3, rfl, -, -, -⟩ := s3.elems
          have T3 := Lib.hid (HR.out.two.nw n3)
          have R3 := Lib.hid (HR.out.row.kept (X := fun g => u9.ownBlock = some g) n3.kept (fun g hg => hg))
          clear s3 n3
          go_wp2_with fail
          refine (T3.out.symm.step (fun Z hXZ hZ => hZ.append [97] Y u9 R3.out.rd (fun _ g hg => .inl (hXZ g hg)) (by decide) hl2 HAP.out)).mono ?_
          rintro e w4 ⟨rfl, T4, -⟩
          have T4 := Lib.hid T4.symm
          clear T3 R3
          go_wp2_with fail
          refine (T4.out.alike (Like.refl _)).mono ?_
          rintro e w5 ⟨rfl, n5⟩
          have T5 := Lib.hid (T4.out.nw n5)
          clear n5 T4
          go_wp2_with fail
          refine (T5.out.step (fun Z hXZ hZ => hZ.rename [97] [98] (by decide) (one_ren _ _))).mono ?_
          rintro e w6 ⟨rfl, T6, -⟩
          have T6 := Lib.hid T6
          go_wp2_with fail
          refine (T6.out.step (fun Z hXZ hZ => hZ.rename [98] [97] (by decide) (oneB_ren _ _))).mono ?_
          rintro e w7 ⟨rfl, T7, -⟩
          have T7 := Lib.hid T7
          clear T5 T6
          go_wp2_with fail
          refine (T7.out.alike (Like.refl _)).mono ?_
          rintro e w8 ⟨rfl, n8⟩
          have T8 := Lib.hid (T7.out.nw n8)
          clear n8 T7
          go_wp2_with fail
          refine (AW.out _).mono ?_
          rintro e w9 ⟨rfl, n9⟩
          have N9 := Lib.hid n9
          clear n9
          go_wp2
          go_ret
          exact ⟨rfl, T8.out.base.trans N9.out⟩
end Go.Proofs.YtihagdadbeoeoaaDoor.DiskJoin
