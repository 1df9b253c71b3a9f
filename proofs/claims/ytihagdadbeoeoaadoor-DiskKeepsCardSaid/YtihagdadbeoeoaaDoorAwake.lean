/-
  The chapter's examples, as every statement asks them.
-/
import Derived.Test.YtihagdadbeoeoaaDoorHas
namespace Go.Proofs.YtihagdadbeoeoaaDoor
open Go Go.RowKit Go.Sort
set_option maxRecDepth 100000
set_option maxHeartbeats 1600000

def aw0 : Dsk := newDsk 100
def aw1 : Dsk := (aw0.append [97] [120, 121, 122]).1
def aw2 : Dsk := (aw1.sync [97]).1
def aw3 : Dsk := (aw2.append [97] [117, 118]).1
def aw4 : Dsk := (aw3.append [98] [119]).1
def aw5 : Dsk := { aw4 with files := crashF (sortS (namesF aw4.files)) [1] aw4.files, arm := -1, down := false }
def aw6 : Dsk := (aw5.rename [97] [98]).1
def aw7 : Dsk := aw6.armed 1
def aw8 : Dsk := (aw7.sync [98]).1
def aw9 : Dsk := (aw8.remove [98]).1
def aw10 : Dsk := { aw9 with files := crashF (sortS (namesF aw9.files)) [] aw9.files, arm := -1, down := false }
def aw11 : Dsk := (aw10.append [65] []).1

theorem op_eq {d' : Dsk} {r : Dsk × Int} {x : Int} (h1 : r.1 = d') (h2 : r.2 = x) : r = (d', x) := Prod.ext h1 h2
theorem r1 : aw0.append [97] [120, 121, 122] = (aw1, 0) := op_eq rfl (by decide +kernel)
theorem r2 : aw1.sync [97] = (aw2, 0) := op_eq rfl (by decide +kernel)
theorem r3 : aw2.append [97] [117, 118] = (aw3, 0) := op_eq rfl (by decide +kernel)
theorem r4 : aw3.append [98] [119] = (aw4, 0) := op_eq rfl (by decide +kernel)
theorem r5 : aw4.crash [1] = aw5 := crash_eq _ _
theorem r6 : aw5.rename [97] [98] = (aw6, 0) := op_eq rfl (by decide +kernel)
theorem r7 : aw6.armed 1 = aw7 := rfl
theorem r8 : aw7.sync [98] = (aw8, 0) := op_eq rfl (by decide +kernel)
theorem r9 : aw8.remove [98] = (aw9, 15) := op_eq rfl (by decide +kernel)
theorem r10 : aw9.crash [] = aw10 := crash_eq _ _
theorem r11 : aw10.append [65] [] = (aw11, 13) := op_eq rfl (by decide +kernel)
theorem q1 : (fileOf aw4.files [97]).bytes.length = 5 ∧ (fileOf aw4.files [97]).synced = 3 ∧ usedF aw4.files = 6 := by decide +kernel
theorem q2 : aw5.read [97] = ([120, 121, 122, 117], 0) ∧ aw5.read [98] = ([], 0) := by decide +kernel
theorem q3 : aw6.list = [[98]] ∧ aw6.read [98] = ([120, 121, 122, 117], 0) := by rw [list_eq]; decide +kernel
theorem q4 : aw9.read [98] = ([], 15) ∧ aw9.down = true := by decide +kernel
theorem q5 : aw10.read [98] = ([120, 121, 122, 117], 0) := by decide +kernel

theorem awake_ok (w : World) : Calls Tryd.prog 25 #[] w fun e w' => e = .returned (.bool true) ∧ Nw w w' := by
  have kc := fun (w : World) (C : Array Value) (n c : Nat) => Go.Lib.run_convert_bytes_const (P := Tryd.prog) w 29 5 C n c Tryd.underlying29 Tryd.underlying5
  go_enter Tryd.func25, Tryd.ntmps25
  go_wp2_with fail
  refine (Has.new 100 _ (by omega) (by omega)).mono ?_
  rintro e w1 ⟨b, rfl, H1⟩
  go_wp2_with fail
  refine (H1.append' [97] [120, 121, 122] _ _ (rd_lit w1 _ _ _ _ 3 rfl (by decide) (by decide)) (.inr rfl) (by decide) (by decide) r1).mono ?_
  rintro e w2 ⟨rfl, H2⟩
  go_wp2_with fail
  refine (H2.sync [97] r2).mono ?_
  rintro e w3 ⟨rfl, H3⟩
  go_wp2_with fail
  refine (H3.append' [97] [117, 118] _ _ (rd_lit w3 _ _ _ _ 2 rfl (by decide) (by decide)) (.inr rfl) (by decide) (by decide) r3).mono ?_
  rintro e w4 ⟨rfl, H4⟩
  go_wp2_with fail
  refine (H4.append' [98] [119] _ _ (rd_lit w4 _ _ _ _ 1 rfl (by decide) (by decide)) (.inr rfl) (by decide) (by decide) r4).mono ?_
  rintro e w5 ⟨rfl, H5⟩
  go_wp2_with fail
  refine (H5.size [97] q1.1).mono ?_
  rintro e w6 ⟨rfl, H6⟩
  go_wp2_with fail
  refine (H6.synced [97] q1.2.1).mono ?_
  rintro e w7 ⟨rfl, H7⟩
  go_wp2_with fail
  refine (H7.used q1.2.2).mono ?_
  rintro e w8 ⟨rfl, H8⟩
  go_wp2_with fail
  refine (H8.crash' _ [1] _ (rd_lit w8 _ _ _ _ 1 rfl (by decide) (by decide)) (.inr rfl) r5).mono ?_
  rintro e w9 ⟨rfl, H9⟩
  go_wp2_with fail
  refine (H9.reads [97] [120, 121, 122, 117] q2.1).mono ?_
  rintro e w10 ⟨rfl, H10⟩
  go_wp2_with fail
  refine (H10.reads [98] [] q2.2).mono ?_
  rintro e w11 ⟨rfl, H11⟩
  go_wp2_with fail
  refine (H11.rename [97] [98] (by decide) r6).mono ?_
  rintro e w12 ⟨rfl, H12⟩
  go_wp2_with fail
  refine (H12.list q3.1).mono ?_
  rintro e w13 ⟨v13, rfl, hv13, H13, -⟩
  go_wp2_with fail
  refine (SameTexts_ok (hv13.nw ((Nw.refl w13).alloc _)) (rd_lit (f := encStr) w13 _ _ [[98]] _ 1 rfl (by decide) (by decide))).mono ?_
  rintro e w14 ⟨rfl, hw14⟩
  have H14 := (H13.nw ((Nw.refl w13).alloc _)).nw hw14
  clear hw14 hv13
  go_wp2_with fail
  refine (H14.reads [98] [120, 121, 122, 117] q3.2).mono ?_
  rintro e w15 ⟨rfl, H15⟩
  go_wp2_with fail
  refine (H15.arm 1 (by omega) r7).mono ?_
  rintro e w16 ⟨rfl, H16⟩
  go_wp2_with fail
  refine (H16.sync [98] r8).mono ?_
  rintro e w17 ⟨rfl, H17⟩
  go_wp2_with fail
  refine (H17.remove [98] r9).mono ?_
  rintro e w18 ⟨rfl, H18⟩
  go_wp2_with fail
  refine (H18.read [98] q4.1).mono ?_
  rintro e w19 ⟨v19, rfl, -, H19, -⟩
  go_wp2_with fail
  refine (H19.down q4.2).mono ?_
  rintro e w20 ⟨rfl, H20⟩
  go_wp2_with fail
  refine (H20.crash (.slice none 0 0) [] (.inl ⟨_, rfl, rfl⟩) r10).mono ?_
  rintro e w21 ⟨rfl, H21⟩
  go_wp2_with fail
  refine (H21.reads [98] [120, 121, 122, 117] q5).mono ?_
  rintro e w22 ⟨rfl, H22⟩
  go_wp2_with fail
  refine (H22.append [65] [] (.slice none 0 0) (.inl ⟨_, rfl, rfl⟩) (by decide) (by decide) r11).mono ?_
  rintro e w23 ⟨rfl, H23⟩
  go_wp2
  go_ret
  exact ⟨rfl, H23.base⟩
end Go.Proofs.YtihagdadbeoeoaaDoor
