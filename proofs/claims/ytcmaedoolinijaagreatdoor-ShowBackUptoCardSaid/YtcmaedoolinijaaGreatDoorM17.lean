/-
  Texts merged by a program of this claim's: WalkE, WalkF.
-/
import Derived.Test.YtcmaedoolinijaaGreatDoorM16
import Derived.Deep.DeepCutAuto
namespace Go.Proofs.YtcmaedoolinijaaGreatDoor
open Go Go.RowKit Go.Sort
set_option maxRecDepth 100000
set_option maxHeartbeats 3200000
theorem targs_ok {w : World} {op : Nat} : Calls Tryz.prog 137 #[.int .u8 (op : Int)] w fun z w' => z = .returned (.int .i64 (argsN op : Int)) ∧ w' = w := by
  by_cases h4 : op = 4
  · subst h4
    go_enter Tryz.func137, Tryz.ntmps137
    go_wp2_with fail
    go_ret
    exact ⟨rfl, rfl⟩
  by_cases h17 : op = 17
  · subst h17
    go_enter Tryz.func137, Tryz.ntmps137
    go_wp2_with fail
    go_ret
    exact ⟨rfl, rfl⟩
  by_cases h20 : op = 20
  · subst h20
    go_enter Tryz.func137, Tryz.ntmps137
    go_wp2_with fail
    go_ret
    exact ⟨rfl, rfl⟩
  by_cases h23 : op = 23
  · subst h23
    go_enter Tryz.func137, Tryz.ntmps137
    go_wp2_with fail
    go_ret
    exact ⟨rfl, rfl⟩
  have q4 : ((op : Int) == 4) = false := by simp; omega
  have q17 : ((op : Int) == 17) = false := by simp; omega
  have q20 : ((op : Int) == 20) = false := by simp; omega
  have q23 : ((op : Int) == 23) = false := by simp; omega
  have hr : argsN op = 0 := by unfold argsN; simp [h4, h17, h20, h23]
  rw [hr]
  go_enter Tryz.func137, Tryz.ntmps137
  go_wp2_with fail
  go_ret
  exact ⟨rfl, rfl⟩
theorem tinto_ok {w : World} {op : Nat} : Calls Tryz.prog 138 #[.int .u8 (op : Int)] w fun z w' => z = .returned (.bool (intoB op)) ∧ w' = w := by
  by_cases h3 : op = 3
  · subst h3
    go_enter Tryz.func138, Tryz.ntmps138
    go_wp2_with fail
    go_ret
    exact ⟨rfl, rfl⟩
  by_cases h4 : op = 4
  · subst h4
    go_enter Tryz.func138, Tryz.ntmps138
    go_wp2_with fail
    go_ret
    exact ⟨rfl, rfl⟩
  by_cases h11 : op = 11
  · subst h11
    go_enter Tryz.func138, Tryz.ntmps138
    go_wp2_with fail
    go_ret
    exact ⟨rfl, rfl⟩
  by_cases h21 : op = 21
  · subst h21
    go_enter Tryz.func138, Tryz.ntmps138
    go_wp2_with fail
    go_ret
    exact ⟨rfl, rfl⟩
  by_cases h22 : op = 22
  · subst h22
    go_enter Tryz.func138, Tryz.ntmps138
    go_wp2_with fail
    go_ret
    exact ⟨rfl, rfl⟩
  have q3 : ((op : Int) == 3) = false := by simp; omega
  have q4 : ((op : Int) == 4) = false := by simp; omega
  have q11 : ((op : Int) == 11) = false := by simp; omega
  have q21 : ((op : Int) == 21) = false := by simp; omega
  have q22 : ((op : Int) == 22) = false := by simp; omega
  have hr : intoB op = false := by unfold intoB; simp [h3, h4, h11, h21, h22]
  rw [hr]
  go_enter Tryz.func138, Tryz.ntmps138
  go_wp2_with fail
  go_ret
  exact ⟨rfl, rfl⟩
def stA (kd op : Nat) (obj into : List UInt8) (nv : Int) (a5 : Option Addr) (na c5 : Nat) (a6 : Option Addr) (nb c6 : Nat) (a7 : Option Addr) (ne c7 : Nat) (line : Int) : Array Value :=
  #[.int .u8 (kd : Int), .int .u8 (op : Int), .string ⟨obj.toArray⟩, .string ⟨into.toArray⟩, .int .i64 nv, .slice a5 na c5, .slice a6 nb c6, .slice a7 ne c7, .int .i64 line]
theorem shape1_ok {w : World} (hM : Mx w) {op na nb ne c5 c6 c7 : Nat} {a5 a6 a7 : Option Addr} {obj into : List UInt8} {nv line : Int} (ho : obj.length ≤ 9223372036854775807) (hi : into.length ≤ 9223372036854775807) (hna : na ≤ 9223372036854775807) (hin : nb + ne ≤ 9223372036854775807) :
    Calls Tryz.prog 112 #[.agg (stA 1 op obj into nv a5 na c5 a6 nb c6 a7 ne c7 line)] w fun z w' => z = .returned (.bool (shapeN 1 op obj into nv na nb ne)) ∧ Nw w w' := by
  have N := Lib.hid ((Nw.refl w).alloc (.cells (stA 1 op obj into nv a5 na c5 a6 nb c6 a7 ne c7 line) 144))
  have B := heap_alloc_new w (.cells (stA 1 op obj into nv a5 na c5 a6 nb c6 a7 ne c7 line) 144)
  have HM := Lib.hid (fun (W : World) (hW : Nw w W) => hM.nw hW)
  obtain ⟨R, hR⟩ : ∃ R, shapeN 1 op obj into nv na nb ne = R := ⟨_, rfl⟩
  have HR := Lib.hid hR
  rw [hR]
  have HO := Lib.hid ho
  have HI := Lib.hid hi
  unfold stA at N B ⊢
  have hw : IntKind.i64.wrap ((nb : Int) + (ne : Int)) = ((nb + ne : Nat) : Int) := by rw [← Int.natCast_add]; exact IntWalk.i64_in _ (by omega)
  obtain ⟨b0, b1, b2, b3, b4, b5, b6, b7, b8, bf⟩ := box9 B
  clear hM hR ho hi
  go_enter Tryz.func112, Tryz.ntmps112
  go_upto_region 4 with fail
  obtain ⟨w1, hw1⟩ : ∃ w1, w.alloc (.cells #[.int .u8 1, .int .u8 (op : Int), .string ⟨obj.toArray⟩, .string ⟨into.toArray⟩, .int .i64 nv, .slice a5 na c5, .slice a6 nb c6, .slice a7 ne c7, .int .i64 line] 144) = w1 := ⟨_, rfl⟩
  obtain ⟨eb, heb⟩ : ∃ eb, w.heap.size = eb := ⟨_, rfl⟩
  have PB : Hid (w1.heap[eb]? = some (.cells #[.int .u8 ((1 : Nat) : Int), .int .u8 (op : Int), .string ⟨obj.toArray⟩, .string ⟨into.toArray⟩, .int .i64 nv, .slice a5 na c5, .slice a6 nb c6, .slice a7 ne c7, .int .i64 line] 144 (0, 0))) := Lib.hid (by rw [← hw1, ← heb]; exact heap_alloc_new w _)
  have N1 : Hid (Nw w w1) := Lib.hid (by rw [← hw1]; exact (Nw.refl w).alloc _)
  rw [hw1, heb]
  rw [← Int.natCast_add]
  clear b0 b1 b2 b3 b4 b5 b6 b7 b8 bf B N hw1 heb hw
  obtain ⟨inn, hinn⟩ : ∃ x, nb + ne = x := ⟨_, rfl⟩
  rw [hinn] at hin ⊢
  have HNM : ∀ b, nameB obj = b → Hid (∀ W, Nw w1 W → Calls Tryz.prog 70 #[.string ⟨obj.toArray⟩] W fun z w' => z = .returned (.bool b) ∧ Nw W w') := fun b hb => Lib.hid fun W hW => by rw [← hb]; exact isName_ok (HM.out W (N1.out.trans hW)) HO.out
  have HAR : Hid (∀ W, Calls Tryz.prog 137 #[.int .u8 (op : Int)] W fun z w' => z = .returned (.int .i64 (argsN op : Int)) ∧ w' = W) := Lib.hid fun W => targs_ok
  have hres := HR.out
  unfold shapeN at hres
  rw [if_pos rfl] at hres
  by_cases c1 : op < 1
  · skip
    have h17 : decide ((op : Int) < 1) = true := by simp; omega
    have hR0 : R = false := by rw [← hres]; simp; omega
    subst hR0
    refine shp_lo PB (HNM _ rfl) HAR h17 ?_
    rintro s15 s16 s17 s18 s19 s20 s21 s22 s23 s24 s25 s26 s27 s28 s29 s30 s31 s32 s33 s34 s35 s36 s37 s38 s39 s40 s41 s42 s43 s44 s45 s46 s47 s48 s49 s50 s51 s52 s53 s54 s55 s56 s57 wx nx rfl
    go_wp2_with fail
    go_ret
    exact ⟨rfl, N1.out.trans nx⟩
  have h17 : decide ((op : Int) < 1) = false := by simp; omega
  by_cases c2 : 23 < op
  · skip
    have h21 : decide (23 < (op : Int)) = true := by simp; omega
    have hR0 : R = false := by rw [← hres]; simp; omega
    subst hR0
    refine shp_hi PB (HNM _ rfl) HAR h17 h21 ?_
    rintro s15 s16 s17 s18 s19 s20 s21 s22 s23 s24 s25 s26 s27 s28 s29 s30 s31 s32 s33 s34 s35 s36 s37 s38 s39 s40 s41 s42 s43 s44 s45 s46 s47 s48 s49 s50 s51 s52 s53 s54 s55 s56 s57 wx nx rfl
    go_wp2_with fail
    go_ret
    exact ⟨rfl, N1.out.trans nx⟩
  have h21 : decide (23 < (op : Int)) = false := by simp; omega
  by_cases c3 : nameB obj = false
  · skip
    have hR0 : R = false := by rw [← hres]; simp [c3]
    subst hR0
    refine shp_nm PB (HNM false c3) HAR h17 h21 ?_
    rintro s15 s16 s17 s18 s19 s20 s21 s22 s23 s24 s25 s26 s27 s28 s29 s30 s31 s32 s33 s34 s35 s36 s37 s38 s39 s40 s41 s42 s43 s44 s45 s46 s47 s48 s49 s50 s51 s52 s53 s54 s55 s56 s57 wx nx rfl
    go_wp2_with fail
    go_ret
    exact ⟨rfl, N1.out.trans nx⟩
  have h26 : nameB obj = true := by simpa using c3
  by_cases c4 : nv ≠ 0
  · skip
    have h32 : (nv != 0) = true := by simp; omega
    have hR0 : R = false := by rw [← hres]; simp [c4]
    subst hR0
    refine shp_nv PB (HNM true h26) HAR h17 h21 h32 ?_
    rintro s15 s16 s17 s18 s19 s20 s21 s22 s23 s24 s25 s26 s27 s28 s29 s30 s31 s32 s33 s34 s35 s36 s37 s38 s39 s40 s41 s42 s43 s44 s45 s46 s47 s48 s49 s50 s51 s52 s53 s54 s55 s56 s57 wx nx rfl
    go_wp2_with fail
    go_ret
    exact ⟨rfl, N1.out.trans nx⟩
  have h32 : (nv != 0) = false := by simp; omega
  by_cases c5 : na ≠ argsN op
  · skip
    have h41 : ((na : Int) != (argsN op : Int)) = true := by simp; omega
    have hR0 : R = false := by rw [← hres]; simp [c5]
    subst hR0
    refine shp_na PB (HNM true h26) HAR h17 h21 h32 h41 ?_
    rintro s15 s16 s17 s18 s19 s20 s21 s22 s23 s24 s25 s26 s27 s28 s29 s30 s31 s32 s33 s34 s35 s36 s37 s38 s39 s40 s41 s42 s43 s44 s45 s46 s47 s48 s49 s50 s51 s52 s53 s54 s55 s56 s57 wx nx rfl
    go_wp2_with fail
    go_ret
    exact ⟨rfl, N1.out.trans nx⟩
  have h41 : ((na : Int) != (argsN op : Int)) = false := by simp; omega
  by_cases c6 : 0 < ne
  · skip
    have h47 : 0 < ne := c6
    have hR0 : R = false := by rw [← hres]; simp; omega
    subst hR0
    refine shp_ne PB (HNM true h26) HAR h17 h21 h32 h41 h47 ?_
    rintro s15 s16 s17 s18 s19 s20 s21 s22 s23 s24 s25 s26 s27 s28 s29 s30 s31 s32 s33 s34 s35 s36 s37 s38 s39 s40 s41 s42 s43 s44 s45 s46 s47 s48 s49 s50 s51 s52 s53 s54 s55 s56 s57 wx nx rfl
    go_wp2_with fail
    go_ret
    exact ⟨rfl, N1.out.trans nx⟩
  have h47 : ne = 0 := by omega
  by_cases c7 : 0 < inn
  · have h51 : 0 < inn := c7
    by_cases c8 : op = 16
    · have h55 : ((op : Int) != 16) = false := by simp; omega
      have hR0 : (if intoB op = true then nameB into else decide (into = [])) = R := by
        have k5 : na = argsN op := by omega
        have k4 : nv = 0 := by omega
        rw [← hres]; simp [h26, k5, k4, c8]; omega
      refine shp_do PB (HNM true h26) HAR h17 h21 h32 h41 h47 h51 h55 ?_
      rintro s15 s16 s17 s18 s19 s20 s21 s22 s23 s24 s25 s26 s27 s28 s29 s30 s31 s32 s33 s34 s35 s36 s37 s38 s39 s40 s41 s42 s43 s44 s45 s46 s47 s48 s49 s50 s51 s52 s53 s54 s55 s56 s57 wx nx rfl
      have N2 := Lib.hid (N1.out.trans nx)
      have P2 := Lib.hid (nx.at_ PB.out)
      have NI := Lib.hid (fun (W : World) (hW : Nw wx W) => isName_ok (HM.out W (N2.out.trans hW)) HI.out)
      obtain ⟨b0, b1, b2, b3, b4, b5, b6, b7, b8, bf⟩ := box9 P2.out
      have HR0 := Lib.hid hR0
      clear hR0 nx hres h17 h21 h26 h32 h41 h47 h51 c1 c2 c3 c4 c5 c6 c7 c8 h55
      cases hio : intoB op with
      | true =>
        have IO := Lib.hid (fun (W : World) => tinto_ok (w := W) (op := op))
        rw [hio] at IO
        obtain ⟨y, hy⟩ : ∃ y, nameB into = y := ⟨_, rfl⟩
        have hRy : R = y := by rw [← HR0.out, hio, ← hy]; rfl
        rw [hy] at NI
        subst hRy
        clear hio
        go_wp2_with fail
        refine (IO.out wx).mono ?_
        rintro z w3 ⟨rfl, rfl⟩
        go_wp2_with fail
        refine (NI.out _ (Nw.refl _)).mono ?_
        rintro z w4 ⟨rfl, n4⟩
        have N4 := Lib.hid (N2.out.trans n4)
        clear n4
        go_wp2_with fail
        go_ret
        exact ⟨rfl, N4.out⟩
      | false =>
        have IO := Lib.hid (fun (W : World) => tinto_ok (w := W) (op := op))
        rw [hio] at IO
        obtain ⟨y, hy⟩ : ∃ y, (into == []) = y := ⟨_, rfl⟩
        have hRy : R = y := by rw [← HR0.out, hio, ← hy]; cases into <;> simp
        subst hRy
        have HY := Lib.hid hy
        clear hio
        go_wp2_with fail
        refine (IO.out wx).mono ?_
        rintro z w3 ⟨rfl, rfl⟩
        go_wp2_with fail
        go_ret
        exact ⟨rfl, N2.out⟩
    · have h55 : ((op : Int) != 16) = true := by simp; omega
      have hR0 : R = false := by rw [← hres]; simp [c8]; omega
      subst hR0
      refine shp_in PB (HNM true h26) HAR h17 h21 h32 h41 h47 h51 h55 ?_
      rintro s15 s16 s17 s18 s19 s20 s21 s22 s23 s24 s25 s26 s27 s28 s29 s30 s31 s32 s33 s34 s35 s36 s37 s38 s39 s40 s41 s42 s43 s44 s45 s46 s47 s48 s49 s50 s51 s52 s53 s54 s55 s56 s57 wx nx rfl
      go_wp2_with fail
      go_ret
      exact ⟨rfl, N1.out.trans nx⟩
  · have h51 : inn = 0 := by omega
    have hR0 : (if intoB op = true then nameB into else decide (into = [])) = R := by rw [← hres]; simp [h26]; omega
    refine shp_ok PB (HNM true h26) HAR h17 h21 h32 h41 h47 h51 ?_
    rintro s15 s16 s17 s18 s19 s20 s21 s22 s23 s24 s25 s26 s27 s28 s29 s30 s31 s32 s33 s34 s35 s36 s37 s38 s39 s40 s41 s42 s43 s44 s45 s46 s47 s48 s49 s50 s51 s52 s53 s54 s55 s56 s57 wx nx rfl
    have N2 := Lib.hid (N1.out.trans nx)
    have P2 := Lib.hid (nx.at_ PB.out)
    have NI := Lib.hid (fun (W : World) (hW : Nw wx W) => isName_ok (HM.out W (N2.out.trans hW)) HI.out)
    obtain ⟨b0, b1, b2, b3, b4, b5, b6, b7, b8, bf⟩ := box9 P2.out
    have HR0 := Lib.hid hR0
    clear hR0 nx hres h17 h21 h26 h32 h41 h47 h51 c1 c2 c3 c4 c5 c6 c7
    cases hio : intoB op with
    | true =>
      have IO := Lib.hid (fun (W : World) => tinto_ok (w := W) (op := op))
      rw [hio] at IO
      obtain ⟨y, hy⟩ : ∃ y, nameB into = y := ⟨_, rfl⟩
      have hRy : R = y := by rw [← HR0.out, hio, ← hy]; rfl
      rw [hy] at NI
      subst hRy
      clear hio
      go_wp2_with fail
      refine (IO.out wx).mono ?_
      rintro z w3 ⟨rfl, rfl⟩
      go_wp2_with fail
      refine (NI.out _ (Nw.refl _)).mono ?_
      rintro z w4 ⟨rfl, n4⟩
      have N4 := Lib.hid (N2.out.trans n4)
      clear n4
      go_wp2_with fail
      go_ret
      exact ⟨rfl, N4.out⟩
    | false =>
      have IO := Lib.hid (fun (W : World) => tinto_ok (w := W) (op := op))
      rw [hio] at IO
      obtain ⟨y, hy⟩ : ∃ y, (into == []) = y := ⟨_, rfl⟩
      have hRy : R = y := by rw [← HR0.out, hio, ← hy]; cases into <;> simp
      subst hRy
      have HY := Lib.hid hy
      clear hio
      go_wp2_with fail
      refine (IO.out wx).mono ?_
      rintro z w3 ⟨rfl, rfl⟩
      go_wp2_with fail
      go_ret
      exact ⟨rfl, N2.out⟩
end Go.Proofs.YtcmaedoolinijaaGreatDoor

namespace Go.Proofs.YtcmaedoolinijaaGreatDoor
open Go Go.RowKit Go.Sort
set_option maxRecDepth 100000
set_option maxHeartbeats 3200000
theorem shape2_ok {w : World} (hM : Mx w) {kd op na nb ne c5 c6 c7 : Nat} {a5 a6 a7 : Option Addr} {obj into : List UInt8} {nv line : Int} (ho : obj.length ≤ 9223372036854775807) (hi : into.length ≤ 9223372036854775807) (hna : na ≤ 9223372036854775807) (hin : nb + ne ≤ 9223372036854775807) :
    Calls Tryz.prog 112 #[.agg (stA 2 op obj into nv a5 na c5 a6 nb c6 a7 ne c7 line)] w fun z w' => z = .returned (.bool (shapeN 2 op obj into nv na nb ne)) ∧ Nw w w' := by
  have HM := Lib.hid (fun (W : World) (hW : Nw w W) => hM.nw hW)
  obtain ⟨yn, hyn⟩ : ∃ y, nameB into = y := ⟨_, rfl⟩
  have NM0 := Lib.hid (fun (W : World) (hW : Nw w W) => by have := isName_ok (HM.out W hW) hi; rw [hyn] at this; exact this)
  obtain ⟨R, hR⟩ : ∃ R, shapeN 2 op obj into nv na nb ne = R := ⟨_, rfl⟩
  rw [hR]
  unfold shapeN at hR
  unfold stA
  have hw : IntKind.i64.wrap ((nb : Int) + (ne : Int)) = (nb : Int) + (ne : Int) := IntWalk.i64_in _ (by omega)
  clear hM ho hi
  go_enter Tryz.func112, Tryz.ntmps112
  go_upto_region 1 with fail
  obtain ⟨w1, hw1⟩ : ∃ w1, w.alloc (.cells #[.int .u8 2, .int .u8 (op : Int), .string ⟨obj.toArray⟩, .string ⟨into.toArray⟩, .int .i64 nv, .slice a5 na c5, .slice a6 nb c6, .slice a7 ne c7, .int .i64 line] 144) = w1 := ⟨_, rfl⟩
  obtain ⟨eb, heb⟩ : ∃ eb, w.heap.size = eb := ⟨_, rfl⟩
  have PB : Hid (w1.heap[eb]? = some (.cells #[.int .u8 2, .int .u8 (op : Int), .string ⟨obj.toArray⟩, .string ⟨into.toArray⟩, .int .i64 nv, .slice a5 na c5, .slice a6 nb c6, .slice a7 ne c7, .int .i64 line] 144 (0, 0))) := Lib.hid (by rw [← hw1, ← heb]; exact heap_alloc_new w _)
  have N : Hid (Nw w w1) := Lib.hid (by rw [← hw1]; exact (Nw.refl w).alloc _)
  rw [hw1, heb]
  clear hw1 heb
  have NM := Lib.hid (NM0.out w1 N.out)
  obtain ⟨b0, b1, b2, b3, b4, b5, b6, b7, b8, bf⟩ := box9 PB.out
  by_cases ncop : ¬ (op = 0)
  · have q1 : ((op : Int) == 0) = false := by simp; omega
    have hR0 : R = false := by rw [← hR]; simp [ncop]
    subst hR0
    clear hR
    go_wp2_with fail
    go_ret
    exact ⟨rfl, N.out⟩
  have cop : op = 0 := Decidable.not_not.1 ncop
  by_cases ncob : ¬ (obj = [])
  · have q1 : ((op : Int) == 0) = true := by simp; omega
    have q2 : (obj == []) = false := by cases obj <;> simp_all
    have hR0 : R = false := by rw [← hR]; simp [ncob]
    subst hR0
    clear hR
    go_wp2_with fail
    go_ret
    exact ⟨rfl, N.out⟩
  have cob : obj = [] := Decidable.not_not.1 ncob
  by_cases ncnv : ¬ (nv = 0)
  · have q1 : ((op : Int) == 0) = true := by simp; omega
    have q2 : (obj == []) = true := by simp [cob]
    have q3 : (nv == 0) = false := by simp [ncnv]
    have hR0 : R = false := by rw [← hR]; simp [ncnv]
    subst hR0
    clear hR
    go_wp2_with fail
    go_ret
    exact ⟨rfl, N.out⟩
  have cnv : nv = 0 := Decidable.not_not.1 ncnv
  by_cases ncna : ¬ (na = 1)
  · have q1 : ((op : Int) == 0) = true := by simp; omega
    have q2 : (obj == []) = true := by simp [cob]
    have q3 : (nv == 0) = true := by simp [cnv]
    have q4 : ((na : Int) == 1) = false := by simp; omega
    have hR0 : R = false := by rw [← hR]; simp [ncna]
    subst hR0
    clear hR
    go_wp2_with fail
    go_ret
    exact ⟨rfl, N.out⟩
  have cna : na = 1 := Decidable.not_not.1 ncna
  by_cases ncin : ¬ (nb + ne = 0)
  · have q1 : ((op : Int) == 0) = true := by simp; omega
    have q2 : (obj == []) = true := by simp [cob]
    have q3 : (nv == 0) = true := by simp [cnv]
    have q4 : ((na : Int) == 1) = true := by simp; omega
    have q5 : ((nb : Int) + (ne : Int) == 0) = false := by simp; omega
    have hR0 : R = false := by rw [← hR]; simp; omega
    subst hR0
    clear hR
    go_wp2_with fail
    go_ret
    exact ⟨rfl, N.out⟩
  have cin : nb + ne = 0 := Decidable.not_not.1 ncin
  have q1 : ((op : Int) == 0) = true := by simp; omega
  have q2 : (obj == []) = true := by simp [cob]
  have q3 : (nv == 0) = true := by simp [cnv]
  have q4 : ((na : Int) == 1) = true := by simp; omega
  have q5 : ((nb : Int) + (ne : Int) == 0) = true := by simp; omega
  have hR0 : R = yn := by rw [← hR]; simp [cop, cob, cnv, cna, cin, hyn]; try omega
  subst hR0
  clear hR hyn
  go_wp2_with fail
  refine NM.out.mono ?_
  rintro z w1 ⟨rfl, n1⟩
  have N1 := Lib.hid (N.out.trans n1)
  clear n1
  go_wp2_with fail
  go_ret
  exact ⟨rfl, N1.out⟩
theorem shape0_ok {w : World} (hM : Mx w) {kd op na nb ne c5 c6 c7 : Nat} {a5 a6 a7 : Option Addr} {obj into : List UInt8} {nv line : Int} (ho : obj.length ≤ 9223372036854775807) (hi : into.length ≤ 9223372036854775807) (hna : na ≤ 9223372036854775807) (hin : nb + ne ≤ 9223372036854775807) (h1 : kd ≠ 1) (h2 : kd ≠ 2) :
    Calls Tryz.prog 112 #[.agg (stA kd op obj into nv a5 na c5 a6 nb c6 a7 ne c7 line)] w fun z w' => z = .returned (.bool (shapeN kd op obj into nv na nb ne)) ∧ Nw w w' := by
  have HM := Lib.hid (fun (W : World) (hW : Nw w W) => hM.nw hW)
  obtain ⟨yn, hyn⟩ : ∃ y, nameB into = y := ⟨_, rfl⟩
  have NM0 := Lib.hid (fun (W : World) (hW : Nw w W) => by have := isName_ok (HM.out W hW) hi; rw [hyn] at this; exact this)
  obtain ⟨R, hR⟩ : ∃ R, shapeN kd op obj into nv na nb ne = R := ⟨_, rfl⟩
  rw [hR]
  unfold shapeN at hR
  unfold stA
  have hw : IntKind.i64.wrap ((nb : Int) + (ne : Int)) = (nb : Int) + (ne : Int) := IntWalk.i64_in _ (by omega)
  clear hM ho hi
  go_enter Tryz.func112, Tryz.ntmps112
  go_upto_region 1 with fail
  obtain ⟨w1, hw1⟩ : ∃ w1, w.alloc (.cells #[.int .u8 (kd : Int), .int .u8 (op : Int), .string ⟨obj.toArray⟩, .string ⟨into.toArray⟩, .int .i64 nv, .slice a5 na c5, .slice a6 nb c6, .slice a7 ne c7, .int .i64 line] 144) = w1 := ⟨_, rfl⟩
  obtain ⟨eb, heb⟩ : ∃ eb, w.heap.size = eb := ⟨_, rfl⟩
  have PB : Hid (w1.heap[eb]? = some (.cells #[.int .u8 (kd : Int), .int .u8 (op : Int), .string ⟨obj.toArray⟩, .string ⟨into.toArray⟩, .int .i64 nv, .slice a5 na c5, .slice a6 nb c6, .slice a7 ne c7, .int .i64 line] 144 (0, 0))) := Lib.hid (by rw [← hw1, ← heb]; exact heap_alloc_new w _)
  have N : Hid (Nw w w1) := Lib.hid (by rw [← hw1]; exact (Nw.refl w).alloc _)
  rw [hw1, heb]
  clear hw1 heb
  have NM := Lib.hid (NM0.out w1 N.out)
  obtain ⟨b0, b1, b2, b3, b4, b5, b6, b7, b8, bf⟩ := box9 PB.out
  have qk1 : ((kd : Int) == 1) = false := by simp; omega
  have qk2 : ((kd : Int) == 2) = false := by simp; omega
  by_cases ncop : ¬ (op = 0)
  · have q1 : ((op : Int) != 0) = true := by simp; omega
    have hR0 : R = false := by rw [← hR]; simp [ncop, h1, h2]
    subst hR0
    clear hR
    go_wp2_with fail
    go_ret
    exact ⟨rfl, N.out⟩
  have cop : op = 0 := Decidable.not_not.1 ncop
  by_cases ncob : ¬ (obj = [])
  · have q1 : ((op : Int) != 0) = false := by simp; omega
    have q2 : (obj != []) = true := by simp [ncob]
    have hR0 : R = false := by rw [← hR]; simp [ncob, h1, h2]
    subst hR0
    clear hR
    go_wp2_with fail
    go_ret
    exact ⟨rfl, N.out⟩
  have cob : obj = [] := Decidable.not_not.1 ncob
  by_cases ncit : ¬ (into = [])
  · have q1 : ((op : Int) != 0) = false := by simp; omega
    have q2 : (obj != []) = false := by simp [cob]
    have q6 : into.isEmpty = false := by cases into <;> simp_all
    have hR0 : R = false := by rw [← hR]; simp [ncit, h1, h2]
    subst hR0
    clear hR
    go_wp2_with fail
    go_ret
    exact ⟨rfl, N.out⟩
  have cit : into = [] := Decidable.not_not.1 ncit
  by_cases h3 : kd = 3
  · skip
    by_cases cn : 0 ≤ nv
    · by_cases ca : na = 0
      · by_cases ce : ne = 0
        · have q1 : ((op : Int) != 0) = false := by simp; omega
          have q2 : (obj != []) = false := by simp [cob]
          have q6 : (into != []) = false := by simp [cit]
          have qk3 : ((kd : Int) == 3) = true := by simp; omega
          have u1 : decide (0 ≤ nv) = true := by simp; omega
          have u2 : ((na : Int) == 0) = true := by simp; omega
          have u3 : ((ne : Int) == 0) = true := by simp; omega
          have hR0 : R = true := by rw [← hR]; simp [cop, cob, cit, h1, h2, h3, cn, ca, ce]
          subst hR0
          clear hR
          go_wp2_with fail
          go_ret
          exact ⟨rfl, N.out⟩
        · have q1 : ((op : Int) != 0) = false := by simp; omega
          have q2 : (obj != []) = false := by simp [cob]
          have q6 : (into != []) = false := by simp [cit]
          have qk3 : ((kd : Int) == 3) = true := by simp; omega
          have u1 : decide (0 ≤ nv) = true := by simp; omega
          have u2 : ((na : Int) == 0) = true := by simp; omega
          have u3 : ((ne : Int) == 0) = false := by simp; omega
          have hR0 : R = false := by rw [← hR]; simp [cop, cob, cit, h1, h2, h3, ce]
          subst hR0
          clear hR
          go_wp2_with fail
          go_ret
          exact ⟨rfl, N.out⟩
      · have q1 : ((op : Int) != 0) = false := by simp; omega
        have q2 : (obj != []) = false := by simp [cob]
        have q6 : (into != []) = false := by simp [cit]
        have qk3 : ((kd : Int) == 3) = true := by simp; omega
        have u1 : decide (0 ≤ nv) = true := by simp; omega
        have u2 : ((na : Int) == 0) = false := by simp; omega
        have hR0 : R = false := by rw [← hR]; simp [cop, cob, cit, h1, h2, h3, ca]
        subst hR0
        clear hR
        go_wp2_with fail
        go_ret
        exact ⟨rfl, N.out⟩
    · have q1 : ((op : Int) != 0) = false := by simp; omega
      have q2 : (obj != []) = false := by simp [cob]
      have q6 : (into != []) = false := by simp [cit]
      have qk3 : ((kd : Int) == 3) = true := by simp; omega
      have u1 : decide (0 ≤ nv) = false := by simp; omega
      have hR0 : R = false := by rw [← hR]; simp [cop, cob, cit, h1, h2, h3, cn]
      subst hR0
      clear hR
      go_wp2_with fail
      go_ret
      exact ⟨rfl, N.out⟩
  by_cases h4 : kd = 4
  · skip
    by_cases cn : nv = 0
    · by_cases ca : na = 1
      · have q1 : ((op : Int) != 0) = false := by simp; omega
        have q2 : (obj != []) = false := by simp [cob]
        have q6 : (into != []) = false := by simp [cit]
        have qk3 : ((kd : Int) == 3) = false := by simp; omega
        have qk4 : ((kd : Int) == 4) = true := by simp; omega
        have u1 : (nv == 0) = true := by simp; omega
        have u2 : ((na : Int) == 1) = true := by simp; omega
        have hR0 : R = true := by rw [← hR]; simp [cop, cob, cit, h1, h2, h3, h4, cn, ca]
        subst hR0
        clear hR
        go_wp2_with fail
        go_ret
        exact ⟨rfl, N.out⟩
      · have q1 : ((op : Int) != 0) = false := by simp; omega
        have q2 : (obj != []) = false := by simp [cob]
        have q6 : (into != []) = false := by simp [cit]
        have qk3 : ((kd : Int) == 3) = false := by simp; omega
        have qk4 : ((kd : Int) == 4) = true := by simp; omega
        have u1 : (nv == 0) = true := by simp; omega
        have u2 : ((na : Int) == 1) = false := by simp; omega
        have hR0 : R = false := by rw [← hR]; simp [cop, cob, cit, h1, h2, h3, h4, ca]
        subst hR0
        clear hR
        go_wp2_with fail
        go_ret
        exact ⟨rfl, N.out⟩
    · have q1 : ((op : Int) != 0) = false := by simp; omega
      have q2 : (obj != []) = false := by simp [cob]
      have q6 : (into != []) = false := by simp [cit]
      have qk3 : ((kd : Int) == 3) = false := by simp; omega
      have qk4 : ((kd : Int) == 4) = true := by simp; omega
      have u1 : (nv == 0) = false := by simp; omega
      have hR0 : R = false := by rw [← hR]; simp [cop, cob, cit, h1, h2, h3, h4, cn]
      subst hR0
      clear hR
      go_wp2_with fail
      go_ret
      exact ⟨rfl, N.out⟩
  have q1 : ((op : Int) != 0) = false := by simp; omega
  have q2 : (obj != []) = false := by simp [cob]
  have q6 : (into != []) = false := by simp [cit]
  have qk3 : ((kd : Int) == 3) = false := by simp; omega
  have qk4 : ((kd : Int) == 4) = false := by simp; omega
  have hR0 : R = false := by rw [← hR]; simp [cop, cob, cit, h1, h2, h3, h4]
  subst hR0
  clear hR
  go_wp2_with fail
  go_ret
  exact ⟨rfl, N.out⟩
theorem shape_ok {w : World} (hM : Mx w) {kd op na nb ne c5 c6 c7 : Nat} {a5 a6 a7 : Option Addr} {obj into : List UInt8} {nv line : Int} (ho : obj.length ≤ 9223372036854775807) (hi : into.length ≤ 9223372036854775807) (hna : na ≤ 9223372036854775807) (hin : nb + ne ≤ 9223372036854775807) :
    Calls Tryz.prog 112 #[.agg (stA kd op obj into nv a5 na c5 a6 nb c6 a7 ne c7 line)] w fun z w' => z = .returned (.bool (shapeN kd op obj into nv na nb ne)) ∧ Nw w w' := by
  by_cases h1 : kd = 1
  · subst h1; exact shape1_ok hM ho hi hna hin
  by_cases h2 : kd = 2
  · subst h2; exact shape2_ok (kd := 2) hM ho hi hna hin
  exact shape0_ok hM ho hi hna hin h1 h2
end Go.Proofs.YtcmaedoolinijaaGreatDoor
