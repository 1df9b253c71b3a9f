/-
  amanuensislaw02.DiskRename: behind Rename the name has the one's bytes, as many as were synced or are kept.
-/
import Derived.Test.YtihagdadbeoeoaaDoorAwake
import Derived.Test.YtihagdadbeoeoaaDoorClose
import Derived.Test.YtihagdadbeoeoaaDoorCut
import Derived.Test.YtihagdadbeoeoaaDoorMix
import Derived.Test.YtihagdadbeoeoaaDoorHasn
namespace Go.Proofs.YtihagdadbeoeoaaDoor.DiskRename
open Go Go.RowKit Go.Sort
set_option maxRecDepth 100000
set_option maxHeartbeats 1600000

/-! ### Plain words -/
theorem m21 : min (2 : Int) 1 = 1 := by decide
section
variable (one other : List UInt8) (k keep : Nat)
def e0 : Dsk := newDsk 1000
def e1 : Dsk := { e0 with files := [([98], ⟨other, 0⟩)] }
def e2 : Dsk := { e0 with files := [([98], ⟨other, other.length⟩)] }
def e3 : Dsk := { e0 with files := [([98], ⟨other, other.length⟩), ([97], ⟨one.take k, 0⟩)] }
def e4 : Dsk := { e0 with files := [([98], ⟨other, other.length⟩), ([97], ⟨one.take k, k⟩)] }
def e5 : Dsk := { e0 with files := [([98], ⟨other, other.length⟩), ([97], ⟨one, k⟩)] }
def e6 : Dsk := { e0 with files := [([98], ⟨one, k⟩)] }
def e7 : Dsk := { e0 with files := [([98], ⟨one.take (min (k + keep) one.length), min (k + keep) one.length⟩)] }
variable {one other k keep}
theorem p1 (h : other.length ≤ 200) : e0.append [98] other = (e1 other, 0) := by
  have : okName [98] = true := by decide
  have h2 : ¬ ((1000 : Int) < (other.length : Nat)) := by omega
  simp [m21, Dsk.append, Dsk.op, Dsk.mayAppend, e0, e1, newDsk, this, usedF, namesF, h2, setF, fileOf, getF]
theorem p2 : (e1 other).sync [98] = (e2 other, 0) := by
  simp [m21, Dsk.sync, Dsk.op, Dsk.there, e0, e1, e2, newDsk, namesF, setF, fileOf, getF]
theorem p3 (h : other.length ≤ 200) (h1 : one.length ≤ 200) : (e2 other).append [97] (one.take k) = (e3 one other k, 0) := by
  have : okName [97] = true := by decide
  have h2 : ¬ ((1000 : Int) < (other.length + min k one.length : Nat)) := by omega
  have h2' : ¬ ((1000 : Int) < (other.length : Int) + (min k one.length : Nat)) := by omega
  simp [m21, Dsk.append, Dsk.op, Dsk.mayAppend, e0, e2, e3, newDsk, this, usedF, namesF, h2, h2', setF, fileOf, getF]
theorem p4 (hk : k ≤ one.length) : (e3 one other k).sync [97] = (e4 one other k, 0) := by
  simp [m21, Dsk.sync, Dsk.op, Dsk.there, e0, e3, e4, newDsk, namesF, setF, fileOf, getF, Nat.min_eq_left hk]
theorem p5 (h : other.length ≤ 200) (h1 : one.length ≤ 200) (hk : k ≤ one.length) : (e4 one other k).append [97] (one.drop k) = (e5 one other k, 0) := by
  have : okName [97] = true := by decide
  have h2 : ¬ ((1000 : Int) < (other.length + min k one.length + (one.length - k) : Nat)) := by omega
  have h2' : ¬ ((1000 : Int) < (other.length : Int) + (min k one.length : Nat) + (one.length - k : Nat)) := by omega
  simp [m21, Dsk.append, Dsk.op, Dsk.mayAppend, e0, e4, e5, newDsk, this, usedF, namesF, h2, h2', setF, fileOf, getF]
theorem p6 : (e5 one other k).rename [97] [98] = (e6 one k, 0) := by
  have : okName [98] = true := by decide
  simp [m21, Dsk.rename, Dsk.op, Dsk.there, e0, e5, e6, newDsk, this, namesF, setF, delF, fileOf, getF]
theorem p7 (hk : k ≤ one.length) : (e6 one k).crash [(keep : Int)] = e7 one k keep := by
  have e : k + min keep (one.length - k) = min (k + keep) one.length := by omega
  have hl : (e6 one k).list = [[98]] := by simp [Dsk.list, e6, namesF]
  unfold Dsk.crash
  rw [hl]
  simp [crashF, e6, e7, e0, newDsk, setF, fileOf, getF, leaves, e]
theorem p8 : (e7 one k keep).read [98] = (one.take (min (k + keep) one.length), 0) ∧ (e7 one k keep).read [97] = ([], 13) ∧ (e7 one k keep).list = [[98]] := by
  refine ⟨?_, ?_, ?_⟩
  · simp [Dsk.read, e7, e0, newDsk, getF]
  · simp [Dsk.read, e7, e0, newDsk, getF]
  · simp [Dsk.list, e7, namesF]
end

/-! ### The walk -/
theorem min_cast (a b c : Nat) : min ((a : Int) + (b : Int)) (c : Int) = ((min (a + b) c : Nat) : Int) := by omega
theorem walk (w : World) (v0 v1 : Value) (one other : List UInt8) (synced keep : UInt8) (h0 : Bs w v0 one) (h1 : Bs w v1 other) :
    Calls Tryd.prog 5 #[v0, v1, .int .u8 synced.toNat, .int .u8 keep.toNat] w fun e w' => e = .returned (.bool true) ∧ Nw w w' := by
  obtain ⟨a0, c0, rfl, hc0, hm0, -⟩ := h0.elems
  obtain ⟨a1, c1, rfl, hm1⟩ := h1.len
  go_enter Tryd.func5, Tryd.ntmps5
  go_wp2_with fail
  refine (Has.new 1000 _ (by omega) (by omega)).mono ?_
  rintro e w1 ⟨b, rfl, H1⟩
  by_cases hbig : 200 < one.length ∨ 200 < other.length
  · go_wp2_with fail
    all_goals refine (awake_ok w1).mono ?_
    all_goals rintro e w2 ⟨rfl, hw2⟩
    all_goals go_wp2
    all_goals go_ret
    all_goals first | exact ⟨rfl, H1.base.trans hw2⟩ | omega
  · have hl0 : one.length ≤ 200 := by omega
    have hl1 : other.length ≤ 200 := by omega
    have g0 : decide ((one.length : Int) > 200) = false := by simp; omega
    have g1 : decide ((other.length : Int) > 200) = false := by simp; omega
    have hy : synced.toNat < 256 := synced.toNat_lt
    have hw64 : wrap64 (synced.toNat : Int) = (synced.toNat : Int) := IntWalk.wrap64_in _ (by omega)
    obtain ⟨k, hk, hk1⟩ : ∃ k : Nat, ((synced.toNat : Int)).tmod ((one.length : Int) + 1) = (k : Int) ∧ k ≤ one.length := by
      refine ⟨synced.toNat % (one.length + 1), ?_, by have := Nat.mod_lt synced.toNat (show 0 < one.length + 1 by omega); omega⟩
      rw [Int.tmod_eq_emod_of_nonneg (by omega)]
      rfl
    have hk2 : (k : Int) ≤ (c0 : Int) := by omega
    have hk3 : (k : Int) ≤ (one.length : Int) := by omega
    have hk4 : (0 : Int) ≤ (k : Int) := by omega
    have hz : keep.toNat < 256 := keep.toNat_lt
    have hkw : wrap64 (keep.toNat : Int) = (keep.toNat : Int) := IntWalk.wrap64_in _ (by omega)
    have HKW := Lib.hid hkw
    clear hkw
    have hks : wrap64 ((k : Int) + (keep.toNat : Int)) = (k : Int) + (keep.toNat : Int) := IntWalk.wrap64_in _ (by omega)
    have HKS := Lib.hid hks
    clear hks
    obtain ⟨n, hn⟩ : ∃ n : Nat, n = min (k + keep.toNat) one.length := ⟨_, rfl⟩
    have hn1 : n ≤ one.length := by rw [hn]; exact Nat.min_le_right _ _
    have HN := Lib.hid hn
    clear hn
    have T2 := h0.take hn1
    have hsl : ∀ w, (Instr.slice 29 (.slice a0 one.length c0) none (some (.int .i64 n)) none).run Tryd.prog w = .ok (sliced a0 0 n c0 1) w := fun w => by
      have h1 : (n : Int) ≤ (c0 : Int) := by omega
      have h2 : (0 : Int) ≤ (n : Int) := by omega
      go_simp
    generalize sliced a0 0 n c0 1 = s2 at T2 hsl
    go_wp2_with fail
    refine wp_region_calls 24 [.rd 0, .rd 1, .rd 3, .rd 6, .rd 7, .rd 8, .rd 12, .rd 15, .rd 16, .rd 17, .rd 21, .rd 9, .rd 18, .dn 2, .dn 4, .rd 5, .dn 10, .rd 11, .dn 13, .rd 14, .dn 19, .rd 20, .dn 22, .rd 23] [24] (by kernel_rfl) (by kernel_rfl) (fun _ _ _ _ _ h => h) ?_
    have T0 := h0.take hk1
    have T1 := h0.drop hk1
    iterate 11 (refine wpSteps_rd rfl (fun K hK => ?_); go_simp; first | (refine hK _ ?_; clear hK K) | (refine ⟨_, fun _ => rfl, ?_⟩; refine hK _ ?_; clear hK K))
    refine wpSteps_val (sliced a0 0 k c0 1) rfl rfl (fun w _ => by go_simp) ?_
    generalize sliced a0 0 k c0 1 = s0 at T0 ⊢
    refine wpSteps_val (sliced a0 k one.length c0 1) rfl rfl (fun w _ => by go_simp) ?_
    generalize sliced a0 k one.length c0 1 = s1 at T1 ⊢
    simp only [Act.put, Array.setIfInBounds]
    have H2 := H1.nw ((Nw.refl w1).drew)
    refine wpSteps_dn rfl (fun K hK => ?_)
    go_wp2_with fail
    refine (H2.append [98] other _ h1 (by decide) (by omega) (p1 hl1)).mono ?_
    rintro e w2 ⟨rfl, H3⟩
    go_wp2
    refine hK _ _ trivial ?_; clear hK K
    refine wpSteps_dn rfl (fun K hK => ?_)
    go_wp2_with fail
    refine (H3.sync [98] p2).mono ?_
    rintro e w3 ⟨rfl, H4⟩
    go_wp2
    refine hK _ _ trivial ?_; clear hK K
    refine wpSteps_rd rfl (fun K hK => ?_); go_simp; first | (refine hK _ ?_; clear hK K) | (refine ⟨_, fun _ => rfl, ?_⟩; refine hK _ ?_; clear hK K)
    refine wpSteps_dn rfl (fun K hK => ?_)
    go_wp2_with fail
    refine (H4.append [97] (one.take k) _ T0 (by decide) (by rw [List.length_take]; omega) (p3 hl1 hl0)).mono ?_
    rintro e w4 ⟨rfl, H5⟩
    go_wp2
    refine hK _ _ trivial ?_; clear hK K
    refine wpSteps_rd rfl (fun K hK => ?_); go_simp; first | (refine hK _ ?_; clear hK K) | (refine ⟨_, fun _ => rfl, ?_⟩; refine hK _ ?_; clear hK K)
    refine wpSteps_dn rfl (fun K hK => ?_)
    go_wp2_with fail
    refine (H5.sync [97] (p4 hk1)).mono ?_
    rintro e w5 ⟨rfl, H6⟩
    go_wp2
    refine hK _ _ trivial ?_; clear hK K
    refine wpSteps_rd rfl (fun K hK => ?_); go_simp; first | (refine hK _ ?_; clear hK K) | (refine ⟨_, fun _ => rfl, ?_⟩; refine hK _ ?_; clear hK K)
    refine wpSteps_dn rfl (fun K hK => ?_)
    go_wp2_with fail
    refine (H6.append [97] (one.drop k) _ T1 (by decide) (by rw [List.length_drop]; omega) (p5 hl1 hl0 hk1)).mono ?_
    rintro e w6 ⟨rfl, H7⟩
    go_wp2
    refine hK _ _ trivial ?_; clear hK K
    refine wpSteps_rd rfl (fun K hK => ?_); go_simp; first | (refine hK _ ?_; clear hK K) | (refine ⟨_, fun _ => rfl, ?_⟩; refine hK _ ?_; clear hK K)
    refine wpSteps_dn rfl (fun K hK => ?_)
    go_wp2_with fail
    refine (H7.rename [97] [98] (by decide) p6).mono ?_
    rintro e w7 ⟨rfl, H8⟩
    go_wp2
    refine hK _ _ trivial ?_; clear hK K
    refine wpSteps_rd rfl (fun K hK => ?_); go_simp; first | (refine hK _ ?_; clear hK K) | (refine ⟨_, fun _ => rfl, ?_⟩; refine hK _ ?_; clear hK K)
    refine wpSteps_nil ?_
    refine wpNums_cons rfl ?_
    go_wp2
    refine ⟨fun _ => trivial, ?_⟩
    refine wpNums_nil ?_
    clear hw64 hk hk2 hk3 hk4 hy g0 g1
    have hkw := HKW.out
    go_wp2_with fail
    refine (H8.crash' _ [(keep.toNat : Int)] _ (rd_lit w7 _ _ _ _ 1 rfl (Nat.le_refl 1) (by decide)) (.inr rfl) (p7 hk1)).mono ?_
    rintro e w8 ⟨rfl, H9⟩
    go_wp2_with fail
    refine (H9.read [98] p8.1).mono ?_
    rintro e w9 ⟨v9, rfl, R9, H10, -⟩
    go_wp2_with fail
    refine (H10.readn [97] p8.2.1).mono ?_
    rintro e w10 ⟨v10, rfl, -, H11, -, hw10⟩
    have hks := HKS.out
    have hmin : min ((k : Int) + (keep.toNat : Int)) (one.length : Int) = (n : Int) := by rw [HN.out]; exact min_cast _ _ _
    go_wp2_with fail
    refine (H11.listn p8.2.2).mono ?_
    rintro e w11 ⟨v11, rfl, hv11, H12, -, hw11⟩
    obtain ⟨a11, c11, rfl, -⟩ := hv11.len
    go_wp2_with fail
    have hm := HN.out
    refine (SameBytes_ok ((R9.rd.nw hw10).nw hw11) (T2.nw H12.base)).mono ?_
    rintro e w12 ⟨rfl, hw12⟩
    subst hw12
    have H13 := H12
    clear hks
    have heq : (List.take (min (k + keep.toNat) one.length) one == List.take n one) = true := by rw [hm]; simp
    rw [heq]
    clear hm
    go_wp2_with fail
    refine (awake_ok w11).mono ?_
    rintro e w13 ⟨rfl, hw13⟩
    go_wp2
    go_ret
    exact ⟨rfl, H13.base.trans hw13⟩
end Go.Proofs.YtihagdadbeoeoaaDoor.DiskRename
