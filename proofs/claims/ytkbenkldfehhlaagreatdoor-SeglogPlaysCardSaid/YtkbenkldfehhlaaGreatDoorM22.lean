/-
  Texts merged by a program of this claim's: Ref01F, Ref01G, Ref05B, DocB, DocC.
-/
import Derived.Test.YtkbenkldfehhlaaGreatDoorM20
import Derived.Deep.DeepCutAuto
import Derived.Test.YtkbenkldfehhlaaGreatDoorM21
import Derived.Test.YtkbenkldfehhlaaGreatDoorM13
import Derived.Test.YtkbenkldfehhlaaGreatDoorM10
import Derived.Test.YtkbenkldfehhlaaGreatDoorM18
namespace Go.Proofs.YtkbenkldfehhlaaGreatDoor
open Go Go.RowKit Go.Sort
set_option maxRecDepth 100000
set_option maxHeartbeats 3200000
end Go.Proofs.YtkbenkldfehhlaaGreatDoor

namespace Go.Proofs.YtkbenkldfehhlaaGreatDoor
open Go Go.RowKit Go.Sort
set_option maxRecDepth 100000
set_option maxHeartbeats 1600000
end Go.Proofs.YtkbenkldfehhlaaGreatDoor

namespace Go.Proofs.YtkbenkldfehhlaaGreatDoor
open Go Go.RowKit Go.Sort
set_option maxRecDepth 100000
set_option maxHeartbeats 3200000
structure MB (w x : World) (v : Value) (l : List UInt8) : Prop where
  vec : Vec 1 x v l.length (l.map u8)
  nw : Nw w x
  new : ∀ g, v.ownBlock = some g → w.heap.size ≤ g
theorem MB.of {w x x' : World} {e : Ending} {l : List UInt8} (h : NewB x l e x') (hw : Nw w x) : ∃ a c, e = .returned (.slice a l.length c) ∧ MB w x' (.slice a l.length c) l := by
  obtain ⟨v, rfl, h2, h3, h4⟩ := h
  obtain ⟨a, c, rfl, -⟩ := h2.len
  exact ⟨a, c, rfl, h2, hw.trans h3, fun g hg => Nat.le_trans hw.size (h4 g hg)⟩
theorem MB.bs {w x : World} {v : Value} {l : List UInt8} (h : MB w x v l) : Bs x v l := h.vec.rd
theorem dManifest_no {w : World} {v : Value} {l : List Pc} (hv : Pcs w v l) (hr : rightL l = false) :
    Calls Tryz.prog 124 #[v] w fun e w' => e = .returned (.tuple #[.slice none 0 0, .int .i64 14]) ∧ Nw w w' := by
  have HV := Lib.hid hv
  obtain ⟨a, cap, rfl, hc, hm, -⟩ := hv.elem
  have HR := Lib.hid (dRight_ok hv)
  rw [hr] at HR
  clear hr hv
  go_enter Tryz.func124, Tryz.ntmps124
  go_wp2_with fail
  refine HR.out.mono ?_
  rintro e w1 ⟨rfl, n1⟩
  go_wp2
  refine bodyPost_ret (v := .tuple #[.slice none 0 0, .int .i64 14]) (by simp [results, Tryz.results124, go_sem]) rfl ⟨rfl, n1⟩
theorem dManifest_ok {w : World} {v : Value} {l : List Pc} (hv : Pcs w v l) (hr : rightL l = true) :
    Calls Tryz.prog 124 #[v] w (NewE w (manifestB l)) := by
  have HV := Lib.hid hv
  have HB := Lib.hid (rightL_bound hr)
  obtain ⟨a, cap, rfl, hc, hm, hel⟩ := hv.elem
  have HE := Lib.hid hel
  have HR := Lib.hid (dRight_ok hv)
  rw [hr] at HR
  clear hr hv hel
  obtain ⟨n, hn⟩ : ∃ n, l.length = n := ⟨_, rfl⟩
  have HN := Lib.hid hn
  rw [hn] at hc HR ⊢
  have hn100 : n ≤ 100 := by rw [← hn]; exact HB.out.2.1
  clear hn
  obtain ⟨i0, hi, hz0, hz1, hz2⟩ := info_parts infoU8
  have HI := Lib.hid hi
  have HZ0 := Lib.hid hz0
  have HZ1 := Lib.hid hz1
  have HZ2 := Lib.hid hz2
  clear hi hz0 hz1 hz2
  have hm64 : ((n : Nat) : Int) % 18446744073709551616 = n := by omega
  have hw64 : IntKind.u64.wrap (n : Int) = n := Go.wraps_u64 _ (by omega) (by omega)
  go_enter Tryz.func124, Tryz.ntmps124
  go_wp2_with fail
  refine HR.out.mono ?_
  rintro e w1 ⟨rfl, n1⟩
  have N1 := Lib.hid n1
  clear n1 HR
  have V0 := Lib.hid (vec_lit w1 5 1 4 (([65, 77, 77, 49] : List UInt8).map u8) _ (0, 0) rfl rfl (by decide) (fun j hj => by omega))
  have NA := Lib.hid (N1.out.trans ((Nw.refl w1).alloc (.cells (([65, 77, 77, 49] : List UInt8).map u8).toArray 5 (0, 0))))
  go_wp2_with fail
  refine (rUint_ok (l := [65, 77, 77, 49]) V0.out.rd n (by omega) (by decide)).mono ?_
  rintro e w2 q
  obtain ⟨b2, c2, rfl, M2⟩ := MB.of q NA.out
  have HU : Hid ((uintB n).length ≤ 10) := Lib.hid (uintB_len _ 10 (by omega) (Nat.lt_trans (show n < 2 ^ 64 by omega) (by decide)))
  have M := Lib.hid M2
  clear q M2 V0 NA
  obtain ⟨p0, hp0⟩ : ∃ p0 : List UInt8, p0 = [65, 77, 77, 49] ++ uintB n := ⟨_, rfl⟩
  rw [← hp0] at M
  have HP0 := Lib.hid hp0
  have hpl : p0.length ≤ 14 := by rw [hp0]; have := HU.out; simp only [List.length_append, List.length_cons, List.length_nil]; omega
  have hpe : ([65, 77, 77, 49] ++ uintB n : List UInt8).length = p0.length := by rw [hp0]
  clear hp0 HU
  simp only [hpe] at M ⊢
  clear hpe
  go_wp2
  go_loopw [4, 5] (fun b i wr => ∃ (k : Nat), k ≤ n ∧ i = .int .i64 k ∧ MB w wr b (p0 ++ (l.take k).flatMap pieceB)) (fun _ i _ => n - (intOf i).toNat)
  case atStart => exact ⟨0, by omega, rfl, by simpa using M.out⟩
  case round =>
    obtain ⟨k, hk, rfl, hb⟩ := hrel
    have hlen : (p0 ++ (l.take k).flatMap pieceB).length ≤ 14 + 62 * 100 := by
      have h4 := flat_len (l := l.take k) fun p hp => by
        obtain ⟨a, b, c, d, e⟩ := HB.out.2.2 p (List.mem_of_mem_take hp)
        exact pieceB_len a (by omega) (by omega)
      have : (l.take k).length ≤ 100 := by simp; omega
      rw [List.length_append]; omega
    have LN := Lib.hid hlen
    clear hlen
    by_cases hlt : k < n
    · have hkl : k < l.length := by rw [HN.out]; exact hlt
      obtain ⟨g, o, rfl, hg, c0, c1, c2, c3⟩ := HE.out k hkl
      obtain ⟨b1, b2, b3, b4, b5⟩ := HB.out.2.2 _ (List.getElem_mem hkl)
      have hpt : p0 ++ (l.take (k + 1)).flatMap pieceB = (p0 ++ (l.take k).flatMap pieceB) ++ pieceB l[k] := by rw [manifest_part hkl, List.append_assoc]
      obtain ⟨q0, hq0⟩ : ∃ q0, q0 = p0 ++ (l.take (k + 1)).flatMap pieceB := ⟨_, rfl⟩
      rw [← hq0] at hpt
      have HQ0 := Lib.hid hq0
      clear hq0
      generalize p0 ++ (l.take k).flatMap pieceB = p1 at *
      generalize hP : (l[k] : Pc) = P at *
      obtain ⟨pn, pf, pc, pd⟩ := P
      simp only at c0 c1 c2 c3 b1 b2 b3 b4 b5
      obtain ⟨sa, sc, rfl, -⟩ := hb.vec.len
      have V := Lib.hid hb
      have BD := Lib.hid (And.intro b1 (And.intro b2 (And.intro b3 (And.intro b4 b5))))
      have HPT := Lib.hid hpt
      obtain ⟨fn, rfl⟩ := Int.eq_ofNat_of_zero_le BD.out.2.1
      obtain ⟨cn, rfl⟩ := Int.eq_ofNat_of_zero_le BD.out.2.2.2.1
      have C := Lib.hid (And.intro c0 (And.intro c1 (And.intro c2 (And.intro c3 hg))))
      clear hb b1 b2 b3 b4 b5 hpt hP c0 c1 c2 c3 hg
      have hfn : fn < 1152921504606846976 := by have := BD.out.2.2.1; omega
      have hcn : cn ≤ 1099511627776 := by have := BD.out.2.2.2.2; omega
      have hnl : pn.length ≤ 40 := by
        have := (okPiece_name BD.out.1).1
        simp only [okName, Bool.and_eq_true, decide_eq_true_eq] at this
        exact this.1.2
      have hf64 : IntKind.u64.wrap (fn : Int) = fn := Go.wraps_u64 _ (by omega) (by omega)
      have hc64 : IntKind.u64.wrap (cn : Int) = cn := Go.wraps_u64 _ (by omega) (by omega)
      have d0 := V.out.nw.cell C.out.1
      have hg' := Nat.lt_of_lt_of_le C.out.2.2.2.2 V.out.nw.size
      have cv : (convert 9 79 (.string ⟨pn.toArray⟩)).run Tryz.prog wr = .ok (.slice (some ⟨wr.heap.size, 0, none⟩) pn.length (grownCap wr pn.length 0 5)) (Lib.bytesWorld wr 5 ⟨pn.toArray⟩) := Lib.run_convert_string_bytes (P := Tryz.prog) wr 9 79 5 ⟨pn.toArray⟩ Tryz.underlying9 Tryz.underlying79 Tryz.underlying5
      have hcv := Vec.of_conv wr 5 pn (by unfold maxLen; omega)
      generalize Lib.bytesWorld wr 5 ⟨pn.toArray⟩ = W3 at cv hcv
      generalize grownCap wr pn.length 0 5 = cc at cv hcv
      have HCV := Lib.hid hcv
      clear hcv
      go_upto_region 7 with fail
      go_wp2_with fail
      refine (rBlob_ok (V.out.bs.nw HCV.out.2) HCV.out.1.rd (by have := LN.out; omega)).mono ?_
      clear cv d0
      rintro e w4 q
      have hbl : (p1 ++ (uintB pn.length ++ pn)).length ≤ 14 + 62 * 100 + 50 := by
        have h1 := LN.out
        have h2 := uintB_len pn.length 1 (by omega) (by omega)
        simp only [List.length_append]; omega
      have hpt2 : q0 = (p1 ++ (uintB pn.length ++ pn)) ++ (uintB fn ++ (uintB cn ++ [if pd then 1 else 0])) := by rw [HPT.out]; simp [pieceB, blobB]
      have QQ := Lib.hid q
      clear q
      generalize p1 ++ (uintB pn.length ++ pn) = p2 at QQ hbl hpt2
      obtain ⟨xa, xc, rfl, M4⟩ := MB.of QQ.out (V.out.nw.trans HCV.out.2)
      have LN2 := Lib.hid hbl
      have HPT2 := Lib.hid hpt2
      have V4 := Lib.hid M4
      clear hbl hpt2 M4 QQ HCV V
      have d1 := V4.out.nw.cell C.out.2.1
      have hg' := Nat.lt_of_lt_of_le C.out.2.2.2.2 V4.out.nw.size
      go_wp2_with fail
      refine (rUint_ok V4.out.bs fn (by omega) (by have := LN2.out; omega)).mono ?_
      clear d1
      rintro e w5 q
      have hbl : (p2 ++ uintB fn).length ≤ 14 + 62 * 100 + 60 := by
        have h1 := LN2.out
        have h2 := uintB_len fn 10 (by omega) (Nat.lt_trans (show fn < 2 ^ 64 by omega) (by decide))
        simp only [List.length_append]; omega
      have hpt2 : q0 = (p2 ++ uintB fn) ++ (uintB cn ++ [if pd then 1 else 0]) := by rw [HPT2.out]; simp
      have QQ := Lib.hid q
      clear q HPT2 LN2
      generalize p2 ++ uintB fn = p3 at QQ hbl hpt2
      obtain ⟨ya, yc, rfl, M5⟩ := MB.of QQ.out V4.out.nw
      have LN2 := Lib.hid hbl
      have HPT2 := Lib.hid hpt2
      have V5 := Lib.hid M5
      clear hbl hpt2 M5 QQ V4
      have d2 := V5.out.nw.cell C.out.2.2.1
      have hg' := Nat.lt_of_lt_of_le C.out.2.2.2.2 V5.out.nw.size
      go_wp2_with fail
      refine (rUint_ok V5.out.bs cn (by omega) (by have := LN2.out; omega)).mono ?_
      clear d2
      rintro e w6 q
      have hbl : (p3 ++ uintB cn).length ≤ 14 + 62 * 100 + 70 := by
        have h1 := LN2.out
        have h2 := uintB_len cn 10 (by omega) (Nat.lt_trans (show cn < 2 ^ 64 by omega) (by decide))
        simp only [List.length_append]; omega
      have hpt2 : q0 = (p3 ++ uintB cn) ++ [if pd then 1 else 0] := by rw [HPT2.out]; simp
      have QQ := Lib.hid q
      clear q HPT2 LN2
      generalize p3 ++ uintB cn = p4 at QQ hbl hpt2
      obtain ⟨za, zc, rfl, M6⟩ := MB.of QQ.out V5.out.nw
      have LN2 := Lib.hid hbl
      have HPT2 := Lib.hid hpt2
      have V6 := Lib.hid M6
      clear hbl hpt2 M6 QQ V5
      have d3 := V6.out.nw.cell C.out.2.2.2.1
      have hg' := Nat.lt_of_lt_of_le C.out.2.2.2.2 V6.out.nw.size
      obtain ⟨dn, hdn, hdn2⟩ : ∃ dn : UInt8, dn = (if pd then 1 else 0) ∧ (dn = 0 ∨ dn = 1) := ⟨_, rfl, by cases pd <;> simp⟩
      rw [← hdn] at HPT2
      have V7 := Lib.hid (V6.out.vec.nw ((Nw.refl w6).alloc (.cells #[u8 dn] 5 (0, 0))))
      have S7 := Lib.hid (src_lit w6 5 (0, 0) 1 1 1 [u8 dn] rfl (by omega) (by decide))
      have hrest : ∀ v' w', Vec 1 w' v' (p4.length + 1) (p4.map u8 ++ [u8 dn]) → Only (fun k => (Value.slice za p4.length zc).ownBlock = some k) (w6.alloc (.cells #[u8 dn] 5 (0, 0))) w' →
          (v'.ownBlock = (Value.slice za p4.length zc).ownBlock ∨ ∀ g, v'.ownBlock = some g → (w6.alloc (.cells #[u8 dn] 5 (0, 0))).heap.size ≤ g) → MB w w' v' q0 := fun v' w' e1 e2 e3 => by
        refine ⟨by rw [HPT2.out, List.map_append, List.length_append]; exact e1, (V6.out.nw.alloc _).trans' e2 (fun k hk hc => by have := V6.out.new k hc; omega), fun g hg => ?_⟩
        rcases e3 with h | h
        · exact V6.out.new g (h ▸ hg)
        · have h1 := h g hg
          have h2 := V6.out.nw.size
          simp only [World.size_alloc] at h1
          omega
      have HREST := Lib.hid hrest
      clear hrest
      cases pd
      case false =>
        obtain rfl : dn = 0 := hdn
        have e8 : u8 0 = .int .u8 0 := rfl
        rw [e8] at V7 S7 HREST
        go_wp2_with (at_builtin; refine wpList_append_vec rfl _ _ 79 rfl 5 i0 (.int .u8 0) 1 1 Tryz.underlying79 HI.out HZ0.out HZ1.out HZ2.out rfl (by decide) rfl rfl V7.out S7.out ?c1 ?c2 ?c3 ?_)
        case c1 => intro u hu; rw [List.mem_singleton] at hu; subst hu; rfl
        case c2 => have := LN2.out; unfold maxLen; omega
        case c3 => have := LN2.out; omega
        intro v8 w8 f1 f2 f3
        have F := Lib.hid (HREST.out v8 w8 f1 f2 (by rw [World.size_alloc]; exact f3))
        clear f1 f2 f3 d3
        go_wp2
        go_roundw
        case rel => exact ⟨k + 1, by omega, by go_num, by rw [← HQ0.out]; exact F.out⟩
        case measure => simp only [intOf]; omega
      case true =>
        obtain rfl : dn = 1 := hdn
        have e8 : u8 1 = .int .u8 1 := rfl
        rw [e8] at V7 S7 HREST
        go_wp2_with (at_builtin; refine wpList_append_vec rfl _ _ 79 rfl 5 i0 (.int .u8 0) 1 1 Tryz.underlying79 HI.out HZ0.out HZ1.out HZ2.out rfl (by decide) rfl rfl V7.out S7.out ?c1 ?c2 ?c3 ?_)
        case c1 => intro u hu; rw [List.mem_singleton] at hu; subst hu; rfl
        case c2 => have := LN2.out; unfold maxLen; omega
        case c3 => have := LN2.out; omega
        intro v8 w8 f1 f2 f3
        have F := Lib.hid (HREST.out v8 w8 f1 f2 (by rw [World.size_alloc]; exact f3))
        clear f1 f2 f3 d3
        go_wp2
        go_roundw
        case rel => exact ⟨k + 1, by omega, by go_num, by rw [← HQ0.out]; exact F.out⟩
        case measure => simp only [intOf]; omega
    · obtain rfl : k = n := by omega
      have hall : l.take k = l := by rw [← HN.out]; exact List.take_length
      rw [hall] at hb
      have HMI : Hid (p0 ++ l.flatMap pieceB = manifestIn l) := Lib.hid (by rw [HP0.out]; unfold manifestIn; rw [HN.out])
      rw [HMI.out] at hb
      have hlen : (manifestIn l).length ≤ 14 + 62 * 100 := by have := LN.out; rw [hall, HMI.out] at this; exact this
      have HMB : Hid (manifestB l = sealB sumB (manifestIn l)) := Lib.hid rfl
      obtain ⟨sa, sc, rfl, -⟩ := hb.vec.len
      have V := Lib.hid hb
      clear hb hall HMI
      generalize manifestIn l = mi at *
      go_wp2_with fail
      refine (rSeal_ok V.out.bs (by omega)).mono ?_
      rintro e w4 ⟨v4, rfl, q1, q2, q3⟩
      rw [← HMB.out] at q1
      obtain ⟨xa, xc, rfl, -⟩ := q1.len
      have Q := Lib.hid (And.intro q1 (And.intro q2 q3))
      clear q1 q2 q3
      go_wp2
      refine bodyPost_ret (v := .tuple #[.slice xa (manifestB l).length xc, .int .i64 0]) (by simp [results, Tryz.results124, go_sem]) rfl ⟨_, rfl, Q.out.1, V.out.nw.trans Q.out.2.1, fun g hg => Nat.le_trans V.out.nw.size (Q.out.2.2 g hg)⟩
end Go.Proofs.YtkbenkldfehhlaaGreatDoor

namespace Go.Proofs.YtkbenkldfehhlaaGreatDoor
open Go Go.RowKit Go.Sort
set_option maxRecDepth 100000
set_option maxHeartbeats 1600000
section
variable {X : Nat → Prop} {d d' : Dsk} {v : Value} {w : World}
theorem remove_13 {n : Str} {d1 : Dsk} (h : d.remove n = (d1, 13)) : d1 = d := by
  unfold Dsk.remove Dsk.op at h
  split at h
  · exact absurd (show (15 : Int) = 13 from congrArg Prod.snd h) (by decide)
  · split at h
    · exact (congrArg Prod.fst h).symm
    · split at h
      · exact absurd (show (15 : Int) = 13 from congrArg Prod.snd h) (by decide)
      · exact absurd (show (0 : Int) = 13 from congrArg Prod.snd h) (by decide)
theorem set4_end {Y : Nat → Prop} {w3 : World} {p : Nat} {m la : Int} {a : Option Addr} {nn c : Nat} {dn : Bool} {u0 u1 u2 u3 : Value} (hN : Nw w w3) (hp : w.heap.size ≤ p) (hb : w3.heap[p]? = some (DB u0 u1 u2 u3)) (hD : RD Y w3 v d) (hY : ∀ k, Y k → X k ∧ k ≠ p) :
    ∃ w4, ((((w3.setCell ⟨p, 0, none⟩ (.int .i64 m)).setCell ⟨p, 1, none⟩ (.slice a nn c)).setCell ⟨p, 2, none⟩ (.int .i64 la)).setCell ⟨p, 3, none⟩ (.bool dn)) = w4 ∧ RD X w4 v d ∧ Nw w w4 ∧ Only (fun k => k = p) w3 w4 ∧ w4.heap[p]? = some (DB (.int .i64 m) (.slice a nn c) (.int .i64 la) (.bool dn)) := by
  have hO := only_set4 w3 p (.int .i64 m) (.slice a nn c) (.int .i64 la) (.bool dn)
  refine ⟨_, rfl, (hD.put hO (fun k hk _ e => (hY k hk).2 e)).mono fun k hk => (hY k hk).1, hN.trans' hO (fun k hk e => by omega), hO, heap_set4 hb _ _ _ _⟩
theorem boxes_in (w : World) (A B : Obj) : Nw w ((w.alloc A).alloc B) ∧ ((w.alloc A).alloc B).heap[w.heap.size]? = some A ∧ ((w.alloc A).alloc B).heap[w.heap.size + 1]? = some B ∧ ((w.alloc A).alloc B).heap.size = w.heap.size + 2 := by
  refine ⟨((Nw.refl w).alloc _).alloc _, ?_, ?_, by simp⟩
  · rw [heap_alloc_old _ _ (by simp)]; exact heap_alloc_new w A
  · have := heap_alloc_new (w.alloc A) B
    simpa using this
theorem dHead_ok (n : Nat) (hn : n ≤ 4611686018427387904) (w : World) :
    Calls Tryz.prog 122 #[.int .i64 n] w (NewE w (headB n)) := by
  have q1 : decide ((n : Int) < 0) = false := by simp
  have q2 : decide ((4611686018427387904 : Int) < (n : Int)) = false := by simp; omega
  have hw2 : IntKind.u64.wrap (n : Int) = (n : Int) := by rw [IntKind.wrap_u64]; omega
  have V0 := Lib.hid (vec_lit w 5 1 4 (([65, 77, 83, 49] : List UInt8).map Go.Proofs.YtkbenkldfehhlaaGreatDoor.u8) _ (0, 0) rfl rfl (by decide) (fun j hj => by omega))
  go_enter Tryz.func122, Tryz.ntmps122
  go_wp2_with fail
  refine (rUint_ok (l := [65, 77, 83, 49]) V0.out.rd n (by omega) (by simp)).mono ?_
  rintro e w1 ⟨v1, rfl, q1, q2, q3⟩
  have HH : Hid (headB n = sealB sumB ([65, 77, 83, 49] ++ uintB n)) := Lib.hid rfl
  have HL : Hid (([65, 77, 83, 49] ++ uintB n).length ≤ 14) := Lib.hid (by
    have := uintB_len n 10 (by omega) (Nat.lt_trans (show n < 2 ^ 64 by omega) (by decide))
    simp only [List.length_append, List.length_cons, List.length_nil]; omega)
  have N1 : Hid (Nw w w1) := Lib.hid (((Nw.refl w).alloc _).trans q2)
  generalize [65, 77, 83, 49] ++ uintB n = l1 at *
  obtain ⟨xa, xc, rfl, -⟩ := q1.len
  have Q := Lib.hid q1
  clear q1 q2 q3
  go_wp2_with fail
  refine (rSeal_ok Q.out.rd (by have := HL.out; omega)).mono ?_
  rintro e w2 ⟨v2, rfl, q1, q2, q3⟩
  rw [← HH.out] at q1
  obtain ⟨ya, yc, rfl, -⟩ := q1.len
  have P := Lib.hid (And.intro q1 (And.intro q2 q3))
  clear q1 q2 q3
  go_wp2
  refine bodyPost_ret (v := .tuple #[.slice ya (headB n).length yc, .int .i64 0]) (by simp [results, Tryz.results122, go_sem]) rfl ⟨_, rfl, P.out.1, N1.out.trans P.out.2.1, fun g hg => Nat.le_trans N1.out.size (P.out.2.2 g hg)⟩
theorem dGone_ok (h : RD X w v d) (hX : ∀ k, w.heap.size ≤ k → X k) {n : Str} {x : Int} (hr : d.gone n = (d', x)) :
    Calls Tryz.prog 155 #[v, .string ⟨n.toArray⟩] w (RDE X w d' x) := by
  obtain ⟨m, a, nn, c, la, dn, rfl⟩ := h.parts
  obtain ⟨d1, x1, hr1⟩ : ∃ d1 x1, d.remove n = (d1, x1) := ⟨_, _, rfl⟩
  obtain ⟨rfl, hx⟩ : d1 = d' ∧ (if x1 = 13 then 0 else x1) = x := by
    unfold Dsk.gone at hr
    rw [hr1] at hr
    exact Prod.mk.inj hr
  have HXX := Lib.hid hx
  clear hr hx
  have HB := Lib.hid (boxes_in w (DB (.int .i64 m) (.slice a nn c) (.int .i64 la) (.bool dn)) (DB (.int .i64 0) (.slice none 0 0) (.int .i64 0) (.bool false)))
  have HD := Lib.hid h
  have HX := Lib.hid hX
  clear h hX
  obtain ⟨w1, hw1⟩ : ∃ x, (w.alloc (DB (.int .i64 m) (.slice a nn c) (.int .i64 la) (.bool dn))).alloc (DB (.int .i64 0) (.slice none 0 0) (.int .i64 0) (.bool false)) = x := ⟨_, rfl⟩
  rw [hw1] at HB
  unfold DB at hw1
  have D1 := Lib.hid (HD.out.in_ HB.out.1)
  go_enter Tryz.func155, Tryz.ntmps155
  go_upto_region 1 with fail
  clear hw1
  obtain ⟨b0, b1, b2, b3, -⟩ := box_cells HB.out.2.1
  have R1 := Lib.hid (D1.out.remove (fun k hk => .inr hk) hr1)
  go_wp2_with fail
  refine R1.out.mono ?_
  rintro e w2 ⟨m2, a2, n2, c2, la2, dn2, rfl, d2, nw2⟩
  have D2 := Lib.hid d2
  have N2 := Lib.hid nw2
  clear d2 nw2 b0 b1 b2 b3 R1 D1
  have N3 := Lib.hid ((Nw.refl w2).alloc (DB (.int .i64 m2) (.slice a2 n2 c2) (.int .i64 la2) (.bool dn2)))
  have B3 := Lib.hid (heap_alloc_new w2 (DB (.int .i64 m2) (.slice a2 n2 c2) (.int .i64 la2) (.bool dn2)))
  obtain ⟨p3, hp3⟩ : ∃ x, w2.heap.size = x := ⟨_, rfl⟩
  obtain ⟨w3, hw3⟩ : ∃ x, w2.alloc (DB (.int .i64 m2) (.slice a2 n2 c2) (.int .i64 la2) (.bool dn2)) = x := ⟨_, rfl⟩
  rw [hw3] at N3 B3
  rw [hp3] at B3
  unfold DB at hw3
  go_upto_region 2 with fail
  have N13 := Lib.hid (N2.out.trans N3.out)
  have BD := Lib.hid (N13.out.at_ HB.out.2.1)
  have BR := Lib.hid (N13.out.at_ HB.out.2.2.1)
  have hs1 := HB.out.2.2.2
  have hps : w.heap.size + 2 ≤ p3 := by have := N2.out.size; omega
  clear hw3
  by_cases h13 : x1 = 13
  · obtain rfl : d1 = d := by subst h13; exact remove_13 hr1
    have q : (x1 == 13) = true := by simpa using h13
    obtain ⟨b0, b1, b2, b3, -⟩ := box_cells BD.out
    obtain ⟨r0, r1, r2, r3, f0, f1, f2, f3⟩ := box_cells BR.out
    go_wp2
    obtain ⟨w4, hw4, D4, N4, -, B4⟩ := set4_end (X := X) (m := m) (la := la) (a := a) (nn := nn) (c := c) (dn := dn) (HB.out.1.trans N13.out) (by omega) BR.out (HD.out.narrow.nw (HB.out.1.trans N13.out)) (fun k hk => ⟨hk.1, by omega⟩)
    rw [hw4]
    obtain ⟨e0, e1, e2, e3, -⟩ := box_cells B4
    have hx0 : x = 0 := by rw [← HXX.out, if_pos h13]
    exact bodyPost_ret (v := .tuple #[.agg #[.int .i64 m, .slice a nn c, .int .i64 la, .bool dn], .int .i64 0]) (by simp [results, Tryz.results155, go_sem, e0, e1, e2, e3]) rfl ⟨m, a, nn, c, la, dn, by rw [hx0], D4, N4⟩
  · have q : (x1 == 13) = false := by simpa using h13
    obtain ⟨b0, b1, b2, b3, -⟩ := box_cells B3.out
    obtain ⟨r0, r1, r2, r3, f0, f1, f2, f3⟩ := box_cells BR.out
    have D3 := Lib.hid (D2.out.nw N3.out)
    go_wp2
    obtain ⟨w4, hw4, D4, N4, -, B4⟩ := set4_end (X := X) (m := m2) (la := la2) (a := a2) (nn := n2) (c := c2) (dn := dn2) (HB.out.1.trans N13.out) (by omega) BR.out D3.out (fun k hk => by
      rcases hk with hk | hk
      · exact ⟨hk.1, by omega⟩
      · exact ⟨HX.out k (by omega), by omega⟩)
    rw [hw4]
    obtain ⟨e0, e1, e2, e3, -⟩ := box_cells B4
    have hx0 : x = x1 := by rw [← HXX.out, if_neg h13]
    exact bodyPost_ret (v := .tuple #[.agg #[.int .i64 m2, .slice a2 n2 c2, .int .i64 la2, .bool dn2], .int .i64 x1]) (by simp [results, Tryz.results155, go_sem, e0, e1, e2, e3]) rfl ⟨m2, a2, n2, c2, la2, dn2, by rw [hx0], D4, N4⟩
end
end Go.Proofs.YtkbenkldfehhlaaGreatDoor

namespace Go.Proofs.YtkbenkldfehhlaaGreatDoor
open Go Go.RowKit Go.Sort
set_option maxRecDepth 100000
set_option maxHeartbeats 3200000

section
variable {X : Nat → Prop} {d d' : Dsk} {v : Value} {w wk w' : World} {m la m' la' : Int} {a a' : Option Addr} {n c n' c' : Nat} {dn dn' : Bool}
structure Stt (X : Nat → Prop) (w wk : World) (d : Dsk) (m : Int) (a : Option Addr) (n c : Nat) (la : Int) (dn : Bool) : Prop where
  nw : Nw w wk
  lt : w.heap.size + 2 ≤ wk.heap.size
  box : wk.heap[w.heap.size]? = some (DB (.int .i64 m) (.slice a n c) (.int .i64 la) (.bool dn))
  res : ∃ u0 u1 u2 u3, wk.heap[w.heap.size + 1]? = some (DB u0 u1 u2 u3)
  rd : RD (fun k => X k ∧ k < w.heap.size ∨ w.heap.size + 2 ≤ k) wk (.agg #[.int .i64 m, .slice a n c, .int .i64 la, .bool dn]) d
theorem Stt.new (h : RD X w (.agg #[.int .i64 m, .slice a n c, .int .i64 la, .bool dn]) d) : Stt X w ((w.alloc (DB (.int .i64 m) (.slice a n c) (.int .i64 la) (.bool dn))).alloc (DB (.int .i64 0) (.slice none 0 0) (.int .i64 0) (.bool false))) d m a n c la dn := by
  obtain ⟨h1, h2, h3, h4⟩ := boxes_in w (DB (.int .i64 m) (.slice a n c) (.int .i64 la) (.bool dn)) (DB (.int .i64 0) (.slice none 0 0) (.int .i64 0) (.bool false))
  exact ⟨h1, by omega, h2, ⟨_, _, _, _, h3⟩, (h.narrow.nw h1).mono fun k hk => .inl hk⟩
theorem Stt.on (h : Stt X w wk d m a n c la dn) (hn : Nw wk w') : Stt X w w' d m a n c la dn := by
  obtain ⟨u0, u1, u2, u3, hr⟩ := h.res
  exact ⟨h.nw.trans hn, Nat.le_trans h.lt hn.size, hn.at_ h.box, ⟨u0, u1, u2, u3, hn.at_ hr⟩, h.rd.nw hn⟩
theorem Stt.fresh (h : Stt X w wk d m a n c la dn) : ∀ k, wk.heap.size ≤ k → (X k ∧ k < w.heap.size ∨ w.heap.size + 2 ≤ k) := fun k hk => .inr (Nat.le_trans h.lt hk)
theorem Stt.step (h : Stt X w wk d m a n c la dn) (hd : RD (fun k => X k ∧ k < w.heap.size ∨ w.heap.size + 2 ≤ k) w' (.agg #[.int .i64 m', .slice a' n' c', .int .i64 la', .bool dn']) d') (hn : Nw wk w') :
    ∃ w2, ((((w'.setCell ⟨w.heap.size, 0, none⟩ (.int .i64 m')).setCell ⟨w.heap.size, 1, none⟩ (.slice a' n' c')).setCell ⟨w.heap.size, 2, none⟩ (.int .i64 la')).setCell ⟨w.heap.size, 3, none⟩ (.bool dn')) = w2 ∧ Stt X w w2 d' m' a' n' c' la' dn' ∧ Only (fun k => k = w.heap.size) w' w2 := by
  have h2 := h.on hn
  obtain ⟨u0, u1, u2, u3, hr⟩ := h2.res
  have hO := only_set4 w' w.heap.size (.int .i64 m') (.slice a' n' c') (.int .i64 la') (.bool dn')
  refine ⟨_, rfl, ⟨h2.nw.trans' hO (fun k hk e => by omega), Nat.le_trans h2.lt hO.size, heap_set4 h2.box _ _ _ _, ⟨u0, u1, u2, u3, hO.at_ hr (by omega)⟩, hd.put hO (fun k hk _ e => ?_)⟩, hO⟩
  rcases hk with hk | hk
  · omega
  · omega
theorem Stt.fin (hX : ∀ k, w.heap.size ≤ k → X k) (h : Stt X w wk d m a n c la dn) :
    ∃ w4, ((((wk.setCell ⟨w.heap.size + 1, 0, none⟩ (.int .i64 m)).setCell ⟨w.heap.size + 1, 1, none⟩ (.slice a n c)).setCell ⟨w.heap.size + 1, 2, none⟩ (.int .i64 la)).setCell ⟨w.heap.size + 1, 3, none⟩ (.bool dn)) = w4 ∧ RD X w4 (.agg #[.int .i64 m, .slice a n c, .int .i64 la, .bool dn]) d ∧ Nw w w4 ∧ Only (fun k => k = w.heap.size + 1) wk w4 ∧ w4.heap[w.heap.size + 1]? = some (DB (.int .i64 m) (.slice a n c) (.int .i64 la) (.bool dn)) := by
  obtain ⟨u0, u1, u2, u3, hr⟩ := h.res
  refine set4_end h.nw (by omega) hr h.rd (fun k hk => ?_)
  rcases hk with hk | hk
  · exact ⟨hk.1, by omega⟩
  · exact ⟨hX k (by omega), by omega⟩
theorem Stt.cells (h : Stt X w wk d m a n c la dn) : wk.cell? ⟨w.heap.size, 0, none⟩ = some (.int .i64 m) ∧ wk.cell? ⟨w.heap.size, 1, none⟩ = some (.slice a n c) ∧ wk.cell? ⟨w.heap.size, 2, none⟩ = some (.int .i64 la) ∧ wk.cell? ⟨w.heap.size, 3, none⟩ = some (.bool dn) ∧
    wk.frozen? ⟨w.heap.size, 0, none⟩ = false ∧ wk.frozen? ⟨w.heap.size, 1, none⟩ = false ∧ wk.frozen? ⟨w.heap.size, 2, none⟩ = false ∧ wk.frozen? ⟨w.heap.size, 3, none⟩ = false := box_cells h.box
theorem Stt.rcells (h : Stt X w wk d m a n c la dn) : ∃ u0 u1 u2 u3, wk.cell? ⟨w.heap.size + 1, 0, none⟩ = some u0 ∧ wk.cell? ⟨w.heap.size + 1, 1, none⟩ = some u1 ∧ wk.cell? ⟨w.heap.size + 1, 2, none⟩ = some u2 ∧ wk.cell? ⟨w.heap.size + 1, 3, none⟩ = some u3 ∧
    wk.frozen? ⟨w.heap.size + 1, 0, none⟩ = false ∧ wk.frozen? ⟨w.heap.size + 1, 1, none⟩ = false ∧ wk.frozen? ⟨w.heap.size + 1, 2, none⟩ = false ∧ wk.frozen? ⟨w.heap.size + 1, 3, none⟩ = false := by
  obtain ⟨u0, u1, u2, u3, hr⟩ := h.res
  exact ⟨u0, u1, u2, u3, box_cells hr⟩

theorem dFile_ok (h : RD X w v d) (hX : ∀ k, w.heap.size ≤ k → X k) {s : Str} (hs : s.length ≤ 9223372036854775807) {u : Value} {l : List UInt8} (hl : Bs w u l) (hll : l.length ≤ 16777216) {x : Int} (hr : d.fresh s l = (d', x)) :
    Calls Tryz.prog 123 #[v, .string ⟨s.toArray⟩, u] w (RDE X w d' x) := by
  obtain ⟨ua, uc, rfl, -⟩ := hl.len
  have HL := Lib.hid hl
  clear hl
  obtain ⟨d1, x1, hr1⟩ : ∃ d1 x1, d.gone s = (d1, x1) := ⟨_, _, rfl⟩
  have HR := Lib.hid hr
  have HR1 := Lib.hid hr1
  clear hr hr1
  obtain ⟨m0, a0, n0, c0, la0, dn0, rfl⟩ := h.parts
  have S0 := Lib.hid (Stt.new h)
  have HX := Lib.hid hX
  clear h hX
  obtain ⟨w0, hw0⟩ : ∃ x, (w.alloc (DB (.int .i64 m0) (.slice a0 n0 c0) (.int .i64 la0) (.bool dn0))).alloc (DB (.int .i64 0) (.slice none 0 0) (.int .i64 0) (.bool false)) = x := ⟨_, rfl⟩
  rw [hw0] at S0
  unfold DB at hw0
  go_enter Tryz.func123, Tryz.ntmps123
  go_upto_region 1 with fail
  clear hw0
  obtain ⟨b0, b1, b2, b3, -⟩ := S0.out.cells
  have R := Lib.hid (dGone_ok S0.out.rd S0.out.fresh HR1.out)
  go_wp2_with fail
  refine R.out.mono ?_
  rintro e y1 ⟨m1, a1, n1, c1, la1, dn1, rfl, dd, nn⟩
  obtain ⟨w1, hw1, s1, o1⟩ := S0.out.step dd nn
  have S1 := Lib.hid s1
  have NN1 := Lib.hid nn
  have O1 := Lib.hid o1
  obtain ⟨-, -, -, -, g0, g1, g2, g3⟩ := (S0.out.on nn).cells
  obtain ⟨b0, b1, b2, b3, -⟩ := (S0.out.on nn).cells
  clear R dd nn s1 o1
  go_upto_if 16 with fail
  (try rw [hw1])
  clear hw1 b0 b1 b2 b3 g0 g1 g2 g3
  by_cases h1 : x1 = 0
  case neg =>
    have q1 : (x1 == 0) = false := by simpa using h1
    obtain ⟨rfl, hx⟩ : d1 = d' ∧ x1 = x := by
      have := HR.out
      simp only [Dsk.fresh, andThen, HR1.out, h1, if_false] at this
      exact Prod.mk.inj this
    have HXX := Lib.hid hx
    clear h1 hx
    obtain ⟨b0, b1, b2, b3, -⟩ := S1.out.cells
    obtain ⟨u0, u1, u2, u3, r0, r1, r2, r3, f0, f1, f2, f3⟩ := S1.out.rcells
    go_wp2
    obtain ⟨w9, hw9, D9, N9, -, B9⟩ := S1.out.fin HX.out
    rw [hw9]
    obtain ⟨e0, e1, e2, e3, -⟩ := box_cells B9
    exact bodyPost_ret (v := .tuple #[.agg #[.int .i64 m1, .slice a1 n1 c1, .int .i64 la1, .bool dn1], .int .i64 x1]) (by simp [results, Tryz.results123, go_sem, e0, e1, e2, e3]) rfl ⟨m1, a1, n1, c1, la1, dn1, by rw [HXX.out], D9, N9⟩
  subst h1
  obtain ⟨d2, x2, hr2⟩ : ∃ d2 x2, d1.append s l = (d2, x2) := ⟨_, _, rfl⟩
  have HR2 := Lib.hid hr2
  clear hr2
  obtain ⟨b0, b1, b2, b3, -⟩ := S1.out.cells
  have R := Lib.hid (S1.out.rd.append S1.out.fresh hs (HL.out.nw S1.out.nw) hll HR2.out)
  go_wp2_with fail
  refine R.out.mono ?_
  rintro e y2 ⟨m2, a2, n2, c2, la2, dn2, rfl, dd, nn⟩
  obtain ⟨w2, hw2, s2, o2⟩ := S1.out.step dd nn
  have S2 := Lib.hid s2
  have NN2 := Lib.hid nn
  have O2 := Lib.hid o2
  obtain ⟨-, -, -, -, g0, g1, g2, g3⟩ := (S1.out.on nn).cells
  obtain ⟨b0, b1, b2, b3, -⟩ := (S1.out.on nn).cells
  clear R dd nn s2 o2
  go_upto_if 25 with fail
  (try rw [hw2])
  clear hw2 b0 b1 b2 b3 g0 g1 g2 g3
  by_cases h1 : x2 = 0
  case neg =>
    have q1 : (x2 == 0) = false := by simpa using h1
    obtain ⟨rfl, hx⟩ : d2 = d' ∧ x2 = x := by
      have := HR.out
      simp only [Dsk.fresh, andThen, HR1.out, HR2.out, h1, if_false, if_true] at this
      exact Prod.mk.inj this
    have HXX := Lib.hid hx
    clear h1 hx
    obtain ⟨b0, b1, b2, b3, -⟩ := S2.out.cells
    obtain ⟨u0, u1, u2, u3, r0, r1, r2, r3, f0, f1, f2, f3⟩ := S2.out.rcells
    go_wp2
    obtain ⟨w9, hw9, D9, N9, -, B9⟩ := S2.out.fin HX.out
    rw [hw9]
    obtain ⟨e0, e1, e2, e3, -⟩ := box_cells B9
    exact bodyPost_ret (v := .tuple #[.agg #[.int .i64 m2, .slice a2 n2 c2, .int .i64 la2, .bool dn2], .int .i64 x2]) (by simp [results, Tryz.results123, go_sem, e0, e1, e2, e3]) rfl ⟨m2, a2, n2, c2, la2, dn2, by rw [HXX.out], D9, N9⟩
  subst h1
  obtain ⟨d3, x3, hr3⟩ : ∃ d3 x3, d2.sync s = (d3, x3) := ⟨_, _, rfl⟩
  have HR3 := Lib.hid hr3
  clear hr3
  obtain ⟨b0, b1, b2, b3, -⟩ := S2.out.cells
  have R := Lib.hid (S2.out.rd.sync S2.out.fresh HR3.out)
  go_wp2_with fail
  refine R.out.mono ?_
  rintro e y3 ⟨m3, a3, n3, c3, la3, dn3, rfl, dd, nn⟩
  obtain ⟨w3, hw3, s3, o3⟩ := S2.out.step dd nn
  have S3 := Lib.hid s3
  have NN3 := Lib.hid nn
  have O3 := Lib.hid o3
  obtain ⟨-, -, -, -, g0, g1, g2, g3⟩ := (S2.out.on nn).cells
  obtain ⟨b0, b1, b2, b3, -⟩ := (S2.out.on nn).cells
  clear R dd nn s3 o3
  go_upto_region 6 with fail
  (try rw [hw3])
  clear hw3 b0 b1 b2 b3 g0 g1 g2 g3
  obtain ⟨rfl, hx⟩ : d3 = d' ∧ x3 = x := by
    have := HR.out
    simp only [Dsk.fresh, andThen, HR1.out, HR2.out, HR3.out, if_true] at this
    exact Prod.mk.inj this
  have HXX := Lib.hid hx
  clear hx
  obtain ⟨b0, b1, b2, b3, -⟩ := S3.out.cells
  obtain ⟨u0, u1, u2, u3, r0, r1, r2, r3, f0, f1, f2, f3⟩ := S3.out.rcells
  go_wp2
  obtain ⟨w9, hw9, D9, N9, -, B9⟩ := S3.out.fin HX.out
  rw [hw9]
  obtain ⟨e0, e1, e2, e3, -⟩ := box_cells B9
  exact bodyPost_ret (v := .tuple #[.agg #[.int .i64 m3, .slice a3 n3 c3, .int .i64 la3, .bool dn3], .int .i64 x3]) (by simp [results, Tryz.results123, go_sem, e0, e1, e2, e3]) rfl ⟨m3, a3, n3, c3, la3, dn3, by rw [HXX.out], D9, N9⟩

theorem dInstall_ok (h : RD X w v d) (hX : ∀ k, w.heap.size ≤ k → X k) {u : Value} {l : List Pc} (hl : Pcs w u l) {x : Int} (hr : d.install l = (d', x)) :
    Calls Tryz.prog 70 #[v, u] w (RDE X w d' x) := by
  obtain ⟨ua, uc, rfl, -⟩ := hl.elem
  have HL := Lib.hid hl
  clear hl
  have HR := Lib.hid hr
  clear hr
  obtain ⟨m0, a0, n0, c0, la0, dn0, rfl⟩ := h.parts
  have S0 := Lib.hid (Stt.new h)
  have HX := Lib.hid hX
  clear h hX
  obtain ⟨w0, hw0⟩ : ∃ x, (w.alloc (DB (.int .i64 m0) (.slice a0 n0 c0) (.int .i64 la0) (.bool dn0))).alloc (DB (.int .i64 0) (.slice none 0 0) (.int .i64 0) (.bool false)) = x := ⟨_, rfl⟩
  rw [hw0] at S0
  unfold DB at hw0
  go_enter Tryz.func70, Tryz.ntmps70
  go_upto_region 1 with fail
  clear hw0
  cases hrt : rightL l
  case false =>
    obtain ⟨rfl, hx⟩ : d = d' ∧ (14 : Int) = x := by
      have := HR.out
      simp only [Dsk.install, hrt, Bool.false_eq_true, if_false] at this
      exact Prod.mk.inj this
    have HXX := Lib.hid hx
    have MN := Lib.hid (dManifest_no (HL.out.nw S0.out.nw) hrt)
    clear hx hrt
    go_wp2_with fail
    refine MN.out.mono ?_
    rintro e w1 ⟨rfl, nn⟩
    have S1 := Lib.hid (S0.out.on nn)
    clear nn MN
    obtain ⟨b0, b1, b2, b3, -⟩ := S1.out.cells
    obtain ⟨u0, u1, u2, u3, r0, r1, r2, r3, f0, f1, f2, f3⟩ := S1.out.rcells
    go_wp2
    obtain ⟨w9, hw9, D9, N9, -, B9⟩ := S1.out.fin HX.out
    rw [hw9]
    obtain ⟨e0, e1, e2, e3, -⟩ := box_cells B9
    exact bodyPost_ret (v := .tuple #[.agg #[.int .i64 m0, .slice a0 n0 c0, .int .i64 la0, .bool dn0], .int .i64 14]) (by simp [results, Tryz.results70, go_sem, e0, e1, e2, e3]) rfl ⟨m0, a0, n0, c0, la0, dn0, by rw [HXX.out], D9, N9⟩
  have MN := Lib.hid (dManifest_ok (HL.out.nw S0.out.nw) hrt)
  have HML : Hid ((manifestB l).length ≤ 6209) := Lib.hid (manifestB_len hrt)
  obtain ⟨mb, hmb⟩ : ∃ x, manifestB l = x := ⟨_, rfl⟩
  rw [hmb] at MN HML
  have HMB := Lib.hid hmb
  have HRT := Lib.hid hrt
  clear hmb hrt
  go_wp2_with fail
  refine MN.out.mono ?_
  rintro e w01 ⟨mv, rfl, mb1, nn, -⟩
  obtain ⟨ma, mc, rfl, -⟩ := mb1.len
  have MB := Lib.hid mb1.rd
  have N01 := Lib.hid nn
  have S00 := Lib.hid (S0.out.on nn)
  clear mb1 nn MN
  obtain ⟨d1, x1, hr1⟩ : ∃ d1 x1, d.fresh nextS mb = (d1, x1) := ⟨_, _, rfl⟩
  have HR1 := Lib.hid hr1
  clear hr1
  obtain ⟨b0, b1, b2, b3, -⟩ := S00.out.cells
  have R := Lib.hid (dFile_ok (s := nextS) S00.out.rd S00.out.fresh (by decide) MB.out (by have := HML.out; omega) HR1.out)
  go_wp2_with fail
  refine R.out.mono ?_
  rintro e y1 ⟨m1, a1, n1, c1, la1, dn1, rfl, dd, nn⟩
  obtain ⟨w1, hw1, s1, o1⟩ := S00.out.step dd nn
  have S1 := Lib.hid s1
  have NN1 := Lib.hid nn
  have O1 := Lib.hid o1
  obtain ⟨-, -, -, -, g0, g1, g2, g3⟩ := (S00.out.on nn).cells
  obtain ⟨b0, b1, b2, b3, -⟩ := (S00.out.on nn).cells
  clear R dd nn s1 o1
  go_upto_if 24 with fail
  (try rw [hw1])
  clear hw1 b0 b1 b2 b3 g0 g1 g2 g3
  by_cases h1 : x1 = 0
  case neg =>
    have q1 : (x1 == 0) = false := by simpa using h1
    obtain ⟨rfl, hx⟩ : d1 = d' ∧ x1 = x := by
      have := HR.out
      simp only [Dsk.install, HRT.out, HMB.out, andThen, HR1.out, h1, if_false, if_true] at this
      exact Prod.mk.inj this
    have HXX := Lib.hid hx
    clear h1 hx
    obtain ⟨b0, b1, b2, b3, -⟩ := S1.out.cells
    obtain ⟨u0, u1, u2, u3, r0, r1, r2, r3, f0, f1, f2, f3⟩ := S1.out.rcells
    go_wp2
    obtain ⟨w9, hw9, D9, N9, -, B9⟩ := S1.out.fin HX.out
    rw [hw9]
    obtain ⟨e0, e1, e2, e3, -⟩ := box_cells B9
    exact bodyPost_ret (v := .tuple #[.agg #[.int .i64 m1, .slice a1 n1 c1, .int .i64 la1, .bool dn1], .int .i64 x1]) (by simp [results, Tryz.results70, go_sem, e0, e1, e2, e3]) rfl ⟨m1, a1, n1, c1, la1, dn1, by rw [HXX.out], D9, N9⟩
  subst h1
  obtain ⟨d2, x2, hr2⟩ : ∃ d2 x2, d1.rename nextS manifestS = (d2, x2) := ⟨_, _, rfl⟩
  have HR2 := Lib.hid hr2
  clear hr2
  obtain ⟨b0, b1, b2, b3, -⟩ := S1.out.cells
  have R := Lib.hid (S1.out.rd.rename S1.out.fresh (n := nextS) (m := manifestS) (by decide) HR2.out)
  go_wp2_with fail
  refine R.out.mono ?_
  rintro e y2 ⟨m2, a2, n2, c2, la2, dn2, rfl, dd, nn⟩
  obtain ⟨w2, hw2, s2, o2⟩ := S1.out.step dd nn
  have S2 := Lib.hid s2
  have NN2 := Lib.hid nn
  have O2 := Lib.hid o2
  obtain ⟨-, -, -, -, g0, g1, g2, g3⟩ := (S1.out.on nn).cells
  obtain ⟨b0, b1, b2, b3, -⟩ := (S1.out.on nn).cells
  clear R dd nn s2 o2
  go_upto_region 7 with fail
  (try rw [hw2])
  clear hw2 b0 b1 b2 b3 g0 g1 g2 g3
  obtain ⟨rfl, hx⟩ : d2 = d' ∧ x2 = x := by
    have := HR.out
    simp only [Dsk.install, HRT.out, HMB.out, andThen, HR1.out, HR2.out, if_true] at this
    exact Prod.mk.inj this
  have HXX := Lib.hid hx
  clear hx
  obtain ⟨b0, b1, b2, b3, -⟩ := S2.out.cells
  obtain ⟨u0, u1, u2, u3, r0, r1, r2, r3, f0, f1, f2, f3⟩ := S2.out.rcells
  go_wp2
  obtain ⟨w9, hw9, D9, N9, -, B9⟩ := S2.out.fin HX.out
  rw [hw9]
  obtain ⟨e0, e1, e2, e3, -⟩ := box_cells B9
  exact bodyPost_ret (v := .tuple #[.agg #[.int .i64 m2, .slice a2 n2 c2, .int .i64 la2, .bool dn2], .int .i64 x2]) (by simp [results, Tryz.results70, go_sem, e0, e1, e2, e3]) rfl ⟨m2, a2, n2, c2, la2, dn2, by rw [HXX.out], D9, N9⟩

end
end Go.Proofs.YtkbenkldfehhlaaGreatDoor
