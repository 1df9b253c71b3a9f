/-
  Texts merged by a program of this claim's: LogC.
-/
import Derived.Test.YtkbenkldfehhlaaGreatDoorM12
import Derived.Test.YtkbenkldfehhlaaGreatDoorM9
namespace Go.Proofs.YtkbenkldfehhlaaGreatDoor
open Go Go.RowKit Go.Sort
set_option maxRecDepth 100000
set_option maxHeartbeats 1600000

theorem manifest_part {l : List Pc} {k : Nat} (h : k < l.length) : (l.take (k + 1)).flatMap pieceB = (l.take k).flatMap pieceB ++ pieceB l[k] := by
  rw [List.take_succ_eq_append_getElem h, List.flatMap_append]; simp
structure Buf (w : World) (N : Nat) (o : Obj) (x : World) (v : Value) (l : List UInt8) : Prop where
  vec : Vec 1 x v l.length (l.map u8)
  nw : Nw w x
  new : ∀ g, v.ownBlock = some g → w.heap.size ≤ g ∧ g ≠ N
  box : x.heap[N]? = some o
theorem Buf.on {w x x' : World} {N : Nat} {o : Obj} {v : Value} {l : List UInt8} (h : Buf w N o x v l) (hw : Nw x x') : Buf w N o x' v l := ⟨h.vec.nw hw, h.nw.trans hw, h.new, hw.at_ h.box⟩
theorem Buf.step {w x x' : World} {N : Nat} {o : Obj} {v v' : Value} {l l' : List UInt8} (h : Buf w N o x v l) (q1 : Vec 1 x' v' l'.length (l'.map u8)) (q2 : Only (fun k => v.ownBlock = some k) x x')
    (q3 : v'.ownBlock = v.ownBlock ∨ ∀ g, v'.ownBlock = some g → x.heap.size ≤ g) : Buf w N o x' v' l' := by
  refine ⟨q1, h.nw.trans' q2 (fun k hk hc => by have := (h.new k hc).1; omega), fun g hg => ?_, q2.at_ h.box (fun hc => (h.new N hc).2 rfl)⟩
  rcases q3 with e | e
  · exact h.new g (e ▸ hg)
  · have h1 := e g hg
    have h2 := lt_of_block h.box
    have h3 := h.nw.size
    exact ⟨by omega, by omega⟩

theorem Manifest_no {w : World} {v : Value} {l : List Pc} (hv : Pcs w v l) (hr : rightL l = false) :
    Calls Tryz.prog 116 #[v] w fun e w' => e = .returned (.tuple #[.slice none 0 0, .int .i64 14]) ∧ Nw w w' := by
  have HV := Lib.hid hv
  obtain ⟨a, cap, rfl, hc, hm, -⟩ := hv.elem
  have HR := Lib.hid (Right_ok hv)
  rw [hr] at HR
  clear hr hv
  go_enter Tryz.func116, Tryz.ntmps116
  go_wp2_with fail
  refine HR.out.mono ?_
  rintro e w1 ⟨rfl, n1⟩
  go_wp2
  refine bodyPost_ret (v := .tuple #[.slice none 0 0, .int .i64 14]) (by simp [results, Tryz.results116, go_sem]) rfl ⟨rfl, n1⟩

theorem Manifest_ok {w : World} {v : Value} {l : List Pc} (hv : Pcs w v l) (hr : rightL l = true) :
    Calls Tryz.prog 116 #[v] w (NewE w (manifestB l)) := by
  have HV := Lib.hid hv
  have HB := Lib.hid (rightL_bound hr)
  obtain ⟨a, cap, rfl, hc, hm, hel⟩ := hv.elem
  have HE := Lib.hid hel
  have HR := Lib.hid (Right_ok hv)
  rw [hr] at HR
  clear hr hv hel
  obtain ⟨n, hn⟩ : ∃ n, l.length = n := ⟨_, rfl⟩
  have HN := Lib.hid hn
  rw [hn] at hc HR ⊢
  have hn100 : n ≤ 100 := by rw [← hn]; exact HB.out.2.1
  clear hn
  obtain ⟨i0, hi, hz0, hz1, hz2⟩ := info_parts infoU8
  have HI := Lib.hid hi
  have HZ0 := Lib.hid hz0
  have HZ1 := Lib.hid hz1
  have HZ2 := Lib.hid hz2
  clear hi hz0 hz1 hz2
  have kc := fun (w : World) (C : Array Value) (n c : Nat) => Go.Lib.run_convert_bytes_const (P := Tryz.prog) w 79 5 C n c Tryz.underlying79 Tryz.underlying5
  have hm64 : ((n : Nat) : Int) % 18446744073709551616 = n := by omega
  go_enter Tryz.func116, Tryz.ntmps116
  go_wp2_with fail
  refine HR.out.mono ?_
  rintro e w1 ⟨rfl, n1⟩
  have N1 := Lib.hid n1
  clear n1 HR
  have V0 := Lib.hid (vec_lit w1 5 1 4 (([65, 77, 77, 49] : List UInt8).map u8) _ (4, 5) rfl rfl (by decide) (fun j hj => by omega))
  go_wp2_with fail
  refine (Uint_ok (l := [65, 77, 77, 49]) V0.out n (by omega) (by decide)).mono ?_
  rintro e w2 ⟨v2, rfl, q1, q2, q3⟩
  have HU : Hid ((uintB n).length ≤ 10) := Lib.hid (uintB_len _ 10 (by omega) (Nat.lt_trans (show n < 2 ^ 64 by omega) (by decide)))
  have G : Hid (Vec 1 w2 v2 ([65, 77, 77, 49] ++ uintB n).length (([65, 77, 77, 49] ++ uintB n).map u8) ∧ Nw w w2 ∧ ∀ g, v2.ownBlock = some g → w.heap.size ≤ g) := Lib.hid (by
    refine ⟨q1, N1.out.trans (((Nw.refl w1).alloc _).trans' q2 (fun k hk hc => ?_)), fun g hg => ?_⟩
    · have e : w1.heap.size = k := by simpa [Value.ownBlock] using hc
      omega
    · have hs := N1.out.size
      rcases q3 with h | h
      · rw [h] at hg
        have e : w1.heap.size = g := by simpa [Value.ownBlock] using hg
        omega
      · have := h g hg
        simp only [World.size_alloc] at this
        omega)
  clear q1 q2 q3 V0 kc
  obtain ⟨p0, hp0⟩ : ∃ p0 : List UInt8, p0 = [65, 77, 77, 49] ++ uintB n := ⟨_, rfl⟩
  rw [← hp0] at G
  have HP0 := Lib.hid hp0
  have hpl : p0.length ≤ 14 := by rw [hp0]; have := HU.out; simp only [List.length_append, List.length_cons, List.length_nil]; omega
  clear hp0 HU
  go_wp2
  go_loopw [4, 19] (fun b i wr => ∃ (k : Nat), k ≤ n ∧ i = .int .i64 k ∧ Vec 1 wr b (p0 ++ (l.take k).flatMap pieceB).length ((p0 ++ (l.take k).flatMap pieceB).map u8) ∧ Nw w wr ∧ (∀ g, b.ownBlock = some g → w.heap.size ≤ g)) (fun _ i _ => n - (intOf i).toNat)
  case atStart => exact ⟨0, by omega, rfl, by simpa using G.out.1, G.out.2.1, G.out.2.2⟩
  case round =>
    obtain ⟨k, hk, rfl, hb, hw, hf⟩ := hrel
    have hlen : (p0 ++ (l.take k).flatMap pieceB).length ≤ 14 + 62 * 100 := by
      have h4 := flat_len (l := l.take k) fun p hp => by
        obtain ⟨a, b, c, d, e⟩ := HB.out.2.2 p (List.mem_of_mem_take hp)
        exact pieceB_len a (by omega) (by omega)
      have : (l.take k).length ≤ 100 := by simp; omega
      rw [List.length_append]; omega
    have LN := Lib.hid hlen
    clear hlen
    by_cases hlt : k < n
    · have hkl : k < l.length := by rw [HN.out]; exact hlt
      obtain ⟨g, o, rfl, hg, c0, c1, c2, c3⟩ := HE.out k hkl
      have d0 := hw.cell c0
      have d1 := hw.cell c1
      have d2 := hw.cell c2
      have d3 := hw.cell c3
      have hg' := Nat.lt_of_lt_of_le hg hw.size
      obtain ⟨b1, b2, b3, b4, b5⟩ := HB.out.2.2 _ (List.getElem_mem hkl)
      have hpt : p0 ++ (l.take (k + 1)).flatMap pieceB = (p0 ++ (l.take k).flatMap pieceB) ++ pieceB l[k] := by rw [manifest_part hkl, List.append_assoc]
      obtain ⟨q0, hq0⟩ : ∃ q0, q0 = p0 ++ (l.take (k + 1)).flatMap pieceB := ⟨_, rfl⟩
      rw [← hq0] at hpt
      have HQ0 := Lib.hid hq0
      clear hq0 c0 c1 c2 c3
      generalize p0 ++ (l.take k).flatMap pieceB = p1 at *
      generalize hP : (l[k] : Pc) = P at *
      obtain ⟨pn, pf, pc, pd⟩ := P
      simp only at d0 d1 d2 d3 b1 b2 b3 b4 b5
      obtain ⟨sa, sc, rfl, -⟩ := hb.len
      have V := Lib.hid (And.intro hb (And.intro hw hf))
      have BD := Lib.hid (And.intro b1 (And.intro b2 (And.intro b3 (And.intro b4 b5))))
      have HPT := Lib.hid hpt
      clear hb hw hf b1 b2 b3 b4 b5 hpt hP
      obtain ⟨fn, rfl⟩ := Int.eq_ofNat_of_zero_le BD.out.2.1
      obtain ⟨cn, rfl⟩ := Int.eq_ofNat_of_zero_le BD.out.2.2.2.1
      have hfn : fn < 1152921504606846976 := by have := BD.out.2.2.1; omega
      have hcn : cn ≤ 1099511627776 := by have := BD.out.2.2.2.2; omega
      have hnl : pn.length ≤ 40 := by
        have := (okPiece_name BD.out.1).1
        simp only [okName, Bool.and_eq_true, decide_eq_true_eq] at this
        exact this.1.2
      have hf64 : IntKind.u64.wrap (fn : Int) = fn := Go.wraps_u64 _ (by omega) (by omega)
      have hc64 : IntKind.u64.wrap (cn : Int) = cn := Go.wraps_u64 _ (by omega) (by omega)
      go_upto_region 7 with fail
      have hbx := heap_alloc_new wr (.cells (pcV ⟨pn, fn, cn, pd⟩).toArray 98 (0, 0))
      have hnx := (Nw.refl wr).alloc (.cells (pcV ⟨pn, fn, cn, pd⟩).toArray 98 (0, 0))
      change Code.wp _ _ _ _ (wr.alloc (.cells (pcV ⟨pn, fn, cn, pd⟩).toArray 98 (0, 0)))
      generalize wr.alloc (.cells (pcV ⟨pn, fn, cn, pd⟩).toArray 98 (0, 0)) = W at hbx hnx ⊢
      have hVN : ∀ g, (Value.slice sa p1.length sc).ownBlock = some g → w.heap.size ≤ g ∧ g ≠ wr.heap.size := fun g hg => ⟨V.out.2.2 g hg, by have := V.out.1.lt g hg; omega⟩
      generalize wr.heap.size = N at hbx hVN ⊢
      have BF : Hid (Buf w N (.cells (pcV ⟨pn, fn, cn, pd⟩).toArray 98 (0, 0)) W (.slice sa p1.length sc) p1) := Lib.hid ⟨V.out.1.nw hnx, V.out.2.1.trans hnx, hVN, hbx⟩
      have C0 : ∀ x : World, x.heap[N]? = some (.cells (pcV ⟨pn, fn, cn, pd⟩).toArray 98 (0, 0)) → x.cell? ⟨N, 0, none⟩ = some (.string ⟨pn.toArray⟩) ∧ x.cell? ⟨N, 1, none⟩ = some (.int .i64 fn) ∧ x.cell? ⟨N, 2, none⟩ = some (.int .i64 cn) ∧ x.cell? ⟨N, 3, none⟩ = some (.bool pd) := fun x this => by
        simp [World.cell?, this, pcV]
      clear hbx hnx hVN d0 d1 d2 d3 V
      have HC0 := Lib.hid C0
      clear C0
      refine wp_region_steps 13 [.rd 0, .rd 1, .rd 2, .rd 5, .rd 6, .rd 7, .rd 9, .rd 10, .rd 11, .dn 3, .dn 4, .dn 8, .dn 12] [13] (fun x => x.cell? ⟨N, 0, none⟩ = some (.string ⟨pn.toArray⟩) ∧ x.cell? ⟨N, 1, none⟩ = some (.int .i64 fn) ∧ x.cell? ⟨N, 2, none⟩ = some (.int .i64 cn) ∧ x.cell? ⟨N, 3, none⟩ = some (.bool pd)) (by kernel_rfl) (by kernel_rfl) (fun _ _ _ _ _ h => h) (HC0.out _ (BF.out.on ((Nw.refl W).drew)).box) ?_
      refine stp_to (.slice sa p1.length sc) rfl rfl rfl (fun x hx => by go_simp) (fun K hK => ?_); go_simp; refine hK _ ?_; clear hK K
      refine stp_to (.pointer (some ⟨N, 0, none⟩)) rfl rfl rfl (fun x hx => by go_simp) (fun K hK => ?_); go_simp; refine hK _ ?_; clear hK K
      refine stp_to (.string ⟨pn.toArray⟩) rfl rfl rfl (fun x hx => by obtain ⟨e1, e2, e3, e4⟩ := hx; go_simp) (fun K hK => ?_); go_simp; refine hK _ ?_; clear hK K
      refine stp_to (.pointer (some ⟨N, 1, none⟩)) rfl rfl rfl (fun x hx => by go_simp) (fun K hK => ?_); go_simp; refine hK _ ?_; clear hK K
      refine stp_to (.int .i64 fn) rfl rfl rfl (fun x hx => by obtain ⟨e1, e2, e3, e4⟩ := hx; go_simp) (fun K hK => ?_); go_simp; refine hK _ ?_; clear hK K
      refine stp_to (.int .u64 fn) rfl rfl rfl (fun x hx => by go_simp) (fun K hK => ?_); go_simp; refine hK _ ?_; clear hK K
      refine stp_to (.pointer (some ⟨N, 2, none⟩)) rfl rfl rfl (fun x hx => by go_simp) (fun K hK => ?_); go_simp; refine hK _ ?_; clear hK K
      refine stp_to (.int .i64 cn) rfl rfl rfl (fun x hx => by obtain ⟨e1, e2, e3, e4⟩ := hx; go_simp) (fun K hK => ?_); go_simp; refine hK _ ?_; clear hK K
      refine stp_to (.int .u64 cn) rfl rfl rfl (fun x hx => by go_simp) (fun K hK => ?_); go_simp; refine hK _ ?_; clear hK K
      have cv := Lib.run_convert_string_bytes (P := Tryz.prog) W.drew 9 79 5 ⟨pn.toArray⟩ Tryz.underlying9 Tryz.underlying79 Tryz.underlying5
      have hcv := Vec.of_conv W.drew 5 pn (by unfold maxLen; omega)
      have hds : W.drew.heap.size = W.heap.size := rfl
      have cv' : (convert 9 79 (.string ⟨pn.toArray⟩)).run Tryz.prog W.drew = .ok (.slice (some ⟨W.drew.heap.size, 0, none⟩) pn.length (grownCap W.drew pn.length 0 5)) (Lib.bytesWorld W.drew 5 ⟨pn.toArray⟩) := cv
      clear cv
      generalize Lib.bytesWorld W.drew 5 ⟨pn.toArray⟩ = W3 at cv' hcv
      generalize grownCap W.drew pn.length 0 5 = c3 at cv' hcv
      rw [hds] at cv' hcv
      have HCV := Lib.hid hcv
      clear hcv hds
      refine stp_dn rfl (fun K hK => ?_)
      go_wp2
      have B3 := Lib.hid (BF.out.on (((Nw.refl W).drew).trans HCV.out.2))
      refine hK _ _ (HC0.out _ B3.out.box) ?_; clear hK K cv'
      refine stp_dn rfl (fun K hK => ?_)
      go_wp2_with fail
      go_at_call 151
      refine (Blob_ok B3.out.vec HCV.out.1.rd (fun _ g hg hc => ?_) (by have := LN.out; omega) (by omega)).mono ?_
      · have h1 : W.heap.size = g := by simpa [Value.ownBlock] using hg
        have h2 := BF.out.vec.lt g hc
        omega
      rintro e w4 ⟨v4, rfl, q1, q2, q3⟩
      obtain ⟨xa, xc, rfl, -⟩ := q1.len
      have hbl : (p1 ++ blobB pn).length ≤ 14 + 62 * 100 + 50 := by
        have h1 := LN.out
        have h2 := uintB_len pn.length 1 (by omega) (by omega)
        simp only [blobB, List.length_append]; omega
      have hpt2 : q0 = (p1 ++ blobB pn) ++ (uintB fn ++ (uintB cn ++ [if pd then 1 else 0])) := by rw [HPT.out]; simp [pieceB]
      have B4 := Lib.hid (B3.out.step q1 q2 q3)
      clear q1 q2 q3 B3 HCV
      generalize p1 ++ blobB pn = p2 at B4 hbl hpt2 ⊢
      have LN2 := Lib.hid hbl
      have HPT2 := Lib.hid hpt2
      clear hbl hpt2
      go_wp2
      refine hK _ _ (HC0.out _ B4.out.box) ?_; clear hK K
      refine stp_dn rfl (fun K hK => ?_)
      go_wp2_with fail
      go_at_call 126
      refine (Uint_ok B4.out.vec fn (by omega) (by have := LN2.out; omega)).mono ?_
      rintro e w5 ⟨v5, rfl, q1, q2, q3⟩
      obtain ⟨ya, yc, rfl, -⟩ := q1.len
      have hbl : (p2 ++ uintB fn).length ≤ 14 + 62 * 100 + 60 := by
        have h1 := LN2.out
        have h2 := uintB_len fn 10 (by omega) (Nat.lt_trans (show fn < 2 ^ 64 by omega) (by decide))
        simp only [List.length_append]; omega
      have hpt2 : q0 = (p2 ++ uintB fn) ++ (uintB cn ++ [if pd then 1 else 0]) := by rw [HPT2.out]; simp
      have B5 := Lib.hid (B4.out.step q1 q2 q3)
      clear q1 q2 q3 B4 HPT2 LN2
      generalize p2 ++ uintB fn = p3 at B5 hbl hpt2 ⊢
      have LN2 := Lib.hid hbl
      have HPT2 := Lib.hid hpt2
      clear hbl hpt2
      go_wp2
      refine hK _ _ (HC0.out _ B5.out.box) ?_; clear hK K
      refine stp_dn rfl (fun K hK => ?_)
      go_wp2_with fail
      go_at_call 126
      refine (Uint_ok B5.out.vec cn (by omega) (by have := LN2.out; omega)).mono ?_
      rintro e w6 ⟨v6, rfl, q1, q2, q3⟩
      obtain ⟨za, zc, rfl, -⟩ := q1.len
      have hbl : (p3 ++ uintB cn).length ≤ 14 + 62 * 100 + 70 := by
        have h1 := LN2.out
        have h2 := uintB_len cn 10 (by omega) (Nat.lt_trans (show cn < 2 ^ 64 by omega) (by decide))
        simp only [List.length_append]; omega
      have hpt2 : q0 = (p3 ++ uintB cn) ++ [if pd then 1 else 0] := by rw [HPT2.out]; simp
      have B6 := Lib.hid (B5.out.step q1 q2 q3)
      clear q1 q2 q3 B5 HPT2 LN2
      generalize p3 ++ uintB cn = p4 at B6 hbl hpt2 ⊢
      have LN2 := Lib.hid hbl
      have HPT2 := Lib.hid hpt2
      clear hbl hpt2
      go_wp2
      refine hK _ _ (HC0.out _ B6.out.box) ?_; clear hK K
      refine wpSteps_nil ?_
      refine stp_do rfl (by decide) (fun K hK => ?_)
      go_wp2
      (try (refine hK _ _ ?_; clear hK K))
      refine wpNums_nil ?_
      obtain ⟨-, -, -, x3⟩ := HC0.out _ B6.out.box
      obtain ⟨dn, hdn, hdn2⟩ : ∃ dn : UInt8, dn = (if pd then 1 else 0) ∧ (dn = 0 ∨ dn = 1) := ⟨_, rfl, by cases pd <;> simp⟩
      rw [← hdn] at HPT2
      have V7 := Lib.hid (B6.out.vec.nw ((Nw.refl w6).alloc (.cells #[u8 dn] 5 (0, 0))))
      have S7 := Lib.hid (src_lit w6 5 (0, 0) 1 1 1 [u8 dn] rfl (by omega) (by decide))
      have hrest : ∀ v' w', Vec 1 w' v' (p4.length + 1) (p4.map u8 ++ [u8 dn]) → Only (fun k => (Value.slice za p4.length zc).ownBlock = some k) (w6.alloc (.cells #[u8 dn] 5 (0, 0))) w' →
          (v'.ownBlock = (Value.slice za p4.length zc).ownBlock ∨ ∀ g, v'.ownBlock = some g → (w6.alloc (.cells #[u8 dn] 5 (0, 0))).heap.size ≤ g) → Vec 1 w' v' q0.length (q0.map u8) ∧ Nw w w' ∧ ∀ g, v'.ownBlock = some g → w.heap.size ≤ g := fun v' w' e1 e2 e3 => by
        have hb := (B6.out.on ((Nw.refl w6).alloc (.cells #[u8 dn] 5 (0, 0)))).step (l' := q0) (by rw [HPT2.out, List.map_append, List.length_append]; exact e1) e2 e3
        exact ⟨hb.vec, hb.nw, fun g hg => (hb.new g hg).1⟩
      have HREST := Lib.hid hrest
      clear hrest
      cases pd
      case false =>
        obtain rfl : dn = 0 := hdn
        have e8 : u8 0 = .int .u8 0 := rfl
        rw [e8] at V7 S7 HREST
        go_wp2_with (at_builtin; refine wpList_append_vec rfl _ _ 79 rfl 5 i0 (.int .u8 0) 1 1 Tryz.underlying79 HI.out HZ0.out HZ1.out HZ2.out rfl (by decide) rfl rfl V7.out S7.out ?c1 ?c2 ?c3 ?_)
        case c1 => rfl
        case c2 => have := LN2.out; unfold maxLen; omega
        case c3 => have := LN2.out; omega
        intro v8 w8 f1 f2 f3
        have F := Lib.hid (HREST.out v8 w8 f1 f2 (by rw [World.size_alloc]; exact f3))
        clear f1 f2 f3
        go_wp2
        go_roundw
        case rel => exact ⟨k + 1, by omega, by go_num, by rw [← HQ0.out]; exact F.out.1, F.out.2.1, F.out.2.2⟩
        case measure => simp [intOf]; omega
      case true =>
        obtain rfl : dn = 1 := hdn
        have e8 : u8 1 = .int .u8 1 := rfl
        rw [e8] at V7 S7 HREST
        go_wp2_with (at_builtin; refine wpList_append_vec rfl _ _ 79 rfl 5 i0 (.int .u8 0) 1 1 Tryz.underlying79 HI.out HZ0.out HZ1.out HZ2.out rfl (by decide) rfl rfl V7.out S7.out ?c1 ?c2 ?c3 ?_)
        case c1 => rfl
        case c2 => have := LN2.out; unfold maxLen; omega
        case c3 => have := LN2.out; omega
        intro v8 w8 f1 f2 f3
        have F := Lib.hid (HREST.out v8 w8 f1 f2 (by rw [World.size_alloc]; exact f3))
        clear f1 f2 f3
        go_wp2
        go_roundw
        case rel => exact ⟨k + 1, by omega, by go_num, by rw [← HQ0.out]; exact F.out.1, F.out.2.1, F.out.2.2⟩
        case measure => simp [intOf]; omega
    · obtain rfl : k = n := by omega
      have hall : l.take k = l := by rw [← HN.out]; exact List.take_length
      rw [hall] at hb
      have HMI : Hid (p0 ++ l.flatMap pieceB = manifestIn l) := Lib.hid (by rw [HP0.out]; unfold manifestIn; rw [HN.out])
      rw [HMI.out] at hb
      have hlen : (manifestIn l).length ≤ 14 + 62 * 100 := by have := LN.out; rw [hall, HMI.out] at this; exact this
      have HMB : Hid (manifestB l = sealB sumB (manifestIn l)) := Lib.hid rfl
      obtain ⟨sa, sc, rfl, -⟩ := hb.len
      have V := Lib.hid (And.intro hb (And.intro hw hf))
      clear hb hw hf hall HMI
      generalize manifestIn l = mi at *
      go_wp2_with fail
      refine (Seal_ok V.out.1.rd (by omega)).mono ?_
      rintro e w4 ⟨v4, rfl, q1, q2, q3⟩
      rw [← HMB.out] at q1
      obtain ⟨xa, xc, rfl, -⟩ := q1.len
      have Q := Lib.hid (And.intro q1 (And.intro q2 q3))
      clear q1 q2 q3
      go_wp2
      refine bodyPost_ret (v := .tuple #[.slice xa (manifestB l).length xc, .int .i64 0]) (by simp [results, Tryz.results116, go_sem]) rfl ⟨_, rfl, Q.out.1, V.out.2.1.trans Q.out.2.1, fun g hg => Nat.le_trans V.out.2.1.size (Q.out.2.2 g hg)⟩
end Go.Proofs.YtkbenkldfehhlaaGreatDoor
