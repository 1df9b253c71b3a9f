/-
  Texts merged by a program of this claim's: SeglogPieces.
-/
import Derived.Test.YtjapijndljknnaaGreatDoorM55
import Derived.Test.YtjapijndljknnaaGreatDoorM37
import Derived.Test.YtjapijndljknnaaGreatDoorM23
import Derived.Test.YtjapijndljknnaaGreatDoorM35
import Derived.Test.YtjapijndljknnaaGreatDoorM56
import Derived.Test.YtjapijndljknnaaGreatDoorM28
import Derived.Test.YtjapijndljknnaaGreatDoorM26
/-
  amanuensislaw05.SeglogPieces: a log's pieces are right at any time, and its disk has a file for each, the manifest, and nothing else.
-/
namespace Go.Proofs.YtjapijndljknnaaGreatDoor.SeglogPieces
open Go Go.RowKit Go.Sort
set_option maxRecDepth 100000
set_option maxHeartbeats 1600000

theorem walk (w : World) (ht : Tab w) (v0 : Value) (fs : List (List Ev)) (size : Int) (h0 : RdK 1 (isEvs w) w v0 fs) (_hs : -9223372036854775808 ≤ size ∧ size ≤ 9223372036854775807) :
    Calls Tryz.prog 3 #[v0, .int .i64 size] w fun e w' => e = .returned (.bool true) ∧ Nw w w' := by
  have HT := Lib.hid ht
  have HG := Lib.hid (logged_ok w ht v0 fs size h0)
  obtain ⟨a0, c0, rfl, -⟩ := h0.len
  obtain ⟨nf, hnf⟩ : ∃ n, fs.length = n := ⟨_, rfl⟩
  rw [hnf] at HG ⊢
  clear ht h0 _hs hnf
  have hmm := @run_makeMap Tryz.prog
  go_enter Tryz.func3, Tryz.ntmps3
  go_wp2_with fail
  refine HG.out.mono ?_
  rintro e w1 ⟨p, b, c, d, L, sa, sc, all, rfl, hc, pk, hL, hV, hA⟩
  have PK := Lib.hid pk
  have HL := Lib.hid hL
  have HV := Lib.hid hV
  obtain ⟨ln, hln⟩ : ∃ m, L.n = m := ⟨_, rfl⟩
  have HLN := Lib.hid hln
  rw [hln] at HL HV ⊢
  have HPO := Lib.hid hL.pok
  obtain ⟨z1, z2, z3, z4, z5, -, -, -, -⟩ := pk.ak.facts (by omega)
  obtain ⟨ps, hps⟩ : ∃ x, L.l = x := ⟨_, rfl⟩
  have HPS := Lib.hid hps
  rw [hps] at HPO
  obtain ⟨np, hnp⟩ : ∃ x, ps.length = x := ⟨_, rfl⟩
  have HNP := Lib.hid hnp
  have HN61 : Hid (0 < np ∧ np ≤ 61) := Lib.hid (by rw [hps] at z1 z2; have := List.length_pos_iff.2 z1; omega)
  clear pk hL hV hA hln z1 z2 z3 z4 z5 hps hnp HG
  go_wp2_with fail
  refine (HL.out.pieces HPS.out (by rw [HNP.out]; have := HN61.out; omega)).mono ?_
  rintro e w4 ⟨v4, rfl, q1, q2, q3⟩
  have P4 := Lib.hid (q1.pcs HPO.out)
  have L4 := Lib.hid (HL.out.nw q2)
  have hvl := P4.out.elem
  obtain ⟨pa, pc, rfl, -, -, -⟩ := hvl
  have HQL := Lib.hid q1.lt
  rw [HNP.out] at P4 HQL ⊢
  clear q1 q2 q3 HL
  have F4 : Names (w4.alloc (.map #[] 0)) w4.heap.size [] := ⟨[], 0, heap_alloc_new w4 _, (fun e he => by cases he), fun k => by simp⟩
  obtain ⟨w5, hput, nw5, on5, nm5⟩ := names_put (w := w4) F4 manifestS ((Nw.refl w4).alloc _) (Nat.le_refl _)
  have hput : (Instr.mapUpdate 30 (.map (some w4.heap.size)) (.string ⟨#[109, 97, 110, 105, 102, 101, 115, 116]⟩) (.int .i64 1)).run Tryz.prog (w4.alloc (.map #[] 0)) = .ok () w5 := hput
  have L5 := Lib.hid (L4.out.nw nw5)
  have P5 := Lib.hid (P4.out.nw nw5)
  have NM5 := Lib.hid nm5
  obtain ⟨m, hm⟩ : ∃ m, w4.heap.size = m := ⟨_, rfl⟩
  rw [hm] at hput NM5
  have hml : m < w5.heap.size := by
    obtain ⟨l5, c5, h5, -⟩ := nm5
    rw [hm] at h5
    exact (Array.getElem?_eq_some_iff.1 h5).1
  have L6 : Hid (HasL (fun j => j = m) w w5 p b d L) := Lib.hid (L4.out.wider nw5 fun j hj => .inr (by subst hj; exact ⟨by omega, hml⟩))
  have hpm : ∀ g, (Value.slice pa np pc).ownBlock = some g → ¬ g = m := fun g hg e => by
    have := HQL.out g hg
    omega
  have HPM := Lib.hid hpm
  have HWM : Hid (w.heap.size ≤ m) := Lib.hid (by rw [← hm]; exact L4.out.base.size)
  clear F4 nw5 on5 nm5 hpm
  go_upto_region 6 with fail
  clear hput hmm L5 L4 P4 hm hml
  go_wp2
  go_loopw [11] (fun i wr => ∃ j : Nat, j ≤ np ∧ i = .int .i64 j ∧ HasL (fun x => x = m) w wr p b d L ∧ Pcs wr (.slice pa np pc) ps ∧ ∃ S, Names wr m S ∧ manifestS ∈ S ∧ ∀ q ∈ ps.take j, q.name ∈ S) (fun i _ => np - (intOf i).toNat)
  case atStart => exact ⟨0, by omega, rfl, L6.out, P5.out, _, NM5.out, by simp, fun q hq => by simp at hq⟩
  case round =>
    obtain ⟨j, hj, rfl, hL, hP, S, hS, hms, hin⟩ := hrel
    have HL := Lib.hid hL
    have HP := Lib.hid hP
    have HS := Lib.hid hS
    have HIN := Lib.hid (And.intro hms hin)
    clear hL hP hS hms hin L6 P5 NM5
    by_cases h1 : j < np
    case neg =>
      have hjn : j = np := by omega
      subst hjn
      obtain ⟨dl, hdl⟩ : ∃ x, d.list = x := ⟨_, rfl⟩
      have HDL := Lib.hid hdl
      have hperm := PK.out.facts.2.1
      rw [hdl, HPS.out] at hperm
      have HPE := Lib.hid hperm
      have HIS : Hid (∀ x ∈ dl, x ∈ S) := Lib.hid fun x hx => by
        rcases List.mem_cons.1 (HPE.out.mem_iff.1 hx) with h2 | h2
        · exact h2 ▸ HIN.out.1
        · obtain ⟨q, hq, rfl⟩ := List.mem_map.1 h2
          exact HIN.out.2 q (by rw [List.take_of_length_le (by rw [HNP.out]; exact Nat.le_refl _)]; exact hq)
      obtain ⟨nd, hnd⟩ : ∃ x, dl.length = x := ⟨_, rfl⟩
      have HND := Lib.hid hnd
      have HN2 : Hid (nd = j + 1) := Lib.hid (by rw [← hnd, hperm.length_eq, List.length_cons, List.length_map, HNP.out])
      clear hperm hdl hnd
      go_wp2_with fail
      refine (HL.out.has.list HDL.out).mono ?_
      rintro e w6 ⟨v6, rfl, s6, n6, -⟩
      have L6 := Lib.hid (HL.out.nw n6)
      have P6 := Lib.hid (HP.out.nw n6)
      have NM6 := Lib.hid (HS.out.nw n6)
      obtain ⟨da, dc, rfl, -, -, hde⟩ := s6.elems
      rw [HND.out]
      have HDE := Lib.hid hde
      have h61 := HN61.out
      have hn2 := HN2.out
      clear s6 n6 hde HL HP HS
      go_wp2
      go_loopw [13, 47] (fun _ i wq => ∃ n : Nat, n ≤ nd ∧ i = .int .i64 n ∧ Nw w6 wq) (fun _ i _ => nd - (intOf i).toNat)
      case atStart => exact ⟨0, by omega, rfl, Nw.refl _⟩
      case round =>
        obtain ⟨n, hn, rfl, hw⟩ := hrel
        have NQ := Lib.hid hw
        clear hw
        by_cases h2 : n < nd
        case neg =>
          obtain ⟨f1, -, f3, f4, f5⟩ := PK.out.facts
          rw [HPS.out] at f1 f3 f4 f5
          rw [HLN.out] at f4
          obtain ⟨nq, rfl⟩ : ∃ q, j = q + 1 := ⟨j - 1, by omega⟩
          obtain rfl : nd = nq + 2 := by omega
          obtain ⟨ga, gc, he, -, -, hel⟩ := P6.out.elem
          obtain ⟨pg, po, hga, hg, -, hcf, -, -⟩ := hel nq (by rw [HNP.out]; omega)
          simp only [Value.slice.injEq] at he
          have hpa := he.1.trans hga
          subst hpa
          clear he hga hel
          have hlq : (ps[nq]'(by rw [HNP.out]; omega)) = lastP ps := by
            rw [← lastP_at (l := ps) (fun e => by have h := HNP.out; rw [e] at h; simp at h)]
            congr 1
            rw [HNP.out]; rfl
          rw [hlq] at hcf
          obtain ⟨fi, hfi⟩ : ∃ x, (lastP ps).first = x := ⟨_, rfl⟩
          obtain ⟨ak, hak⟩ : ∃ x, L.acked = x := ⟨_, rfl⟩
          rw [hfi] at hcf f4 f5
          rw [hak] at f5
          have HAK := Lib.hid hak
          have LQ := Lib.hid (L6.out.nw NQ.out)
          have PQ := Lib.hid (P6.out.nw NQ.out)
          have HCF := Lib.hid (NQ.out.cell hcf)
          have HG := Lib.hid (Nat.lt_of_lt_of_le hg NQ.out.size)
          have RD := Lib.hid f3
          have HR := Lib.hid f1
          have HB := Lib.hid (manifestB_len f1)
          have F4 := Lib.hid f4
          have F5 := Lib.hid f5
          have HDU := Lib.hid (show dl.length = nq + 1 + 1 from HND.out)
          have h60 : nq ≤ 60 := by omega
          clear hcf hg hak hfi hlq f1 f3 f4 f5 L6 P6 NM6 HDE NQ HN61 HN2 HND h61 hn2 HIN HIS HPE
          go_wp2_with fail
          refine (LQ.out.has.read manifestS RD.out).mono ?_
          rintro e w7 ⟨v7, rfl, o7, n7, -⟩
          obtain ⟨xa, xc, rfl, -⟩ := o7.rd.len
          have B7 := Lib.hid o7.rd
          have L7 := Lib.hid (LQ.out.nw n7)
          have P7 := Lib.hid (PQ.out.nw n7)
          have C7 := Lib.hid (n7.cell HCF.out)
          have G7 := Lib.hid (Nat.lt_of_lt_of_le HG.out n7.size)
          clear o7 n7 LQ PQ HCF HG
          obtain ⟨mb, hmb⟩ : ∃ x, (manifestB ps).length = x := ⟨_, rfl⟩
          have LI := Lib.hid (Listed_ok B7.out (by have := HB.out; omega) (listedB_at HR.out))
          rw [hmb] at LI ⊢
          clear B7 hmb
          go_wp2_with fail
          refine LI.out.mono ?_
          rintro e w8 ⟨v8, rfl, o8⟩
          have h8 := o8.1.len
          rw [HNP.out] at h8
          obtain ⟨la, lc, rfl, -⟩ := h8
          have O8 : Hid (Pcs w8 (.slice la (nq + 1) lc) ps) := Lib.hid o8.pcs
          have n8 := o8.2.2.1
          have L8 := Lib.hid (L7.out.nw n8)
          have P8 := Lib.hid (P7.out.nw n8)
          have C8 := Lib.hid (n8.cell C7.out)
          have G8 := Lib.hid (Nat.lt_of_lt_of_le G7.out n8.size)
          clear o8 n8 LI L7 P7 C7 G7
          have H71 : Hid (∀ W, Nw w8 W → Calls Tryz.prog 16 #[.slice (some ⟨pg, po, none⟩) (nq + 1) pc] W fun e w' => e = .returned (.bool true) ∧ Nw W w') := Lib.hid fun W n => by
            have := Right_ok (P8.out.nw n)
            rw [HR.out] at this
            exact this
          have H75 : Hid (∀ W, Nw w8 W → Calls Tryz.prog 13 #[.pointer (some ⟨b, 0, none⟩)] W fun e w' => ∃ ax cx, e = .returned (.slice ax (nq + 2) cx) ∧ Nw W w') := Lib.hid fun W n =>
            ((L8.out.nw n).has.list HDL.out).mono fun e w' ⟨v, h1, h2, h3, _⟩ => by
              have h4 := h2.len
              rw [HDU.out] at h4
              obtain ⟨ax, cx, rfl, -⟩ := h4
              exact ⟨ax, cx, h1, h3⟩
          have H93 : Hid (∀ W, Nw w8 W → Calls Tryz.prog 17 #[.slice la (nq + 1) lc, .slice (some ⟨pg, po, none⟩) (nq + 1) pc] W fun e w' => e = .returned (.bool true) ∧ Nw W w') := Lib.hid fun W n => SamePieces_ok (O8.out.nw n) (P8.out.nw n)
          have H97 : Hid (∀ W, Nw w8 W → Calls Tryz.prog 18 #[.pointer (some ⟨p, 0, none⟩)] W fun e w' => e = .returned (.int .i64 ak) ∧ W = w') := Lib.hid fun W n => (L8.out.nw n).ack HAK.out
          have H109 : Hid (∀ W, Nw w8 W → Calls Tryz.prog 19 #[.pointer (some ⟨p, 0, none⟩)] W fun e w' => e = .returned (.int .i64 ln) ∧ W = w') := Lib.hid fun W n => (L8.out.nw n).len HLN.out
          have H132 : Hid (∀ W, Nw w8 W → Calls Tryz.prog 20 #[] W fun e w' => e = .returned (.bool true) ∧ Nw W w') := Lib.hid fun W n => awake_ok W (HT.out.nw (L8.out.base.trans n))
          have N8 := Lib.hid L8.out.base
          clear L8 P8 O8
          go_upto_region 18 with fail
          by_cases hl0 : ln = 0
          case pos =>
            refine r18_none (by omega) H71 H75 H93 H97 H109 H132 C8 G8 F5.out hl0 ?_
            intros
            rename_i wx nwx h4
            subst h4
            go_wp2
            go_ret
            exact ⟨rfl, N8.out.trans nwx⟩
          case neg =>
            refine r18_some (by omega) H71 H75 H93 H97 H109 H132 C8 G8 F5.out hl0 (by rcases F4.out with h | h; exact absurd h hl0; exact h) ?_
            intros
            rename_i wx nwx h4
            subst h4
            go_wp2
            go_ret
            exact ⟨rfl, N8.out.trans nwx⟩
        obtain ⟨dg, d0, rfl, hdg, dc0⟩ := HDE.out n (by rw [HND.out]; exact h2)
        have dc1 := NQ.out.cell dc0
        obtain ⟨x, hx⟩ : ∃ x, dl[n]'(by rw [HND.out]; exact h2) = x := ⟨_, rfl⟩
        have hxm : x ∈ dl := hx ▸ List.getElem_mem _
        have hget := names_get (NM6.out.nw NQ.out) (HIS.out x hxm)
        rw [hx] at dc1
        clear dc0 hdg
        go_wp2_with fail
        go_roundw
        case rel => exact ⟨n + 1, by omega, by go_num, NQ.out⟩
        case measure => simp [intOf]; omega
    obtain ⟨ga, gc, he, -, -, hel⟩ := HP.out.elem
    obtain ⟨g, o, hga, hg, c0, -, -, -⟩ := hel j (by rw [HNP.out]; exact h1)
    simp only [Value.slice.injEq] at he
    have hpa := he.1.trans hga
    subst hpa
    clear he hga
    obtain ⟨q, hq⟩ : ∃ q, ps[j]'(by rw [HNP.out]; exact h1) = q := ⟨_, rfl⟩
    rw [hq] at c0
    obtain ⟨W2, hput, nw2, on2, nm2⟩ := names_put HS.out q.name HL.out.base HWM.out
    have L7 := Lib.hid (HL.out.grow (Y := fun x => x = m) on2 (fun k hk _ => ⟨hk, hk ▸ HWM.out⟩) (fun k hk => .inl hk))
    have P7 : Hid (Pcs W2 (.slice (some ⟨g, o, none⟩) np pc) ps) := Lib.hid ⟨by have h1 := HP.out.src.keep on2 HPM.out; exact h1, HP.out.ok⟩
    have NM7 := Lib.hid nm2
    have HIN7 : Hid (manifestS ∈ q.name :: S ∧ ∀ x ∈ ps.take (j + 1), x.name ∈ q.name :: S) := Lib.hid ⟨List.mem_cons_of_mem _ HIN.out.1, fun x hx => by
      rw [List.take_succ_eq_append_getElem (by rw [HNP.out]; exact h1), hq] at hx
      rcases List.mem_append.1 hx with hx | hx
      · exact List.mem_cons_of_mem _ (HIN.out.2 x hx)
      · rw [List.mem_singleton] at hx
        subst hx
        exact List.mem_cons_self⟩
    clear nw2 on2 nm2 hel hg
    have h61 := HN61.out
    go_wp2_with fail
    go_roundw
    case rel => exact ⟨j + 1, by omega, by go_num, L7.out, P7.out, _, NM7.out, HIN7.out.1, HIN7.out.2⟩
    case measure => simp [intOf]; omega
end Go.Proofs.YtjapijndljknnaaGreatDoor.SeglogPieces
