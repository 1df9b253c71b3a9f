/-
  Texts merged by a program of this claim's: SeglogNumbers.
-/
import Derived.Test.YtjapijndljknnaaGreatDoorM54
import Derived.Test.YtjapijndljknnaaGreatDoorM53
import Derived.Test.YtjapijndljknnaaGreatDoorM18
import Derived.Test.YtjapijndljknnaaGreatDoorM11
import Derived.Test.YtjapijndljknnaaGreatDoorM35
/-
  amanuensislaw05.SeglogNumbers: the fixed examples of the chapter.
-/
namespace Go.Proofs.YtjapijndljknnaaGreatDoor.SeglogNumbers
open Go Go.RowKit Go.Sort
set_option maxRecDepth 100000
set_option maxHeartbeats 3200000
theorem zp_ok : (⟨[], 0, 0, false⟩ : Pc).Ok := pc_ok (by decide) (by decide)
theorem own_cell {w : World} {g n : Nat} {cs : List Value} (h : Vec 4 w (.slice (some ⟨g, 0, none⟩) n n) n cs) (j : Nat) (hj : j < n * 4) : ∃ u, w.cell? ⟨g, j, none⟩ = some u ∧ w.frozen? ⟨g, j, none⟩ = false := by
  obtain ⟨h0, ⟨h, -⟩ | ⟨g', o', cap', he, h1, h2, h3, h4, h5, h6⟩⟩ := h
  · cases h
  · obtain ⟨⟨rfl, rfl⟩, rfl⟩ : (g = g' ∧ 0 = o') ∧ n = cap' := by simpa using he
    have a := h6 j (by omega)
    have b := h5 j (by omega)
    rw [Nat.zero_add] at a b
    exact ⟨_, a, b⟩
theorem walk (w : World) (ht : Tab w) : Calls Tryz.prog 4 #[] w fun e w' => e = .returned (.bool true) ∧ Nw w w' := by
  have HT := Lib.hid ht
  obtain ⟨W1, hmk, nw1, vc1⟩ := makeP w 101 (by omega)
  have hmk : (Instr.makeSlice 28 (.int .i64 101) (.int .i64 101)).run Tryz.prog w = .ok (.slice (some ⟨w.heap.size, 0, none⟩) 101 101) W1 := hmk
  obtain ⟨lg, hlg⟩ : ∃ x, w.heap.size = x := ⟨_, rfl⟩
  rw [hlg] at hmk vc1
  have V1 := Lib.hid vc1
  have N1 := Lib.hid nw1
  have HLG := Lib.hid hlg
  clear ht vc1 nw1 hlg
  go_enter Tryz.func4, Tryz.ntmps4
  go_wp2
  go_loopw [2] (fun i wr => ∃ (k : Nat) (ps : List Pc), k ≤ 101 ∧ i = .int .i64 k ∧ ps.length = 101 ∧ (∀ q ∈ ps, q.Ok) ∧ Vec 4 wr (.slice (some ⟨lg, 0, none⟩) 101 101) 101 (ps.flatMap pcV) ∧ Nw w wr) (fun i _ => 101 - (intOf i).toNat)
  case atStart => exact ⟨0, List.replicate 101 ⟨[], 0, 0, false⟩, by omega, rfl, by simp, fun q hq => by rw [List.eq_of_mem_replicate hq]; exact zp_ok, V1.out, N1.out⟩
  case round =>
    obtain ⟨k, ps, hk, rfl, hps, hok, hv, hn⟩ := hrel
    have HPS := Lib.hid hps
    have HOK := Lib.hid hok
    have HV := Lib.hid hv
    have HN := Lib.hid hn
    clear hps hok hv hn V1 N1 hmk
    by_cases h1 : k < 101
    case neg =>
      obtain rfl : k = 101 := by omega
      rw [show ((101 : Nat) : Int) = (101 : Int) from rfl]
      obtain ⟨x0, y0, z0⟩ := own_cell HV.out 402 (by omega)
      have V5 := HV.out.setAt (j := 100 * 4 + 2) (by rw [flatPc_len, HPS.out]; decide) (.int .i64 0)
      rw [flat_count ps 100 (by rw [HPS.out]; decide) 0] at V5
      have hl := HLG.out
      have n5 : Nw w (wr.setCell ⟨lg, 402, none⟩ (.int .i64 0)) := Only.setCell HN.out (fun h => absurd h (by simp only; omega)) _
      obtain ⟨ll, hll⟩ : ∃ x, ps.set 100 { ps[100]'(by rw [HPS.out]; decide) with count := 0 } = x := ⟨_, rfl⟩
      have hlen : ll.length = 101 := by rw [← hll, List.length_set]; exact HPS.out
      have hlok : ∀ q ∈ ll, q.Ok := fun q hq => by
        rw [← hll] at hq
        rcases List.mem_or_eq_of_mem_set hq with h | rfl
        · exact HOK.out q h
        · have := HOK.out (ps[100]'(by rw [HPS.out]; decide)) (List.getElem_mem _)
          exact ⟨this.name, this.first, by unfold in64; simp⟩
      rw [hll] at V5
      simp only [Nat.zero_add, Nat.reduceMul, Nat.reduceAdd] at V5
      have P5 : Hid (Pcs (wr.setCell ⟨lg, 402, none⟩ (.int .i64 0)) (.slice (some ⟨lg, 0, none⟩) 101 101) ll) := Lib.hid ⟨by rw [hlen]; exact V5.src, hlok⟩
      have N5 := Lib.hid n5
      clear V5 n5 hll hlok HV HOK HPS HN
      go_upto_region 7 with fail
      clear y0 z0
      obtain ⟨w5, hw5⟩ : ∃ x, wr.setCell ⟨lg, 402, none⟩ (.int .i64 0) = x := ⟨_, rfl⟩
      rw [hw5] at P5 N5 ⊢
      clear hw5
      refine p7 P5 hlen (fun _ _ _ _ _ h => h) ?_
      intro s58 s59 s60 s61 s62 s63 s64 s65 s66 s67 s68 s69 s70 s71 s72 s73 s74 s75 s76 s77 s78 s79 s80 s81 s82 s83 s84 s85 s86 s87 g w6 hrow nw6
      have RW := Lib.hid hrow
      have N6 := Lib.hid (N5.out.trans nw6)
      clear hrow nw6 P5 N5 hlen hl
      go_wp2
      go_loopw [90] (fun i wr => ∃ k : Nat, k ≤ 14 ∧ i = .int .i64 k ∧ Nw w6 wr) (fun i _ => 14 - (intOf i).toNat)
      case atStart => exact ⟨0, by omega, rfl, Nw.refl _⟩
      case round =>
        obtain ⟨j, hj, rfl, hn⟩ := hrel
        have HN := Lib.hid hn
        clear hn
        by_cases h2 : j < 14
        case neg =>
          have N7 := Lib.hid (N6.out.trans HN.out)
          clear RW N6 HN
          have hp8 : Pcs (wr.alloc (.cells (pcV ⟨[100, 55], 0, 7, true⟩ ++ pcV ⟨[115, 55], 7, 1099511627776, false⟩ ++ pcV ⟨[115, 45, 120], 1099511627783, 0, false⟩).toArray 32 (0, 0))) (.slice (some ⟨wr.heap.size, 0, none⟩) 3 3) goodL :=
            ⟨src_lit wr 32 (0, 0) 4 3 3 (pcV ⟨[100, 55], 0, 7, true⟩ ++ pcV ⟨[115, 55], 7, 1099511627776, false⟩ ++ pcV ⟨[115, 45, 120], 1099511627783, 0, false⟩) rfl (by omega) (by decide), fun q hq => by
              simp only [goodL, List.mem_cons, List.mem_nil_iff, or_false] at hq
              rcases hq with rfl | rfl | rfl
              all_goals exact pc_ok (by decide) (by decide)⟩
          have nn8 : Nw wr (wr.alloc (.cells (pcV ⟨[100, 55], 0, 7, true⟩ ++ pcV ⟨[115, 55], 7, 1099511627776, false⟩ ++ pcV ⟨[115, 45, 120], 1099511627783, 0, false⟩).toArray 32 (0, 0))) := (Nw.refl _).alloc _
          have MK := Lib.hid (Manifest_ok hp8 good_right)
          have P8 := Lib.hid hp8
          have N8 := Lib.hid (N7.out.trans nn8)
          clear hp8 nn8 N7
          go_wp2_with fail
          refine MK.out.mono ?_
          rintro e w9 ⟨v9, rfl, b9, n9, -⟩
          have hbl := manifestB_len good_right
          have hne : 0 < (manifestB goodL).length := List.length_pos_iff.2 (manifestB_ne _)
          have B9 : Bs w9 v9 (manifestB goodL) := Vec.rd (f := Go.Proofs.YtjapijndljknnaaGreatDoor.u8) b9
          have LI := Listed_ok B9 (by omega) good_listed
          have hcut : listedB ((manifestB goodL).take ((manifestB goodL).length - 1)) = _ := pair_eq good_cut
          obtain ⟨ma, mc, rfl, -⟩ := b9.len
          obtain ⟨nm, hnm⟩ : ∃ x, (manifestB goodL).length = x := ⟨_, rfl⟩
          rw [hnm] at hbl hne hcut LI
          obtain ⟨mm, hmm⟩ : ∃ x, nm - 1 = x := ⟨_, rfl⟩
          rw [hmm] at hcut
          have B9' : Bs w9 (.slice ma nm mc) (manifestB goodL) := by rw [← hnm]; exact B9
          obtain ⟨ca, cc, hcb, hcl, -, hsl⟩ := bs_h B9' mm (by omega)
          have LC := Listed_ok hcb (by rw [hcl]; omega) hcut
          have hw9 : IntKind.i64.wrap ((nm : Int) - 1) = (mm : Int) := by rw [show (nm : Int) - 1 = (mm : Int) by omega]; exact IntWalk.i64_in _ (by omega)
          have hz9 : ((nm : Int) == 0) = false := by simp; omega
          have hz8 : ¬ nm = 0 := by omega
          have LI := Lib.hid LI
          have CB := Lib.hid hcb
          have CL := Lib.hid hcl
          have HC := Lib.hid hcut
          have hmn : mm ≤ nm := by omega
          have N9 := Lib.hid (N8.out.trans n9)
          have P9 := Lib.hid (P8.out.nw n9)
          rw [hnm]
          clear b9 n9 B9 B9' hcb hcl hcut LC hnm hmm N8 P8 MK hne
          go_wp2_with fail
          refine LI.out.mono ?_
          rintro e w10 ⟨v10, rfl, o10⟩
          obtain ⟨xa, xc, rfl, -⟩ := o10.1.len
          have Q10 : Hid (Pcs w10 (.slice xa goodL.length xc) goodL) := Lib.hid o10.pcs
          have N10 := Lib.hid (N9.out.trans o10.2.2.1)
          have P10 := Lib.hid (P9.out.nw o10.2.2.1)
          have LC := Lib.hid (Listed_ok (CB.out.nw o10.2.2.1) (by rw [CL.out]; omega) HC.out)
          clear o10 LI N9 P9
          go_wp2_with fail
          refine LC.out.mono ?_
          rintro e w11 ⟨v11, rfl, o11⟩
          obtain ⟨ya, yc, rfl, -⟩ := o11.1.len
          have N11 := Lib.hid (N10.out.trans o11.2.2.1)
          have P11 := Lib.hid (P10.out.nw o11.2.2.1)
          have Q11 := Lib.hid (Q10.out.nw o11.2.2.1)
          clear o11 LC N10 P10 Q10 hsl hw9
          have R12 : Bs (w11.alloc (.cells #[.int .u8 1, .int .u8 2] 5)) (.slice (some ⟨w11.heap.size, 0, none⟩) 2 2) [1, 2] := rd_lit (f := Go.Proofs.YtjapijndljknnaaGreatDoor.u8) w11 5 (0, 0) [1, 2] _ 2 rfl (by decide) (by decide)
          have nn := (Nw.refl w11).alloc (.cells #[.int .u8 1, .int .u8 2] 5)
          have C12 := Lib.hid (Listed_ok R12 (by decide) (pair_eq two_cut))
          have N12 := Lib.hid (N11.out.trans nn)
          have P12 := Lib.hid (P11.out.nw nn)
          have Q12 := Lib.hid (Q11.out.nw nn)
          clear R12 nn N11 P11 Q11
          go_wp2_with fail
          refine C12.out.mono ?_
          rintro e w13 ⟨v13, rfl, o13⟩
          obtain ⟨za, zc, rfl, -⟩ := o13.1.len
          have N13 := Lib.hid (N12.out.trans o13.2.2.1)
          have P13 := Lib.hid (P12.out.nw o13.2.2.1)
          have SP := Lib.hid (SamePieces_ok (Q12.out.nw o13.2.2.1) (P12.out.nw o13.2.2.1))
          clear o13 C12 N12 P12 Q12 CB CL HC
          go_wp2_with fail
          refine SP.out.mono ?_
          rintro e w14 ⟨rfl, n14⟩
          have N14 := Lib.hid (N13.out.trans n14)
          have P14 := Lib.hid (P13.out.nw n14)
          clear n14 SP N13 P13
          go_wp2_with fail
          refine (HasX.new 1048576 w14 (by omega) (by omega)).mono ?_
          rintro e w15 ⟨b, rfl, H15⟩
          have H15 := Lib.hid H15
          have HT14 := Lib.hid (HT.out.nw N14.out)
          have C15 := Create_ok H15.out HT14.out 63
          rw [show createD (newDsk 1048576) 63 = (newDsk 1048576, 2) from rfl] at C15
          have C15 := Lib.hid C15
          go_wp2_with fail
          refine C15.out.mono ?_
          rintro e w16 ⟨-, ⟨hx, -⟩ | ⟨-, rfl, H16⟩⟩
          case inl => exact absurd hx (by decide)
          have H16 := Lib.hid H16
          clear C15 H15
          have C16 := Create_ok H16.out HT14.out 16777217
          rw [show createD (newDsk 1048576) 16777217 = (newDsk 1048576, 2) from rfl] at C16
          have C16 := Lib.hid C16
          go_wp2_with fail
          refine C16.out.mono ?_
          rintro e w17 ⟨-, ⟨hx, -⟩ | ⟨-, rfl, H17⟩⟩
          case inl => exact absurd hx (by decide)
          have H17 := Lib.hid H17
          clear C16 H16
          go_wp2_with fail
          refine (Create_nil w17).mono ?_
          rintro e w18 ⟨rfl, n18⟩
          have H18 := Lib.hid (H17.out.nw n18)
          clear n18 H17
          have kc := fun (w : World) (C : Array Value) (n c : Nat) => Go.Lib.run_convert_bytes_const (P := Tryz.prog) w 35 5 C n c Tryz.underlying35 Tryz.underlying5
          have R19 : Bs (w18.alloc (.cells #[.int .u8 114, .int .u8 117, .int .u8 98, .int .u8 98, .int .u8 105, .int .u8 115, .int .u8 104] 5 (7, 8))) (.slice (some ⟨w18.heap.size, 0, none⟩) 7 7) rubB := rd_lit (f := Go.Proofs.YtjapijndljknnaaGreatDoor.u8) w18 5 (7, 8) rubB _ 7 rfl (by decide) (by decide)
          have C19 := Lib.hid ((H18.out.alloc (.cells #[.int .u8 114, .int .u8 117, .int .u8 98, .int .u8 98, .int .u8 105, .int .u8 115, .int .u8 104] 5 (7, 8))).append [115, 48] rubB _ R19 (fun _ g hg => .inl (.inr (by cases hg; rfl))) (by decide) (by decide) sn_1)
          clear R19
          go_wp2_with fail
          refine C19.out.mono ?_
          rintro e h20 ⟨rfl, hh, -⟩
          have H20 := Lib.hid hh
          clear hh C19 H18
          have R21 : Bs (h20.alloc (.cells #[.int .u8 114, .int .u8 117, .int .u8 98, .int .u8 98, .int .u8 105, .int .u8 115, .int .u8 104] 5 (7, 8))) (.slice (some ⟨h20.heap.size, 0, none⟩) 7 7) rubB := rd_lit (f := Go.Proofs.YtjapijndljknnaaGreatDoor.u8) h20 5 (7, 8) rubB _ 7 rfl (by decide) (by decide)
          have C21 := Lib.hid ((H20.out.alloc (.cells #[.int .u8 114, .int .u8 117, .int .u8 98, .int .u8 98, .int .u8 105, .int .u8 115, .int .u8 104] 5 (7, 8))).append nextS rubB _ R21 (fun _ g hg => .inl (.inr (by cases hg; rfl))) (by decide) (by decide) sn_2)
          clear R21
          go_wp2_with fail
          refine C21.out.mono ?_
          rintro e h22 ⟨rfl, hh, -⟩
          have H22 := Lib.hid hh
          clear hh C21 H20
          clear kc
          have C23 := Create_ok H22.out HT14.out 64
          rw [sn_3] at C23
          have C23 := Lib.hid C23
          go_wp2_with fail
          refine C23.out.mono ?_
          rintro e w24 ⟨-, ⟨-, p, rfl, L24⟩ | ⟨hx, -⟩⟩
          case inr => exact absurd rfl hx
          have L24 := Lib.hid (L24.less (Y := fun _ => False) fun k hk => hk.elim)
          clear C23 H22
          have C25 : Calls Tryz.prog 26 #[.pointer (some ⟨b, 0, none⟩), .int .i64 64] w24 (DidL (fun _ => False) w14 w24 p b sn3 (newLg 64) (.tuple #[.pointer none, .int .i64 14])) := L24.out.step fun Y hY hx => by
            have C := Create_ok hx HT14.out 64
            rw [sn_again] at C
            refine C.mono ?_
            rintro e w' ⟨k, ⟨h, -⟩ | ⟨-, h1, h2⟩⟩
            · exact absurd h (by decide)
            · exact ⟨h1, h2, k⟩
          have C25 := Lib.hid C25
          go_wp2_with fail
          refine C25.out.mono ?_
          rintro e w26 ⟨rfl, hl, -⟩
          have L26 := Lib.hid hl
          clear hl C25 L24
          go_wp2_with fail
          refine (L26.out.has.list sn_list).mono ?_
          rintro e w27 ⟨v27, rfl, s27, n27, -⟩
          obtain ⟨la, lc, rfl, -⟩ := s27.len
          have nn := (Nw.refl w27).alloc (.cells #[.string ⟨#[109, 97, 110, 105, 102, 101, 115, 116]⟩, .string ⟨#[115, 48]⟩] 9 (0, 0))
          have s28 : Ss (w27.alloc (.cells #[.string ⟨#[109, 97, 110, 105, 102, 101, 115, 116]⟩, .string ⟨#[115, 48]⟩] 9 (0, 0))) (.slice (some ⟨w27.heap.size, 0, none⟩) 2 2) [manifestS, [115, 48]] := rd_lit (f := encStr) w27 9 (0, 0) [manifestS, [115, 48]] _ 2 rfl (by decide) (by decide)
          have ST := SameTexts_ok (s27.nw nn) s28
          rw [show ((([manifestS, [115, 48]] : List Str) == [manifestS, [115, 48]]) : Bool) = true by decide] at ST
          have ST := Lib.hid ST
          have L28 := Lib.hid ((L26.out.nw n27).nw nn)
          clear n27 s27 nn s28 L26
          go_wp2_with fail
          refine ST.out.mono ?_
          rintro e w29 ⟨rfl, n29⟩
          have L29 := Lib.hid (L28.out.nw n29)
          clear n29 ST L28
          go_wp2_with fail
          refine (L29.out.has.size [115, 48] sn_size).mono ?_
          rintro e w30 ⟨rfl, n30⟩
          have L30 := Lib.hid (L29.out.nw n30)
          clear n30 L29
          go_wp2_with fail
          refine (LDisk_ok L30.out).mono ?_
          rintro e w31 ⟨rfl, rfl⟩
          have heq := eql_disk b
          obtain ⟨arr, MK⟩ := makeA 4097 (by omega)
          have MK := Lib.hid MK
          have CA := Lib.hid (fun W (n : Nw w30 W) => LAppend_bad (L30.out.nw n) rfl (v := .slice none 0 0) (es := []) ⟨(Vec.nil (k := 5) (w := W)).src, fun e he => by cases he⟩ 2 (.inl ⟨rfl, rfl⟩))
          have CB := Lib.hid (fun W (n : Nw w30 W) a c (hv : Evs W (.slice a 4097 c) (zs 4097)) => LAppend_bad (L30.out.nw n) rfl hv 3 (.inr ⟨by rw [zs_len]; omega, rfl⟩))
          go_upto_region 35 with fail
          clear heq
          refine r35 CA CB MK ?_
          intro s31 s32 s250 s251 s252 s253 s254 w32 n32 h31 h32
          subst h31 h32
          have L32 := Lib.hid (L30.out.nw n32)
          have P32 := Lib.hid (P14.out.nw L32.out.base)
          clear n32 CA CB MK L30 P14
          go_wp2_with fail
          refine (L32.out.over (x := false) rfl).mono ?_
          rintro e w33 ⟨rfl, rfl⟩
          have C33 := Swap_ok L32.out P32.out (by decide)
          rw [sn_good] at C33
          have C33 := Lib.hid C33
          go_wp2_with fail
          refine C33.out.mono ?_
          rintro e w34 ⟨rfl, hl, -⟩
          have C34 := Swap_ok hl (v := .slice none 0 0) (ps := []) pcs_nil (by decide)
          rw [sn_swap] at C34
          have C34 := Lib.hid C34
          clear hl C33 L32 P32
          go_wp2_with fail
          refine C34.out.mono ?_
          rintro e w35 ⟨rfl, hl, -⟩
          have L35 := Lib.hid hl
          clear hl C34
          go_wp2_with fail
          refine (L35.out.pieces sn_l (by decide)).mono ?_
          rintro e w36 ⟨v36, rfl, q1, q2, -⟩
          obtain ⟨qa, qc, rfl, -⟩ := q1.len
          have L36 := Lib.hid (L35.out.nw q2)
          clear q1 q2 L35
          go_wp2_with fail
          refine (Resume_sz w36 b 63 0 (by omega)).mono ?_
          rintro e w37 ⟨rfl, n37⟩
          have L37 := Lib.hid (L36.out.nw n37)
          clear n37 L36
          go_wp2_with fail
          refine (Resume_pc w37 b (v := .slice none 0 0) (l := []) pcs_nil rfl 0).mono ?_
          rintro e w38 ⟨rfl, n38⟩
          have L38 := Lib.hid (L37.out.nw n38)
          clear n38 L37
          go_wp2_with fail
          refine (L38.out.pieces sn_l (by decide)).mono ?_
          rintro e w39 ⟨v39, rfl, q1, q2, -⟩
          have P39 := Lib.hid (q1.pcs (by rw [← sn_l]; exact L38.out.pok))
          obtain ⟨ra, rc, rfl, -⟩ := q1.len
          have L39 := Lib.hid (L38.out.nw q2)
          clear q1 q2 L38
          go_wp2_with fail
          refine (Resume_neg w39 b P39.out sn_right (-1) (by decide)).mono ?_
          rintro e w40 ⟨rfl, n40⟩
          have L40 := Lib.hid (L39.out.nw n40)
          clear n40 L39 P39
          have nn := (Nw.refl w40).alloc (.cells (pcV ⟨[115, 57], 0, 0, false⟩).toArray 32 (0, 0))
          have C41 := Resume_ok (L40.out.wider (Z := fun j => j = w40.heap.size) nn fun j hj => .inr (by subst hj; exact ⟨Nat.le_refl _, by simp⟩)).has (pc_lit w40 ⟨[115, 57], 0, 0, false⟩ (pc_ok (by decide) (by decide))) (fun g hg => by cases hg; rfl) (size := 64) (by omega) nine_right (n := 0) (by omega)
          rw [show ((0 : Nat) : Int) = 0 from rfl, sn_resume] at C41
          have C41 := Lib.hid C41
          clear nn
          go_wp2_with fail
          refine C41.out.mono ?_
          rintro e w42 ⟨-, ⟨hx, -⟩ | ⟨-, rfl, h42⟩⟩
          case inl => exact absurd hx (by decide)
          have N42 := Lib.hid (N14.out.trans h42.base)
          clear h42 C41 L40
          have MY := Lib.hid (many_ok w42 (HT.out.nw N42.out))
          go_wp2_with fail
          refine MY.out.mono ?_
          rintro e w43 ⟨rfl, n43⟩
          have N43 := Lib.hid (N42.out.trans n43)
          clear n43 MY
          have AW := Lib.hid (awake_ok w43 (HT.out.nw N43.out))
          go_wp2_with fail
          refine AW.out.mono ?_
          rintro e w44 ⟨rfl, n44⟩
          have N44 := Lib.hid (N43.out.trans n44)
          clear n44 AW
          go_wp2
          go_ret
          exact ⟨rfl, N44.out⟩
        have r2 := RW.out.nw HN.out
        obtain ⟨a, m, c, l, hc, hp, hr⟩ := r2.2 j h2
        have hg := r2.1
        have HP := Lib.hid hp
        have HR := Lib.hid hr
        clear hp hr r2
        go_wp2_with fail
        refine (Manifest_no HP.out HR.out).mono ?_
        rintro e w7 ⟨rfl, n7⟩
        have P7 := Lib.hid (HP.out.nw n7)
        have N7 := Lib.hid (HN.out.trans n7)
        clear n7 HP HN hc hg
        go_wp2_with fail
        refine (HasX.new 10000 w7 (by omega) (by omega)).mono ?_
        rintro e w8 ⟨b, rfl, H8⟩
        have P8 := Lib.hid (P7.out.nw H8.base)
        have H8 := Lib.hid H8
        have RT := Right_ok P8.out
        rw [HR.out] at RT
        have RT := Lib.hid RT
        clear P7
        go_wp2_with fail
        refine RT.out.mono ?_
        rintro e w9 ⟨rfl, n9⟩
        have IN := Install_ok (H8.out.nw n9) (P8.out.nw n9)
        have hin : (newDsk 10000).install l = (newDsk 10000, 14) := by unfold Dsk.install; rw [HR.out]; rfl
        rw [hin] at IN
        have IN := Lib.hid IN
        clear n9 hin P8 RT H8
        go_wp2_with fail
        refine IN.out.mono ?_
        rintro e w10 ⟨rfl, h10, -⟩
        have H10 := Lib.hid h10
        clear h10 IN
        go_wp2_with fail
        refine (H10.out.list (l := []) (by rw [list_eq]; decide +kernel)).mono ?_
        rintro e w11 ⟨v11, rfl, s11, n11, -⟩
        obtain ⟨xa, xc, rfl, -⟩ := s11.len
        have N11 := Lib.hid ((N7.out.trans H10.out.base).trans n11)
        clear s11 n11 H10 N7 HR
        rw [List.length_nil]
        go_wp2_with fail
        go_roundw
        case rel => exact ⟨j + 1, by omega, by go_num, N11.out⟩
        case measure => simp [intOf]; omega
    go_wp2_with fail
    refine (Dec_some wr k (by omega)).mono ?_
    rintro e w2 ⟨s, hs, rfl, rfl⟩
    have hcat : (⟨#[112]⟩ ++ ⟨s.toArray⟩ : ByteArray) = ⟨(112 :: s).toArray⟩ := ByteArray.mk_append_mk [112] s
    obtain ⟨x0, y0, z0⟩ := own_cell HV.out (k * 4) (by omega)
    obtain ⟨x1, y1, z1⟩ := own_cell HV.out (k * 4 + 1) (by omega)
    obtain ⟨x2, y2, z2⟩ := own_cell HV.out (k * 4 + 2) (by omega)
    obtain ⟨x3, y3, z3⟩ := own_cell HV.out (k * 4 + 3) (by omega)
    go_wp2
    clear y0 y1 y2 y3 z0 z1 z2 z3
    have V4 := (((HV.out.setAt (j := k * 4) (by rw [flatPc_len, HPS.out]; omega) (.string ⟨(112 :: s).toArray⟩)).setAt (j := k * 4 + 1) (by rw [List.length_set, flatPc_len, HPS.out]; omega) (.int .i64 k)).setAt (j := k * 4 + 2) (by rw [List.length_set, List.length_set, flatPc_len, HPS.out]; omega) (.int .i64 1)).setAt (j := k * 4 + 3) (by rw [List.length_set, List.length_set, List.length_set, flatPc_len, HPS.out]; omega) (.bool false)
    rw [flat_set ps k (by rw [HPS.out]; exact h1) ⟨112 :: s, k, 1, false⟩] at V4
    go_roundw
    case rel =>
      refine ⟨k + 1, ps.set k ⟨112 :: s, k, 1, false⟩, by omega, by go_num, by rw [List.length_set]; exact HPS.out, fun q hq => ?_, ?_, ?_⟩
      · rcases List.mem_or_eq_of_mem_set hq with h | rfl
        · exact HOK.out q h
        · exact pc_ok (by simp only [List.length_cons]; omega) (by simp only; omega)
      · simp only [Nat.zero_add] at V4
        exact V4
      · have hl := HLG.out
        exact Only.setCell (Only.setCell (Only.setCell (Only.setCell HN.out (fun h => absurd h (by simp only; omega)) _) (fun h => absurd h (by simp only; omega)) _) (fun h => absurd h (by simp only; omega)) _) (fun h => absurd h (by simp only; omega)) _
    case measure => simp [intOf]; omega
end Go.Proofs.YtjapijndljknnaaGreatDoor.SeglogNumbers
