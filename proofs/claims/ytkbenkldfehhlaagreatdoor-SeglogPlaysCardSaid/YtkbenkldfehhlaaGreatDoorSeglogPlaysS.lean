/-
  Texts merged by a program of this claim's: SeglogPlays.
-/
import Derived.Test.YtkbenkldfehhlaaGreatDoorM30
import Derived.Test.YtkbenkldfehhlaaGreatDoorM31
import Derived.Test.YtkbenkldfehhlaaGreatDoorM18
import Derived.Test.YtkbenkldfehhlaaGreatDoorM5
import Derived.Deep.DeepCutAuto
import Derived.Deep.CutBlock
namespace Go.Proofs.YtkbenkldfehhlaaGreatDoor.SeglogPlays
open Go Go.RowKit Go.Sort
set_option maxRecDepth 100000
set_option maxHeartbeats 3200000
theorem walk (w : World) (ht : Tab w) (v1 : Value) (most size : Int) (ops : List LOp) (hm01 : -9223372036854775808 ≤ most ∧ most ≤ 9223372036854775807) (_hs01 : -9223372036854775808 ≤ size ∧ size ≤ 9223372036854775807) (h1 : RdK 5 (isLOp w) w v1 ops) :
    Calls Tryz.prog 4 #[.int .i64 most, .int .i64 size, v1] w fun e w' => e = .returned (.bool true) ∧ Nw w w' := by
  obtain ⟨hm0, hm1⟩ := hm01
  obtain ⟨sa, cap, rfl, hc1, hc2, hel⟩ := h1.len
  have HE := Lib.hid hel
  clear h1 hel
  unfold maxLen at hc2
  have HT := Lib.hid ht
  have AW := Lib.hid (fun W (hW : Nw w W) => awake_ok W (ht.nw hW))
  clear ht
  go_enter Tryz.func4, Tryz.ntmps4
  go_upto_if 28 with fail
  go_cut [0] (fun s w' => ∃ m : Int, m ≤ 1048576 ∧ s = .int .i64 m ∧ w' = w)
  case first =>
    by_cases hb : 1048576 < most
    · have e : most.tmod 5000 = most % 5000 := Int.tmod_eq_emod_of_nonneg (by omega)
      go_wp2
      go_meet
      case rel => exact ⟨most % 5000, by omega, by simp [e], rfl⟩
    · go_wp2
      go_meet
      case rel => exact ⟨most, by omega, rfl, rfl⟩
  case rest =>
    obtain ⟨m, hm, rfl, rfl⟩ := hcut
    by_cases hneg : m < 0
    · go_wp2_with fail
      refine (New_no m _ (.inl hneg)).mono ?_
      rintro e w1 ⟨rfl, rfl⟩
      go_wp2_with fail
      refine (rNew_no _ m (.inl hneg)).mono ?_
      rintro e w2 ⟨rfl, n2⟩
      have N2 := Lib.hid n2
      clear n2 hneg
      go_wp2_with fail
      refine (AW.out _ (N2.out.alloc _)).mono ?_
      rintro e w3 ⟨rfl, n3⟩
      have N3 := Lib.hid n3
      clear n3
      go_wp2
      go_ret
      exact ⟨rfl, ((N2.out.alloc _).trans N3.out)⟩
    · have hge : 0 ≤ m := by omega
      clear hneg
      go_wp2_with fail
      refine (HasX.new m _ hge (by omega)).mono ?_
      rintro e w1 ⟨b, rfl, H1⟩
      have H1 := Lib.hid H1
      go_wp2_with fail
      refine (rNew_ok _ m hge (by omega)).mono ?_
      rintro e w2 ⟨rfl, n2⟩
      have N2 := Lib.hid n2
      clear n2
      have hD : Tw (fun k => False ∨ k < wc.heap.size) wc w2 b (newDsk m) (.agg #[.int .i64 m, .slice none 0 0, .int .i64 (-1), .bool false]) (newDsk m) := Tw.new H1.out.old (rd_new m hge (by omega) w2 _) N2.out
      have NB := (Nw.refl w2).alloc (DB (.int .i64 m) (.slice none 0 0) (.int .i64 (-1)) (.bool false))
      have B6 := Lib.hid (heap_alloc_new w2 (DB (.int .i64 m) (.slice none 0 0) (.int .i64 (-1)) (.bool false)))
      have T0 := Lib.hid (hD.nwY (Z := fun k => k = w2.heap.size) NB (fun k hk => .inr (by subst hk; simp)))
      have HPW : Hid (wc.heap.size ≤ w2.heap.size) := Lib.hid hD.base.size
      clear hD NB H1 N2 hm0 hm1
      go_upto_region 5 with fail
      rw [show (Obj.cells #[.int .i64 m, .slice none 0 0, .int .i64 (-1), .bool false] 28) = DB (.int .i64 m) (.slice none 0 0) (.int .i64 (-1)) (.bool false) from rfl]
      generalize w2.alloc (DB (.int .i64 m) (.slice none 0 0) (.int .i64 (-1)) (.bool false)) = w3 at B6 T0 ⊢
      generalize w2.heap.size = pw at B6 T0 HPW ⊢
      obtain ⟨⟨d1, x⟩, hcr⟩ : ∃ r, createD (newDsk m) size = r := ⟨_, rfl⟩
      have HCR := Lib.hid hcr
      clear hcr
      have CR := Lib.hid (T0.out.created (dp' := d1) (L' := newLg size) (x := x) fun Z _ hX => (by have h9 := Create_ok hX HT.out size; rw [HCR.out] at h9; exact h9))
      go_wp2_with fail
      refine CR.out.mono ?_
      rintro e w4 ⟨hk4, h4⟩
      have B6 := Lib.hid (hk4.at_ B6.out rfl)
      clear CR T0 hk4
      by_cases hx : x = 0
      case neg =>
        obtain ⟨-, rfl, t4⟩ := h4.resolve_left (fun h => hx h.1)
        have T4 := Lib.hid t4
        have HX := Lib.hid hx
        have y1 : (x != x) = false := by simp
        have y2 : (x != 0) = true := by simpa using hx
        obtain ⟨L1, hL1⟩ : ∃ y : Lg, noLg = y := ⟨_, rfl⟩
        have CD := T4.out.rdm (dd' := d1) (L' := L1) (x := x) fun Z hZ hR => (by have h9 := dCreate_ok hR hZ size; rw [HCR.out] at h9; simp only [if_neg HX.out] at h9; rw [hL1] at h9; exact h9)
        have CD := Lib.hid CD
        clear h4 t4 hx hL1
        obtain ⟨b0, b1, b2, b3, k0, k1, k2, k3⟩ := box_cells B6.out
        go_upto_region 8 with fail
        go_wp2_with fail
        refine CD.out.mono ?_
        rintro e w5 ⟨m2, a2, n2, c2, la2, dn2, pa2, pc2, rfl, t5, n5⟩
        have T5 := Lib.hid t5
        have B5 := Lib.hid (n5.at_ B6.out)
        clear t5 n5 CD b0 b1 b2 b3 k0 k1 k2 k3
        have CH := Lib.hid (chain10 B5.out m2 a2 n2 c2 la2 dn2 L1 pa2 pc2)
        obtain ⟨b0, b1, b2, b3, k0, k1, k2, k3⟩ := box_cells B5.out
        have z1 : ¬ pw = w5.heap.size := fun e => by have := lt_of_block B5.out; omega
        have z2 : ¬ w5.heap.size = pw := fun e => z1 e.symm
        have z3 := lt_of_block B5.out
        unfold dvV lvV
        go_upto_region 9 with fail
        clear z1 z2 z3 b0 b1 b2 b3 k0 k1 k2 k3
        rw [show (Obj.cells #[.int .i64 L1.size, .slice pa2 L1.l.length pc2, .int .i64 L1.n, .int .i64 L1.acked, .int .i64 L1.bytes, .bool L1.over] 49) = logB L1 pa2 pc2 from rfl]
        generalize ((((w5.setCell ⟨pw, 0, none⟩ (.int .i64 m2)).setCell ⟨pw, 1, none⟩ (.slice a2 n2 c2)).setCell ⟨pw, 2, none⟩ (.int .i64 la2)).setCell ⟨pw, 3, none⟩ (.bool dn2)).alloc (logB L1 pa2 pc2) = w6 at CH ⊢
        obtain ⟨o6, b6, -, -⟩ := CH.out
        have T6 := Lib.hid (T5.out.put (Z := fun k => k = pw) o6 (fun k hk _ => ⟨hk, by rw [hk]; exact HPW.out⟩) (fun k hk => .inl hk))
        have B6' := Lib.hid b6
        clear o6 b6
        obtain ⟨b0, b1, b2, b3, -⟩ := box_cells B6'.out
        go_wp2_with fail
        refine (T6.out.same).mono ?_
        rintro e w7 ⟨rfl, n7⟩
        have N7 := Lib.hid (T6.out.base.trans n7)
        clear n7 b0 b1 b2 b3
        go_wp2_with fail
        refine (AW.out _ N7.out).mono ?_
        rintro e w8 ⟨rfl, n8⟩
        have N8 := Lib.hid n8
        clear n8
        go_wp2
        go_ret
        exact ⟨rfl, N7.out.trans N8.out⟩
      case pos =>
        subst hx
        obtain ⟨-, p, X4, rfl, t4⟩ := h4.resolve_right (fun h => h.1 rfl)
        have T4 := Lib.hid t4
        obtain ⟨L1, hL1⟩ : ∃ y : Lg, newLg size = y := ⟨_, rfl⟩
        have HL1 := Lib.hid hL1
        rw [hL1] at T4
        have hne : L1.l ≠ [] := by rw [← hL1]; simp [newLg]
        have CD := T4.out.rdm (dd' := d1) (L' := L1) (x := 0) hne fun Z hZ hR => (by have h9 := dCreate_ok hR hZ size; rw [HCR.out] at h9; simp only [if_true] at h9; rw [hL1] at h9; exact h9)
        have CD := Lib.hid CD
        have HSZ : Hid (64 ≤ size ∧ size ≤ 16777216) := Lib.hid (by
          have h9 := HCR.out
          unfold createD at h9
          split at h9
          · simp at h9
          · omega)
        clear h4 t4 hL1 hne
        obtain ⟨b0, b1, b2, b3, k0, k1, k2, k3⟩ := box_cells B6.out
        go_upto_region 8 with fail
        go_wp2_with fail
        refine CD.out.mono ?_
        rintro e w5 ⟨m2, a2, n2, c2, la2, dn2, pa2, pc2, rfl, t5, n5⟩
        have T5 := Lib.hid t5
        have B5 := Lib.hid (n5.at_ B6.out)
        clear t5 n5 CD b0 b1 b2 b3 k0 k1 k2 k3
        have CH := Lib.hid (chain10 B5.out m2 a2 n2 c2 la2 dn2 L1 pa2 pc2)
        obtain ⟨b0, b1, b2, b3, k0, k1, k2, k3⟩ := box_cells B5.out
        have z1 : ¬ pw = w5.heap.size := fun e => by have := lt_of_block B5.out; omega
        have z2 : ¬ w5.heap.size = pw := fun e => z1 e.symm
        have z3 := lt_of_block B5.out
        unfold dvV lvV
        go_upto_region 9 with fail
        clear z1 z2 z3 b0 b1 b2 b3 k0 k1 k2 k3
        rw [show (Obj.cells #[.int .i64 L1.size, .slice pa2 L1.l.length pc2, .int .i64 L1.n, .int .i64 L1.acked, .int .i64 L1.bytes, .bool L1.over] 49) = logB L1 pa2 pc2 from rfl]
        generalize ((((w5.setCell ⟨pw, 0, none⟩ (.int .i64 m2)).setCell ⟨pw, 1, none⟩ (.slice a2 n2 c2)).setCell ⟨pw, 2, none⟩ (.int .i64 la2)).setCell ⟨pw, 3, none⟩ (.bool dn2)).alloc (logB L1 pa2 pc2) = w6 at CH ⊢
        obtain ⟨o6, b6, v6, sz6⟩ := CH.out
        have P6 := Lib.hid (PLs.of T5.out HPW.out o6 b6 v6 sz6)
        clear o6 b6 v6 sz6
        generalize w5.heap.size = pv at P6 ⊢
        have SD : Hid (Calls Tryz.prog 12 #[.pointer (some ⟨b, 0, none⟩), .agg #[.int .i64 m2, .slice a2 n2 c2, .int .i64 la2, .bool dn2]] w6 fun e w' => e = .returned (.bool true) ∧ Nw w6 w') := Lib.hid (by
          obtain ⟨X, hx⟩ := P6.out.ex
          obtain ⟨S, hS, -⟩ := hx.log.has
          obtain ⟨-, r, hr, ho⟩ := hx.doc
          exact SameDisk_ok hS hr ho)
        obtain ⟨b0, b1, b2, b3, -⟩ := box_cells P6.out.bw
        go_wp2_with fail
        refine SD.out.mono ?_
        rintro e w7 ⟨rfl, n7⟩
        have P7 := Lib.hid (P6.out.nw n7)
        clear n7 b0 b1 b2 b3 SD P6 T5 B5 B6 T4 CH
        have HPI0 : Hid (PI 0 size L1) := Lib.hid (by rw [← HL1.out]; exact PI.new)
        go_wp2
        go_loopw [11, 15] (fun q i wr => ∃ (k p : Nat) (d : Dsk) (L : Lg) (m : Int) (a : Option Addr) (n c : Nat) (la : Int) (dn : Bool) (pa : Option Addr) (pc : Nat), k ≤ ops.length ∧ k ≤ 50 ∧ q = .pointer (some ⟨p, 0, none⟩) ∧ i = .int .i64 k ∧ PLs wc wr b p pw pv d L m a n c la dn pa pc ∧ PI k size L) (fun _ i _ => ops.length - (intOf i).toNat)
        case atStart => exact ⟨0, p, _, _, _, _, _, _, _, _, _, _, by omega, by omega, rfl, rfl, P7.out, HPI0.out⟩
        case round =>
          obtain ⟨k, p1, d, L, m1, a1, n1, c1, la1, dn1, pa1, pc1, hk, hk5, rfl, rfl, hP, hI⟩ := hrel
          have HP := Lib.hid hP
          have HPI := Lib.hid hI
          clear hP hI P7 HPI0
          by_cases hlt : k < ops.length
          case neg =>
            have q1 : decide ((k : Int) < (ops.length : Int)) = false := by simp; omega
            go_wp2_with fail
            refine (AW.out _ HP.out.base).mono ?_
            rintro e w8 ⟨rfl, n8⟩
            go_wp2
            go_ret
            exact ⟨rfl, HP.out.base.trans n8⟩
          have q1 : decide ((k : Int) < (ops.length : Int)) = true := by simp; omega
          by_cases hlt5 : k < 50
          case neg =>
            have q2 : decide ((k : Int) < 50) = false := by simp; omega
            go_wp2_with fail
            refine (AW.out _ HP.out.base).mono ?_
            rintro e w8 ⟨rfl, n8⟩
            go_wp2
            go_ret
            exact ⟨rfl, HP.out.base.trans n8⟩
          have q2 : decide ((k : Int) < 50) = true := by simp; omega
          obtain ⟨g, o, rfl, hg, cs, hcl, hcc, ve, vp, hop⟩ := HE.out k hlt
          have hwk : IntKind.i64.wrap ((k : Int) + 1) = ((k + 1 : Nat) : Int) := by rw [← Int.natCast_one, ← Int.natCast_add]; exact IntWalk.i64_in _ (by omega)
          generalize ops[k] = x at hop
          have hop' := hop
          obtain rfl := hop.cells
          have c0 := HP.out.base.cell (hcc 0 (by simp))
          have c1_ := HP.out.base.cell (hcc 1 (by simp))
          have c2_ := HP.out.base.cell (hcc 2 (by simp))
          have c3 := HP.out.base.cell (hcc 3 (by simp))
          have c4 := HP.out.base.cell (hcc 4 (by simp))
          simp only [Nat.add_zero, List.getElem_cons_zero, List.getElem_cons_succ] at c0 c1_ c2_ c3 c4
          obtain ⟨ea, ec, rfl, -⟩ := hop.es.elem
          obtain ⟨qa, qc, rfl, -⟩ := hop.ps.elem
          have HOP := Lib.hid hop
          have HN : Hid (Nw wr (wr.alloc (opB x (.slice ea x.es.length ec) (.slice qa x.ps.length qc)))) := Lib.hid ((Nw.refl wr).alloc _)
          have HM := Lib.hid (HP.out.op HOP.out HN.out (by simp) (heap_alloc_new wr _))
          have hgr := Nat.lt_of_lt_of_le hg HP.out.base.size
          clear hop hop' hcc hcl hg
          have hk0 : (0 : Int) ≤ (k : Int) := by omega
          go_upto_region 17 with fail
          (try rw [show (Obj.cells #[.int .i64 x.kind, .int .i64 x.n, .string ⟨x.name.toArray⟩, .slice ea x.es.length ec, .slice qa x.ps.length qc] 65) = opB x (.slice ea x.es.length ec) (.slice qa x.ps.length qc) from rfl])
          generalize wr.alloc (opB x (.slice ea x.es.length ec) (.slice qa x.ps.length qc)) = w8 at HM HN ⊢
          generalize wr.heap.size = po at HM ⊢
          clear c0 c1_ c2_ c3 c4 HN hgr
          obtain ⟨c0, c1_, c2_, c3, c4⟩ := HM.out.opc
          by_cases hs1 : x.es.length ≤ 100
          case neg =>
            have t1 : decide ((100 : Int) < (x.es.length : Int)) = true := by simp; omega
            go_wp2
            go_roundw
            case rel => exact ⟨k + 1, p1, _, _, _, _, _, _, _, _, _, _, by omega, by omega, rfl, by first | rfl | (simp; done) | rw [hwk], HM.out.pl, HPI.out.more⟩
            case measure => simp only [intOf]; omega
          have t1 : decide ((100 : Int) < (x.es.length : Int)) = false := by simp; omega
          have SP := Lib.hid (SmallPieces_le (HOP.out.ps.nw HM.out.base))
          have H1 := Lib.hid hs1
          clear hs1
          go_wp2_with fail
          refine SP.out.mono ?_
          rintro e w9 ⟨sx, rfl, rfl, hsx⟩
          cases sx with
          | false =>
            clear hsx
            go_wp2
            go_roundw
            case rel => exact ⟨k + 1, p1, _, _, _, _, _, _, _, _, _, _, by omega, by omega, rfl, by first | rfl | (simp; done) | rw [hwk], HM.out.pl, HPI.out.more⟩
            case measure => simp only [intOf]; omega
          | true =>
            have H2 := Lib.hid (hsx rfl)
            clear hsx
            by_cases hs3 : x.name.length ≤ 60
            case neg =>
              have t3 : decide ((60 : Int) < (x.name.length : Int)) = true := by simp; omega
              go_wp2
              go_roundw
              case rel => exact ⟨k + 1, p1, _, _, _, _, _, _, _, _, _, _, by omega, by omega, rfl, by first | rfl | (simp; done) | rw [hwk], HM.out.pl, HPI.out.more⟩
              case measure => simp only [intOf]; omega
            have t3 : decide ((60 : Int) < (x.name.length : Int)) = false := by simp; omega
            have H3 := Lib.hid hs3
            clear hs3
            obtain ⟨kk, hkk⟩ : ∃ y, x.kind = y := ⟨_, rfl⟩
            have HKK := Lib.hid hkk
            rw [hkk] at c0
            clear hkk
            go_upto_block 2 with fail
            refine b2 HM HT HPI (by omega) HSZ.out HKK H1.out H2.out H3.out (fun _ _ _ _ _ h => h) ?_
            intro s19 s20 s21 s22 s23 s24 s25 s26 s115 s116 s117 s118 s119 s120 s121 s122 s123 s124 s125 s126 s127 s128 s129 s130 s131 s132 s133 s134 s135 s136 s137 s138 s139 s140 s141 s142 s143 s144 s145 s146 s147 s148 s149 s150 s151 s152 s153 s154 s155 s156 s157 s158 s159 s160 s161 s162 s163 s164 s165 s166 s167 s168 s169 s170 s171 s172 s173 s174 s175 s176 s177 s178 s179 s180 s181 s182 s183 s184 s185 s186 s187 s188 s189 s190 s191 s192 s193 s194 s195 s196 s197 s198 s199 s200 s201 s202 s203 s204 s205 s206 s207 s208 s209 s210 s211 s212 s213 s214 s215 s216 s217 s218 s219 s220 s221 s222 s223 s224 s225 s226 s227 s228 s229 s230 s231 s232 s233 s234 s235 s236 s237 s238 s239 s240 s241 s242 s243 s244 s245 s246 s247 s248 s249 s250 s251 s252 s253 p2 d2 L2 xx m3 a3 n3 c3' la3 dn3 pa3 pc3 wx mx ix
            have MX := Lib.hid mx
            have IX := Lib.hid ix
            clear mx ix c0 c1_ c2_ c3 c4 t1 t3 SP
            go_upto_region 55 with fail
            refine p55 MX IX (fun _ _ _ _ _ h => h) ?_
            intro e254 e255 e256 e257 e258 e259 e260 e261 e262 e263 e264 e265 e266 e267 wy my
            have MY := Lib.hid my
            clear my
            go_wp2
            go_roundw
            case rel => exact ⟨k + 1, p2, _, _, _, _, _, _, _, _, _, _, by omega, by omega, rfl, by first | rfl | (simp; done) | rw [hwk], MY.out.pl, IX.out⟩
            case measure => simp only [intOf]; omega
end Go.Proofs.YtkbenkldfehhlaaGreatDoor.SeglogPlays
