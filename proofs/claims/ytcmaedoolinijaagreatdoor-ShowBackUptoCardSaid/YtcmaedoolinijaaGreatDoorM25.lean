/-
  Texts merged by a program of this claim's: CkC.
-/
import Derived.Test.YtcmaedoolinijaaGreatDoorM24
import Derived.Deep.DeepCutAuto
import Derived.Deep.QuietTactic
import Derived.BigQuiet
namespace Go.Proofs.YtcmaedoolinijaaGreatDoor
open Go Go.RowKit Go.Sort
set_option maxRecDepth 100000
set_option maxHeartbeats 3200000
mutual
theorem exprR_left (nl : Nat) : ∀ (e : Ex) (deep left : Int), (exprR nl e deep left).1 = true → 0 ≤ (exprR nl e deep left).2 ∧ (exprR nl e deep left).2 ≤ left
  | .mk k s n kids, deep, left, h => by
    rw [exprR] at h ⊢
    by_cases c : left - 1 < 0 ∨ deep > 20
    · rw [if_pos c] at h; cases h
    · rw [if_neg c] at h ⊢
      have hl : 0 ≤ left - 1 := by omega
      cases hk : (kidsR nl kids (deep + 1) (left - 1)).1 with
      | false => simp only [hk, Bool.false_eq_true, if_false] at h
      | true =>
        have := kidsR_left nl kids (deep + 1) (left - 1) hl hk
        simp only [hk, if_true]
        omega
theorem kidsR_left (nl : Nat) : ∀ (l : List Ex) (deep left : Int), 0 ≤ left → (kidsR nl l deep left).1 = true → 0 ≤ (kidsR nl l deep left).2 ∧ (kidsR nl l deep left).2 ≤ left
  | [], deep, left, hl, h => by
    rw [kidsR]
    exact ⟨hl, Int.le_refl _⟩
  | e :: l, deep, left, hl, h => by
    rw [kidsR] at h ⊢
    cases he : (exprR nl e deep left).1 with
    | false => simp only [he, Bool.false_eq_true, if_false] at h
    | true =>
      have h1 := exprR_left nl e deep left he
      simp only [he, if_true] at h ⊢
      have h2 := kidsR_left nl l deep _ h1.1 h
      omega
end
theorem kidsR_cons (nl : Nat) (e : Ex) (l : List Ex) (deep left : Int) : kidsR nl (e :: l) deep left = if (exprR nl e deep left).1 then kidsR nl l deep (exprR nl e deep left).2 else exprR nl e deep left := by rw [kidsR]
def RightOk (N : Nat) : Prop := ∀ (w : World) (g nl deep : Nat) (left : Int) (e : Ex) (cs : List Value), SizeOf.sizeOf e ≤ N → w.heap[g]? = some (.cells #[.int .i64 left, .int .i64 (nl : Int)] 201 (0, 0)) → 0 ≤ left → left ≤ 1000 → Mx w → ¬ 0 = g → ExM w e cs → deep ≤ 21 →
    Calls Tryz.prog 120 #[.pointer (some ⟨g, 0, none⟩), .agg cs.toArray, .int .i64 (deep : Int)] w fun z w' => z = .returned (.bool (exprR nl e deep left).1) ∧ w'.heap[g]? = some (.cells #[.int .i64 (exprR nl e deep left).2, .int .i64 (nl : Int)] 201 (0, 0)) ∧ Only (fun k => k = g) w w'
theorem thin_walk {w : World} {g : Nat} {a b : Value} {t : TypeId} (h : w.heap[g]? = some (.cells #[a, b] t (0, 0))) : Thin w fun k => k = g := fun b hb => by
  subst hb
  exact ⟨_, _, _, h, by simp⟩
theorem right_all (N : Nat) : RightOk N := by
  induction N with
  | zero => intro w g nl deep left e cs hN; exact absurd hN (by cases e; simp)
  | succ N ih =>
    intro w g nl deep left e cs hN hB hl0 hl1 hM hg hE hd
    obtain ⟨kd, s, nv, kids⟩ := e
    have hTH := thin_walk hB
    rw [ExM.mk_iff] at hE
    obtain ⟨v3, rfl, hkd, hsl, hnv, hkids⟩ := hE
    obtain ⟨a3, c3, rfl, hc3, hm3, -⟩ := RdK.len hkids
    have hm3' : c3 ≤ 9223372036854775807 := by unfold maxLen at hm3; omega
    obtain ⟨nk, hnk⟩ : ∃ n, kids.length = n := ⟨_, rfl⟩
    have NK := Lib.hid hnk
    obtain ⟨r, hr⟩ : ∃ r, exprR nl (.mk kd s nv kids) deep left = r := ⟨_, rfl⟩
    have HR := Lib.hid hr
    have KW : Hid (∀ W, Only (fun k => k = g) w W → ExsM W (.slice a3 kids.length c3) kids) := Lib.hid fun W hW => ExsM.off hTH hW hkids
    have TW : Hid (∀ W x y, W.heap[g]? = some (.cells #[x, y] 201 (0, 0)) → Thin W fun k => k = g) := Lib.hid fun W x y h => thin_walk h
    have HM : Hid (∀ W, Only (fun k => k = g) w W → Mx W) := Lib.hid fun W hW => hM.on hW hg
    have HG := Lib.hid hg
    have HS := Lib.hid hsl
    have HV := Lib.hid hnv
    have HD := Lib.hid hd
    have HL := Lib.hid (And.intro hl0 hl1)
    have HN := Lib.hid hN
    have IH := Lib.hid ih
    rw [hnk] at hc3 KW ⊢
    rw [hr]
    have B0 := Lib.hid hB
    have hgs := lt_of_block hB
    obtain ⟨g0, g1, gf⟩ := box2 hB
    have hx : IntKind.i64.wrap (left - 1) = left - 1 := IntWalk.i64_in _ (by omega)
    have hne : ¬ g = w.heap.size := by omega
    have hne' : ¬ w.heap.size = g := by omega
    have HNE := Lib.hid hne'
    clear hnk hr hTH hkids hM hg hsl hnv hd hl0 hl1 hN ih hB
    go_enter Tryz.func120, Tryz.ntmps120
    go_upto_region 2 with fail
    obtain ⟨eb, heb⟩ : ∃ eb, w.heap.size = eb := ⟨_, rfl⟩
    have P1 := Only.put (S := fun k => k = g) (b := g) (Only.refl w) rfl 0 (.int .i64 (left - 1))
    have BP := heap_put (i := 0) B0.out (.int .i64 (left - 1))
    have NA := (Nw.refl (w.setCell ⟨g, 0, none⟩ (.int .i64 (left - 1)))).alloc (.cells #[.int .u8 (kd : Int), .string ⟨s.toArray⟩, .int .i64 nv, .slice a3 nk c3] 132)
    have EA := heap_alloc_new (w.setCell ⟨g, 0, none⟩ (.int .i64 (left - 1))) (.cells #[.int .u8 (kd : Int), .string ⟨s.toArray⟩, .int .i64 nv, .slice a3 nk c3] 132)
    obtain ⟨w2, hw2⟩ : ∃ w2, (w.setCell ⟨g, 0, none⟩ (.int .i64 (left - 1))).alloc (.cells #[.int .u8 (kd : Int), .string ⟨s.toArray⟩, .int .i64 nv, .slice a3 nk c3] 132) = w2 := ⟨_, rfl⟩
    rw [hw2] at NA EA
    have B2 : Hid (w2.heap[g]? = some (.cells #[.int .i64 (left - 1), .int .i64 (nl : Int)] 201 (0, 0))) := Lib.hid (by have := NA.at_ BP; simpa using this)
    have E2 : Hid (w2.heap[eb]? = some (.cells #[.int .u8 (kd : Int), .string ⟨s.toArray⟩, .int .i64 nv, .slice a3 nk c3] 132 (0, 0))) := Lib.hid (by rw [← heb]; simpa using EA)
    have W2 : Hid (Only (fun k => k = g) w w2) := Lib.hid (P1.trans NA.only)
    rw [hw2, heb]
    rw [heb] at HNE
    clear hw2 NA EA BP P1 heb hne hne' g0 g1 gf hx
    obtain ⟨g0, g1, gf⟩ := box2 B2.out
    obtain ⟨l1, hl1⟩ : ∃ l, left - 1 = l := ⟨_, rfl⟩
    have HL1 := Lib.hid hl1
    rw [hl1] at g0 B2
    clear hl1
    have hr := HR.out
    rw [exprR, HL1.out] at hr
    have bad : (l1 < 0 ∨ 20 < deep) → (r = (false, l1)) := fun c => by
      rw [← hr, if_pos (by omega)]
    by_cases cl : l1 < 0
    · have q1 : decide (l1 < 0) = true := by simp; omega
      have hrr := bad (.inl cl)
      subst hrr
      clear hr bad cl
      go_wp2_with fail
      go_ret
      exact ⟨rfl, B2.out, W2.out⟩
    have q1 : decide (l1 < 0) = false := by simp; omega
    by_cases cd : 20 < deep
    · have q2 : decide ((20 : Int) < (deep : Int)) = true := by simp; omega
      have hrr := bad (.inr cd)
      subst hrr
      clear hr bad cl cd
      go_wp2_with fail
      go_ret
      exact ⟨rfl, B2.out, W2.out⟩
    have q2 : decide ((20 : Int) < (deep : Int)) = false := by simp; omega
    rw [if_neg (by omega)] at hr
    have HR2 := Lib.hid hr
    have HL0 : Hid (0 ≤ l1 ∧ l1 ≤ 1000) := Lib.hid (by have := HL.out; have := HL1.out; omega)
    have HD20 : Hid (deep ≤ 20) := Lib.hid (by omega)
    have hdw : IntKind.i64.wrap ((deep : Int) + 1) = (deep : Int) + 1 := IntWalk.i64_in _ (by omega)
    obtain ⟨e0, e1, e2, e3, ef⟩ := box4 E2.out
    clear hr bad cl cd HR HL HL1
    go_wp2_with fail
    clear e0 e1 e2 e3 ef g0 g1 gf q1 q2
    go_loopw [29] (fun v wr => ∃ (k : Nat) (l' : Int), k ≤ nk ∧ v = .int .i64 k ∧ (0 ≤ l' ∧ l' ≤ 1000) ∧ kidsR nl kids ((deep : Int) + 1) l1 = kidsR nl (kids.drop k) ((deep : Int) + 1) l' ∧ wr.heap[g]? = some (.cells #[.int .i64 l', .int .i64 (nl : Int)] 201 (0, 0)) ∧ Only (fun k => k = g) w2 wr) (fun v _ => nk - (intOf v).toNat)
    case atStart => exact ⟨0, l1, by omega, rfl, HL0.out, rfl, B2.out, Only.refl _⟩
    case round =>
      obtain ⟨k, l', hk, rfl, hl', hkr, hb, hw⟩ := hrel
      have HL' := Lib.hid hl'
      have HKR := Lib.hid hkr
      have BR := Lib.hid hb
      have W2R := Lib.hid hw
      have WR : Hid (Only (fun k => k = g) w wr) := Lib.hid (W2.out.trans hw)
      have ER := Lib.hid (W2R.out.at_ E2.out HNE.out)
      clear hl' hkr hb hw
      by_cases hkn : k < nk
      · have q : decide ((k : Int) < (nk : Int)) = true := by simp; omega
        have hkl : k < kids.length := by have := NK.out; omega
        rcases KW.out wr WR.out with ⟨a, -, e2⟩ | ⟨gv, ov, cap, e1, -, -, hgv, h3⟩
        · rw [e2] at NK; exact absurd NK.out (by simp; omega)
        obtain ⟨rfl, -, rfl⟩ : a3 = some ⟨gv, ov, none⟩ ∧ nk = kids.length ∧ c3 = cap := by simpa using e1
        obtain ⟨cs, hcl, hc, hd'⟩ := h3 k hkl
        obtain ⟨x, hx⟩ : ∃ x, kids[k]'hkl = x := ⟨_, rfl⟩
        rw [hx] at hd'
        have hsz : SizeOf.sizeOf x ≤ N := by
          have h1 : SizeOf.sizeOf x < SizeOf.sizeOf kids := List.sizeOf_lt_of_mem (by rw [← hx]; exact List.getElem_mem hkl)
          have h2 := HN.out
          simp at h2
          omega
        have hst : kidsR nl kids ((deep : Int) + 1) l1 = if (exprR nl x ((deep : Int) + 1) l').1 then kidsR nl (kids.drop (k + 1)) ((deep : Int) + 1) (exprR nl x ((deep : Int) + 1) l').2 else exprR nl x ((deep : Int) + 1) l' := by
          rw [HKR.out, List.drop_eq_getElem_cons hkl, hx, kidsR_cons]
        have hxl := exprR_left nl x ((deep : Int) + 1) l'
        have HX := Lib.hid hd'
        obtain ⟨kx, sx, nx, kidx⟩ := x
        rw [ExM.mk_iff] at hd'
        obtain ⟨v3x, rfl, -, -, -, hkx⟩ := hd'
        obtain ⟨ax, cx, rfl, -⟩ := RdK.len hkx
        have i0 := hc 0 (by simp)
        have i1 := hc 1 (by simp)
        have i2 := hc 2 (by simp)
        have i3 := hc 3 (by simp)
        simp only [List.getElem_cons_zero, List.getElem_cons_succ, Nat.add_zero] at i0 i1 i2 i3
        have hgl : gv < wr.heap.size := hgv
        have HSZ := Lib.hid hsz
        have HST := Lib.hid hst
        have HXL := Lib.hid hxl
        clear hc h3 e1 hx hgv hkx hsz hst hxl HKR
        go_upto_region 7 with fail
        obtain ⟨wd, hwd⟩ : ∃ wd, wr.alloc (.cells #[.int .u8 (kx : Int), .string ⟨sx.toArray⟩, .int .i64 nx, .slice ax kidx.length cx] 132) = wd := ⟨_, rfl⟩
        obtain ⟨xb, hxb⟩ : ∃ xb, wr.heap.size = xb := ⟨_, rfl⟩
        have ND : Nw wr wd := by rw [← hwd]; exact (Nw.refl wr).alloc _
        have XB : Hid (wd.heap[xb]? = some (.cells #[.int .u8 (kx : Int), .string ⟨sx.toArray⟩, .int .i64 nx, .slice ax kidx.length cx] 132 (0, 0))) := Lib.hid (by rw [← hwd, ← hxb]; exact heap_alloc_new wr _)
        have BD := Lib.hid (ND.at_ BR.out)
        have WD : Hid (Only (fun k => k = g) w2 wd) := Lib.hid (W2R.out.trans ND.only)
        have WWD : Hid (Only (fun k => k = g) w wd) := Lib.hid (WR.out.trans ND.only)
        have CALL := IH.out wd g nl (deep + 1) l' (.mk kx sx nx kidx) [.int .u8 (kx : Int), .string ⟨sx.toArray⟩, .int .i64 nx, .slice ax kidx.length cx] HSZ.out BD.out HL'.out.1 HL'.out.2 (HM.out _ WWD.out) HG.out (ExM.nw ND HX.out) (by have := HD20.out; omega)
        rw [show ((deep + 1 : Nat) : Int) = (deep : Int) + 1 from by omega] at CALL
        have CL := Lib.hid CALL
        rw [hwd, hxb]
        clear hwd hxb ND i0 i1 i2 i3 hgl CALL
        obtain ⟨x0, x1, x2, x3, xf⟩ := box4 XB.out
        obtain ⟨z, hz⟩ : ∃ z, exprR nl (.mk kx sx nx kidx) ((deep : Int) + 1) l' = z := ⟨_, rfl⟩
        rw [hz] at CL HST HXL
        obtain ⟨z1, z2⟩ := z
        simp only at CL HST HXL
        clear hz
        go_wp2_with fail
        refine CL.out.mono ?_
        rintro z w4 ⟨rfl, b4, o4⟩
        have B4 := Lib.hid b4
        have W4 := Lib.hid (WD.out.trans o4)
        have WW4 := Lib.hid (WWD.out.trans o4)
        clear b4 o4 CL x0 x1 x2 x3 xf
        cases z1 with
        | true =>
          have hst := HST.out
          simp only [if_true] at hst
          have HST2 := Lib.hid hst
          have hx2 : 0 ≤ z2 ∧ z2 ≤ 1000 := by have := HXL.out rfl; have := HL'.out; omega
          have HX2 := Lib.hid hx2
          clear hst hx2
          go_wp2_with fail
          exact ⟨⟨k + 1, z2, by omega, by simp, HX2.out, HST2.out, B4.out, W4.out⟩, by simp [intOf]; omega⟩
        | false =>
          have hst := HST.out
          simp only [Bool.false_eq_true, if_false] at hst
          have hr := HR2.out
          simp only [hst, Bool.false_eq_true, if_false] at hr
          subst hr
          clear hst
          go_wp2_with fail
          go_ret
          exact ⟨rfl, B4.out, WW4.out⟩
      · have q : decide ((k : Int) < (nk : Int)) = false := by simp; omega
        have hkr := HKR.out
        rw [List.drop_of_length_le (by have := NK.out; omega), kidsR] at hkr
        have hr := HR2.out
        simp only [hkr, if_true] at hr
        rw [NK.out] at hr
        obtain ⟨t, ht⟩ : ∃ t, exB nl kd s nv nk = t := ⟨_, rfl⟩
        rw [ht] at hr
        subst hr
        have HT := Lib.hid ht
        have NMX := Lib.hid (HM.out wr WR.out)
        obtain ⟨e0, e1, e2, e3, ef⟩ := box4 ER.out
        have hel := lt_of_block ER.out
        clear hkr ht HR2 HKR
        by_cases k1 : kd = 1
        · subst k1
          have ht := HT.out
          unfold exB at ht
          simp only [if_true] at ht
          by_cases c1 : nk = 0
          · have u1 : ((nk : Int) == 0) = true := by simp; omega
            by_cases c2 : s = []
            · have u2 : (s == []) = true := by simp [c2]
              by_cases c3 : 0 ≤ nv
              · have u3 : decide ((0 : Int) ≤ nv) = true := by simp; omega
                have ht' : t = true := by rw [← ht]; simp [c1, c2, c3]
                subst ht'
                clear ht c1
                subst c2
                go_wp2_with fail
                go_ret
                exact ⟨rfl, BR.out, WR.out⟩
              · have u3 : decide ((0 : Int) ≤ nv) = false := by simp; omega
                have ht' : t = false := by rw [← ht]; simp [c3]
                subst ht'
                clear ht c1
                subst c2
                go_wp2_with fail
                go_ret
                exact ⟨rfl, BR.out, WR.out⟩
            · have u2 : (s == []) = false := by cases s <;> simp_all
              have u2' : s.isEmpty = false := by cases s <;> simp_all
              have ht' : t = false := by rw [← ht]; simp [c2]
              subst ht'
              clear ht c1 c2
              go_wp2_with fail
              go_ret
              exact ⟨rfl, BR.out, WR.out⟩
          · have u1 : ((nk : Int) == 0) = false := by simp; omega
            have ht' : t = false := by rw [← ht]; simp [c1]
            subst ht'
            clear ht c1
            go_wp2_with fail
            go_ret
            exact ⟨rfl, BR.out, WR.out⟩
        have q1 : ((kd : Int) == 1) = false := by simp; omega
        by_cases k2 : kd = 2
        · subst k2
          have ht := HT.out
          unfold exB at ht
          simp only [if_neg k1, if_true] at ht
          clear k1
          obtain ⟨g0, g1, gf⟩ := box2 BR.out
          by_cases c1 : nk = 0
          · subst c1
            by_cases c2 : 0 ≤ nv
            · have u2 : decide ((0 : Int) ≤ nv) = true := by simp; omega
              by_cases c3 : nv < nl
              · have u3 : decide (nv < (nl : Int)) = true := by simp; omega
                have X0 := Lib.hid u2
                have X1 := Lib.hid u3
                obtain ⟨y, hy⟩ : ∃ y, nameB s = y := ⟨_, rfl⟩
                have ht' : t = y := by rw [← ht, hy]; simp [c2, c3]
                subst ht'
                have RT : Hid (∀ W, Nw wr W → ∀ g, W.heap[g]? = some (.cells #[.string ⟨s.toArray⟩, .slice none 0 0, .int .i64 0] 93 (0, 0)) → Calls Tryz.prog 72 #[.agg #[.slice none 0 0, .slice (some ⟨g, 0, none⟩) 1 1]] W fun z w' => z = .returned (.bool t) ∧ Nw W w') := Lib.hid fun W hW b hb => by
                  have h := RightG_ok (w := W) (NMX.out.nw hW) (v0 := .slice none 0 0) (v1 := .slice (some ⟨b, 0, none⟩) 1 1) (os := []) (ts := [⟨s, [], 0⟩]) (.inl ⟨none, rfl, rfl⟩) (.inr ⟨b, 0, 1, rfl, by simp, by decide, lt_of_block hb, fun i hi => by
                    obtain rfl : i = 0 := by simpa using hi
                    obtain ⟨b0, b1, b2, -⟩ := box3 hb
                    refine ⟨[.string ⟨s.toArray⟩, .slice none 0 0, .int .i64 0], rfl, fun j hj => ?_, ⟨_, rfl, HS.out, ⟨by simp, by simp⟩, .inl ⟨none, rfl, rfl⟩⟩⟩
                    match j, hj with
                    | 0, _ => simpa using b0
                    | 1, _ => simpa using b1
                    | 2, _ => simpa using b2⟩)
                  rw [rightG_name, hy] at h
                  exact h
                have BG := BR
                clear ht hy c2 c3
                go_upto_region 15 with fail
                refine rgt15 BG ER X0 X1 RT ?_
                intro s6 s61 s62 s63 s64 s65 s66 s67 s68 s69 s70 s71 s72 s73 s74 s75 s76 s77 s78 s79 s80 s81 s82 s83 s84 wx nx hs6
                subst hs6
                have NX := Lib.hid nx
                clear nx
                go_wp2_with fail
                go_ret
                exact ⟨rfl, NX.out.at_ BR.out, WR.out.trans NX.out.only⟩
              · have u3 : decide (nv < (nl : Int)) = false := by simp; omega
                have ht' : t = false := by rw [← ht]; simp [c3]
                subst ht'
                have X0 := Lib.hid u2
                have X1 := Lib.hid u3
                clear ht c2 c3
                go_upto_region 15 with fail
                clear e0 e1 e2 e3 ef g0 g1 gf
                refine rgt15c BR ER X0 X1 ?_
                intro s6 s61 s62 s63 s64 s65 s66 s67 s68 s69 s70 s71 s72 s73 s74 s75 s76 s77 s78 s79 s80 s81 s82 s83 s84 wx nx hs6
                subst hs6
                have NX := Lib.hid nx
                clear nx
                go_wp2_with fail
                go_ret
                exact ⟨rfl, NX.out.at_ BR.out, WR.out.trans NX.out.only⟩
            · have u2 : decide ((0 : Int) ≤ nv) = false := by simp; omega
              have ht' : t = false := by rw [← ht]; simp [c2]
              subst ht'
              have X0 := Lib.hid u2
              clear ht c2
              go_upto_region 15 with fail
              clear e0 e1 e2 e3 ef g0 g1 gf
              refine rgt15b BR ER X0 ?_
              intro s6 s61 s62 s63 s64 s65 s66 s67 s68 s69 s70 s71 s72 s73 s74 s75 s76 s77 s78 s79 s80 s81 s82 s83 s84 wx nx hs6
              subst hs6
              have NX := Lib.hid nx
              clear nx
              go_wp2_with fail
              go_ret
              exact ⟨rfl, NX.out.at_ BR.out, WR.out.trans NX.out.only⟩
          · have u1 : ((nk : Int) == 0) = false := by simp; omega
            have ht' : t = false := by rw [← ht]; simp [c1]
            subst ht'
            have X0 := Lib.hid u1
            clear ht c1
            go_upto_region 15 with fail
            clear e0 e1 e2 e3 ef g0 g1 gf
            refine rgt15a BR ER X0 ?_
            intro s6 s61 s62 s63 s64 s65 s66 s67 s68 s69 s70 s71 s72 s73 s74 s75 s76 s77 s78 s79 s80 s81 s82 s83 s84 wx nx hs6
            subst hs6
            have NX := Lib.hid nx
            clear nx
            go_wp2_with fail
            go_ret
            exact ⟨rfl, NX.out.at_ BR.out, WR.out.trans NX.out.only⟩
        have q2 : ((kd : Int) == 2) = false := by simp; omega
        by_cases k3 : kd = 3
        · subst k3
          have ht := HT.out
          unfold exB at ht
          simp only [if_neg k1, if_neg k2, if_true] at ht
          clear k1 k2 q1 q2
          by_cases c0 : nv = 0
          · have u0 : (nv == 0) = true := by simp [c0]
            by_cases c1 : nk = 1
            · have u1 : ((nk : Int) == 1) = true := by simp; omega
              have u2 : ((nk : Int) == 2) = false := by simp; omega
              by_cases c2 : s = [45]
              · have u3 : (s == [45]) = true := by simp [c2]
                have ht' : t = true := by rw [← ht]; simp [c0, c1, c2]
                subst ht'
                clear ht c0 c1
                subst c2
                go_wp2_with fail
                go_ret
                exact ⟨rfl, BR.out, WR.out⟩
              · have u3 : (s == [45]) = false := by simp [c2]
                have ht' : t = false := by rw [← ht]; simp [c1, c2]
                subst ht'
                clear ht c0 c1 c2
                go_wp2_with fail
                go_ret
                exact ⟨rfl, BR.out, WR.out⟩
            · have u1 : ((nk : Int) == 1) = false := by simp; omega
              by_cases c2 : nk = 2
              · have u2 : ((nk : Int) == 2) = true := by simp; omega
                obtain ⟨y, hy⟩ : ∃ y, [[43], [45], [42], [61, 61], [60]].contains s = y := ⟨_, rfl⟩
                have ht' : t = y := by rw [← ht, hy]; simp [c0, c2]
                subst ht'
                have CT : Hid (∀ W b, W.heap[b]? = some (.cells #[.string ⟨#[43]⟩, .string ⟨#[45]⟩, .string ⟨#[42]⟩, .string ⟨#[61, 61]⟩, .string ⟨#[60]⟩] 9 (0, 0)) → Calls Tryz.prog 63 #[.slice (some ⟨b, 0, none⟩) 5 5, .string ⟨s.toArray⟩] W fun z w' => z = .returned (.bool t) ∧ w' = W) := Lib.hid fun W b hb => by
                  have S2 : Strs W (.slice (some ⟨b, 0, none⟩) 5 5) [[43], [45], [42], [61, 61], [60]] := .inr ⟨b, 0, 5, rfl, Nat.le_refl _, by decide, lt_of_block hb, fun i hi => by
                    have hi' : i < 5 := hi
                    match i, hi' with
                    | 0, _ => simp [World.cell?, hb]
                    | 1, _ => simp [World.cell?, hb]
                    | 2, _ => simp [World.cell?, hb]
                    | 3, _ => simp [World.cell?, hb]
                    | 4, _ => simp [World.cell?, hb]⟩
                  have := Contains_ok S2 (by decide) s
                  rw [hy] at this
                  exact this
                have NA := Lib.hid ((Nw.refl wr).alloc (.cells #[.string ⟨#[43]⟩, .string ⟨#[45]⟩, .string ⟨#[42]⟩, .string ⟨#[61, 61]⟩, .string ⟨#[60]⟩] 9))
                have BA := Lib.hid (heap_alloc_new wr (.cells #[.string ⟨#[43]⟩, .string ⟨#[45]⟩, .string ⟨#[42]⟩, .string ⟨#[61, 61]⟩, .string ⟨#[60]⟩] 9))
                clear ht hy c0 c1 c2
                go_wp2_with fail
                refine (CT.out _ _ BA.out).mono ?_
                rintro z wx ⟨rfl, rfl⟩
                go_wp2_with fail
                go_ret
                exact ⟨rfl, NA.out.at_ BR.out, WR.out.trans NA.out.only⟩
              · have u2 : ((nk : Int) == 2) = false := by simp; omega
                have ht' : t = false := by rw [← ht]; simp [c1, c2]
                subst ht'
                clear ht c0 c1 c2
                go_wp2_with fail
                go_ret
                exact ⟨rfl, BR.out, WR.out⟩
          · have u0 : (nv == 0) = false := by simp [c0]
            have ht' : t = false := by rw [← ht]; simp [c0]
            subst ht'
            clear ht c0
            go_wp2_with fail
            go_ret
            exact ⟨rfl, BR.out, WR.out⟩
        have q3 : ((kd : Int) == 3) = false := by simp; omega
        have ht := HT.out
        unfold exB at ht
        rw [if_neg k1, if_neg k2, if_neg k3] at ht
        subst ht
        clear k1 k2 k3
        go_wp2_with fail
        go_ret
        exact ⟨rfl, BR.out, WR.out⟩
theorem sound_ok {w : World} (hM : Mx w) {nl : Nat} {e : Ex} {cs : List Value} (hE : ExM w e cs) :
    Calls Tryz.prog 85 #[.agg cs.toArray, .int .i64 (nl : Int)] w fun z w' => z = .returned (.bool (soundB nl e)) ∧ Nw w w' := by
  obtain ⟨kd, s, nv, kids⟩ := e
  have HE := Lib.hid (fun W (hW : Nw w W) => ExM.nw hW hE)
  rw [ExM.mk_iff] at hE
  obtain ⟨v3, rfl, -⟩ := hE
  have TB := two_blk w #[.int .u8 (kd : Int), .string ⟨s.toArray⟩, .int .i64 nv, v3] #[.int .i64 1000, .int .i64 (nl : Int)] 132 201
  have T := Lib.hid TB
  have RA := right_all _ _ (w.heap.size + 1) nl 1 1000 (.mk kd s nv kids) _ (Nat.le_refl _) TB.2.2 (by omega) (by omega) (hM.nw TB.1) (by have := hM.lt; omega) (HE.out _ TB.1) (by omega)
  have RAH := Lib.hid RA
  obtain ⟨p0, p1, p2, p3, pf⟩ := box4 TB.2.1
  clear TB RA hM
  go_enter Tryz.func85, Tryz.ntmps85
  go_wp2_with fail
  refine RAH.out.mono ?_
  rintro z w5 ⟨rfl, -, o5⟩
  have N5 : Hid (Nw w w5) := Lib.hid (T.out.1.trans' o5 (fun k hk e => absurd hk (by omega)))
  clear o5
  go_wp2_with fail
  go_ret
  exact ⟨rfl, N5.out⟩
end Go.Proofs.YtcmaedoolinijaaGreatDoor
