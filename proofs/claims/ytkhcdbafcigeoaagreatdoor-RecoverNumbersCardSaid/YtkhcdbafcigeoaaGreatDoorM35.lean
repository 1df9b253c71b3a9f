/-
  Texts merged by a program of this claim's: UnpB.
-/
import Derived.Test.YtkhcdbafcigeoaaGreatDoorM34
import Derived.Deep.DeepCutAuto
namespace Go.Proofs.YtkhcdbafcigeoaaGreatDoor
open Go Go.RowKit Go.Sort
set_option maxRecDepth 100000
set_option maxHeartbeats 1600000
theorem Vec.setAt {k n cap g o j : Nat} {w : World} {cs : List Value} (h : Vec k w (.slice (some ⟨g, o, none⟩) n cap) n cs) (hj : j < cs.length) (u : Value) :
    Vec k (w.setCell ⟨g, o + j, none⟩ u) (.slice (some ⟨g, o, none⟩) n cap) n (cs.set j u) := by
  obtain ⟨h0, ⟨h, -⟩ | ⟨g', o', cap', he, h1, h2, h3, h4, h5, h6⟩⟩ := h
  · cases h
  · obtain ⟨⟨rfl, rfl⟩, rfl⟩ : (g = g' ∧ o = o') ∧ cap = cap' := by simpa using he
    refine ⟨by simpa using h0, .inr ⟨g, o, cap, rfl, h1, h2, by simpa [World.setCell] using h3, fun i hi => ?_, fun i hi => (World.frozen?_setCell _ _ _ _).trans (h5 i hi), fun i hi => ?_⟩⟩
    · by_cases e : i = j
      · subst e
        rw [World.cell?_setCell_same _ _ _ (h6 i hj)]; rfl
      · rw [World.cell?_setCell_other _ _ _ _ (by simp <;> omega)]; exact h4 i hi
    · rw [List.getElem_set]
      split
      · rename_i e; subst e
        exact World.cell?_setCell_same _ _ _ (h6 _ hj)
      · rename_i e
        rw [World.cell?_setCell_other _ _ _ _ (by simp <;> omega)]
        exact h6 i (by simpa using hi)
theorem set_flat (e' : Ev) {u : Value} {c : Nat} : ∀ (l : List Ev) (i : Nat) (hi : i < l.length), c < 5 → evV e' = (evV l[i]).set c u → (l.flatMap evV).set (i * 5 + c) u = (l.set i e').flatMap evV
  | [], i, hi, _, _ => by simp at hi
  | e :: l, 0, hi, hc, he => by
    simp only [List.getElem_cons_zero] at he
    rw [List.flatMap_cons, List.set_cons_zero, List.flatMap_cons, he, List.set_append, if_pos (by simp [evV]; omega), Nat.zero_mul, Nat.zero_add]
  | e :: l, i + 1, hi, hc, he => by
    simp only [List.getElem_cons_succ] at he
    rw [List.flatMap_cons, List.set_cons_succ, List.flatMap_cons, List.set_append, if_neg (by simp [evV]; omega), ← set_flat e' l i (by simpa using hi) hc he]
    congr 2
    simp [evV]; omega
structure PutCol (f : FuncId) (set : Ev → Int → Ev) (ok : Int → Bool) (c : Nat) (val : Int → Value) : Prop where
  en : Enters Tryz.prog f
  c5 : c < 5
  vals : ∀ e v, evV (set e v) = (evV e).set c (val v)
  call : ∀ (w : World) (g o : Nat) (u : Value) (v : Int), g < w.heap.size → w.cell? ⟨g, o + c, none⟩ = some u → w.frozen? ⟨g, o + c, none⟩ = false → Calls Tryz.prog f #[.pointer (some ⟨g, o, none⟩), .int .i64 v] w fun e w' => e = .returned (.bool (ok v)) ∧ w' = w.setCell ⟨g, o + c, none⟩ (val v)
theorem putOk0 : PutCol 219 setT okAny 0 (fun v => .int .i64 v) :=
  ⟨enters_of Tryz.func219 (by kernel_rfl) (by kernel_rfl), by decide, fun _ _ => rfl, fun _ _ _ _ _ h1 h2 h3 => put0_ok h1 h2 h3⟩
theorem putOk1 : PutCol 220 setOp okOp 1 (fun v => .int .u8 (v % 256)) :=
  ⟨enters_of Tryz.func220 (by kernel_rfl) (by kernel_rfl), by decide, fun e v => by
    have h : (((v % 256).toNat % 256 : Nat) : Int) = v % 256 := by omega
    simp [evV, setOp, h], fun _ _ _ _ _ h1 h2 h3 => put1_ok h1 h2 h3⟩
theorem putOk2 : PutCol 221 setObj okAny 2 (fun v => .int .i64 v) :=
  ⟨enters_of Tryz.func221 (by kernel_rfl) (by kernel_rfl), by decide, fun _ _ => rfl, fun _ _ _ _ _ h1 h2 h3 => put2_ok h1 h2 h3⟩
theorem putOk3 : PutCol 222 setA okAny 3 (fun v => .int .i64 v) :=
  ⟨enters_of Tryz.func222 (by kernel_rfl) (by kernel_rfl), by decide, fun _ _ => rfl, fun _ _ _ _ _ h1 h2 h3 => put3_ok h1 h2 h3⟩
theorem putOk4 : PutCol 223 setB okAny 4 (fun v => .int .i64 v) :=
  ⟨enters_of Tryz.func223 (by kernel_rfl) (by kernel_rfl), by decide, fun _ _ => rfl, fun _ _ _ _ _ h1 h2 h3 => put4_ok h1 h2 h3⟩
def halfE (set : Ev → Int → Ev) (es : List Ev) (acc : List Int) : List Ev := List.zipWith set es acc ++ es.drop acc.length
theorem halfE_len (set : Ev → Int → Ev) (es : List Ev) (acc : List Int) (h : acc.length ≤ es.length) : (halfE set es acc).length = es.length := by
  simp [halfE]; omega
theorem halfE_full (set : Ev → Int → Ev) (es : List Ev) (acc : List Int) (h : acc.length = es.length) : halfE set es acc = List.zipWith set es acc := by
  simp [halfE, h]
theorem halfE_snoc (set : Ev → Int → Ev) (es : List Ev) (acc : List Int) (v : Int) (h : acc.length < es.length) :
    ∃ hl : acc.length < (halfE set es acc).length, (halfE set es acc).set acc.length (set (halfE set es acc)[acc.length] v) = halfE set es (acc ++ [v]) := by
  have hl : acc.length < (halfE set es acc).length := by rw [halfE_len _ _ _ (by omega)]; exact h
  refine ⟨hl, ?_⟩
  have hz : (List.zipWith set es acc).length = acc.length := by simp; omega
  have e1 : es.drop acc.length = es[acc.length] :: es.drop (acc.length + 1) := List.drop_eq_getElem_cons h
  have e2 : (halfE set es acc)[acc.length]'hl = es[acc.length] := by
    simp only [halfE, List.getElem_append, hz, Nat.lt_irrefl, dite_false, Nat.sub_self, List.getElem_drop, Nat.add_zero]
  rw [e2]
  unfold halfE
  rw [List.set_append, if_neg (by omega), hz, Nat.sub_self, e1, List.set_cons_zero, List.length_append, List.length_singleton]
  have : List.zipWith set es (acc ++ [v]) = List.zipWith set es acc ++ [set es[acc.length] v] := by
    conv => lhs; rw [← List.take_append_drop acc.length es, e1]
    rw [List.zipWith_append (by simp; omega)]
    congr 1
    · conv => rhs; rw [← List.take_append_drop acc.length es]
      rw [show acc = acc ++ [] by simp, List.zipWith_append (by simp; omega)]
      simp
    · rw [List.zipWith_cons_cons, List.zipWith_nil_right]
  rw [this, List.append_assoc]; rfl
theorem replicate_sums (n x : Int) (j : Nat) : sums n (List.replicate (j + 1) x) = sums n (List.replicate j x) ++ [w64 (lastD n (sums n (List.replicate j x)) + x)] := by
  rw [List.replicate_succ', sums_append]; rfl
theorem lastD_snoc (n v : Int) (l : List Int) : lastD n (l ++ [v]) = v := by simp [lastD]
def ColP (W : World) (g o N cap : Nat) (set : Ev → Int → Ev) (es : List Ev) (R : Option (List Int × Int)) (z : Ending) (w' : World) : Prop := Nw W w' ∧
  ((R = none ∧ z = .returned (.tuple #[.int .i64 0, .bool false])) ∨ ∃ vs x, R = some (vs, x) ∧ z = .returned (.tuple #[.int .i64 x, .bool true]) ∧ Vec 5 w' (.slice (some ⟨g, o, none⟩) N cap) N ((List.zipWith set es vs).flatMap evV) ∧ vs.length = es.length ∧ in64 x)
theorem column_ok {W w : World} {v : Value} {b : List UInt8} (hv : Bs W v b) (hW : Nw W w) {at_ : Int} (ha : in64 at_) {es : List Ev} {g o N cap : Nat} (hN : es.length = N) (hNm : N ≤ 1048576) (hg : W.heap.size ≤ g) (hs : Vec 5 w (.slice (some ⟨g, o, none⟩) N cap) N (es.flatMap evV))
    {f : FuncId} {set : Ev → Int → Ev} {ok : Int → Bool} {c : Nat} {val : Int → Value} (hp : PutCol f set ok c val) :
    Calls Tryz.prog 200 #[v, .int .i64 at_, .slice (some ⟨g, o, none⟩) N cap, .func (.func f) #[] #[]] w (ColP W g o N cap set es (colR b ok N true 0 0 at_ [])) := by
  obtain ⟨a, vc, rfl, hv1, hv2, -⟩ := hv.elems
  have hb63 : b.length ≤ 9223372036854775807 := by unfold maxLen at hv2; omega
  have HV := Lib.hid hv
  have HP := Lib.hid hp
  have en := hp.en
  unfold Enters at en
  have hc5 := hp.c5
  have HN := Lib.hid hN
  obtain ⟨R, hR⟩ : ∃ r, colR b ok N true 0 0 at_ [] = r := ⟨_, rfl⟩
  rw [hR]
  have HR := Lib.hid hR
  have HS := Lib.hid hs
  have HW := Lib.hid hW
  clear hv hp hN hR hs hW hv1 hv2
  go_enter Tryz.func200, Tryz.ntmps200
  go_wp2
  go_loopw [1, 10, 11, 12] (fun av nv lv iv wr => ∃ (at1 n0 l0 : Int) (acc : List Int), av = .int .i64 at1 ∧ nv = .int .i64 n0 ∧ lv = .int .i64 l0 ∧ iv = .int .i64 acc.length ∧ acc.length ≤ N ∧ in64 at1 ∧ colR b ok (N - acc.length) (decide (acc.length = 0)) l0 n0 at1 acc = R ∧
    Vec 5 wr (.slice (some ⟨g, o, none⟩) N cap) N ((halfE set es acc).flatMap evV) ∧ Nw W wr) (fun _ _ _ iv _ => N - (intOf iv).toNat)
  case atStart => exact ⟨at_, 0, 0, [], rfl, rfl, rfl, rfl, Nat.zero_le _, ha, HR.out, by simpa [halfE] using HS.out, HW.out⟩
  case round =>
    obtain ⟨at1, n0, l0, acc, rfl, rfl, rfl, rfl, hacc, hat, hr, hs1, hw1⟩ := hrel
    clear HR HS HW ha
    have HR := Lib.hid hr
    have HS := Lib.hid hs1
    have HW := Lib.hid hw1
    clear hr hs1 hw1
    obtain ⟨k, hk⟩ : ∃ k, acc.length = k := ⟨_, rfl⟩
    rw [hk] at hacc HR ⊢
    have HK := Lib.hid hk
    clear hk
    by_cases hlt : k < N
    case neg =>
      obtain rfl : k = N := by omega
      have hr := HR.out
      rw [Nat.sub_self, colR_zero] at hr
      have hl : acc.length = es.length := by rw [HK.out, HN.out]
      have HF := Lib.hid (halfE_full set es acc hl)
      go_wp2
      go_ret2
      exact ⟨HW.out, .inr ⟨acc, at1, hr.symm, rfl, by rw [← HF.out]; exact HS.out, hl, hat⟩⟩
    obtain ⟨⟨x, p1, e1⟩, hgi⟩ : ∃ y, getI b at1 = y := ⟨_, rfl⟩
    have C1 := Lib.hid (GetInt_ok (HV.out.nw HW.out) at1 hat hgi)
    have hun := HR.out
    unfold colR at hun
    rw [if_neg (by omega), hgi] at hun
    simp only at hun
    have hfi := getI_fine (b := b) (at_ := at1)
    rw [hgi] at hfi
    simp only at hfi
    clear HR hgi
    by_cases c1 : e1 = 0
    case neg =>
      have q1 : (e1 != 0) = true := by simpa using c1
      rw [if_pos c1] at hun
      clear hfi
      go_wp2_with fail
      refine C1.out.mono ?_
      rintro z w' ⟨rfl, rfl⟩
      go_wp2
      go_ret2
      exact ⟨HW.out, .inl ⟨hun.symm, rfl⟩⟩
    subst c1
    rw [if_neg (by simp)] at hun
    obtain ⟨i1, i2, i3⟩ := hfi rfl
    clear hfi
    have hp1 : in64 p1 := ⟨by omega, by omega⟩
    obtain ⟨⟨run, p2, e2⟩, hgu⟩ : ∃ y, getU b p1 = y := ⟨_, rfl⟩
    have C2 := Lib.hid (GetUint_ok (HV.out.nw HW.out) p1 hp1 hgu)
    rw [hgu] at hun
    simp only at hun
    have hfu := getU_fine (b := b) (at_ := p1)
    rw [hgu] at hfu
    simp only at hfu
    clear hgu
    have ret0 : R = none → ColP W g o N cap set es R (.returned (.tuple #[.int .i64 0, .bool false])) wr := fun h => ⟨HW.out, .inl ⟨h, rfl⟩⟩
    have RET := Lib.hid ret0
    clear ret0
    by_cases c2 : e2 = 0
    case neg =>
      have q1 : (e2 != 0) = true := by simpa using c2
      rw [dif_pos (.inl c2)] at hun
      clear hfu
      go_wp2_with fail
      refine C1.out.mono ?_
      rintro z w' ⟨rfl, rfl⟩
      go_wp2_with fail
      refine C2.out.mono ?_
      rintro z w' ⟨rfl, rfl⟩
      go_wp2
      go_ret2
      exact RET.out hun.symm
    subst c2
    obtain ⟨j1, j2, j3, j4⟩ := hfu rfl
    by_cases c3 : run < 1
    case pos =>
      rw [dif_pos (.inr (.inl c3))] at hun
      go_wp2_with fail
      refine C1.out.mono ?_
      rintro z w' ⟨rfl, rfl⟩
      go_wp2_with fail
      refine C2.out.mono ?_
      rintro z w' ⟨rfl, rfl⟩
      go_wp2
      go_ret2
      exact RET.out hun.symm
    have hwr : IntKind.u64.wrap ((N : Int) - (k : Int)) = (N : Int) - (k : Int) := IntWalk.u64_in _ (by omega)
    by_cases c4 : N - k < run
    case pos =>
      rw [dif_pos (.inr (.inr (.inl c4)))] at hun
      have q2 : decide ((N : Int) - (k : Int) < (run : Int)) = true := by simp; omega
      go_wp2_with fail
      refine C1.out.mono ?_
      rintro z w' ⟨rfl, rfl⟩
      go_wp2_with fail
      refine C2.out.mono ?_
      rintro z w' ⟨rfl, rfl⟩
      go_wp2
      go_ret2
      exact RET.out hun.symm
    have q2 : decide ((N : Int) - (k : Int) < (run : Int)) = false := by simp; omega
    by_cases c5 : decide (k = 0) = false ∧ x = l0
    case pos =>
      rw [dif_pos (.inr (.inr (.inr c5)))] at hun
      obtain ⟨c6, rfl⟩ := c5
      have hk0 : 0 < k := by have := of_decide_eq_false c6; omega
      have q3 : decide ((0 : Int) < (k : Int)) = true := by simp; omega
      go_wp2_with fail
      refine C1.out.mono ?_
      rintro z w' ⟨rfl, rfl⟩
      go_wp2_with fail
      refine C2.out.mono ?_
      rintro z w' ⟨rfl, rfl⟩
      go_wp2
      go_ret2
      exact RET.out hun.symm
    rw [dif_neg (by
      rintro (h | h | h | h)
      · exact h rfl
      · exact c3 h
      · exact c4 h
      · exact c5 h)] at hun
    clear RET
    have HUN := Lib.hid hun
    clear hun
    have c5' : k = 0 ∨ 0 < k ∧ x ≠ l0 := by
      rcases Nat.eq_zero_or_pos k with h | h
      · exact .inl h
      · exact .inr ⟨h, fun hx => c5 ⟨by simp; omega, hx⟩⟩
    clear c5
    go_wp2_with fail
    refine C1.out.mono ?_
    rintro z w' ⟨rfl, rfl⟩
    go_wp2_with fail
    refine C2.out.mono ?_
    rintro z w' ⟨rfl, rfl⟩
    clear C1 C2
    go_upto_region 8 with fail
    go_cut [61] (fun t wx => t = .bool false ∧ wx = wr)
    case first =>
      rcases c5' with h | ⟨h, hx⟩
      · subst h
        go_wp2_with fail
        go_meet
        case rel => exact ⟨by simp; omega, rfl⟩
      · have q3 : decide ((0 : Int) < (k : Int)) = true := by simp; omega
        have q4 : (x == l0) = false := by simpa using hx
        go_wp2_with fail
        go_meet
        case rel => exact ⟨by simp; omega, rfl⟩
    case rest =>
      obtain ⟨rfl, rfl⟩ := hcut
      clear q2 hwr c5'
      have hrun : k + run ≤ N := by omega
      go_wp2
      go_loopw [10, 12, 65] (fun nv iv kv wq => ∃ j : Nat, j ≤ run ∧ kv = .int .u64 j ∧ nv = .int .i64 (lastD n0 (sums n0 (List.replicate j x))) ∧ iv = .int .i64 (k + j : Nat) ∧ (sums n0 (List.replicate j x)).all ok = true ∧
        Vec 5 wq (.slice (some ⟨g, o, none⟩) N cap) N ((halfE set es (acc ++ sums n0 (List.replicate j x))).flatMap evV) ∧ Nw W wq) (fun _ _ kv _ => run - (intOf kv).toNat)
      case atStart => exact ⟨0, Nat.zero_le _, rfl, by simp [sums, lastD], by simp, by simp [sums], by simpa [sums] using HS.out, HW.out⟩
      case round =>
        obtain ⟨j, hj, rfl, rfl, rfl, hall, hs2, hw2⟩ := hrel
        clear HS HW
        have HS := Lib.hid hs2
        have HW := Lib.hid hw2
        have HALL := Lib.hid hall
        clear hs2 hw2 hall
        by_cases hjr : j < run
        case neg =>
          obtain rfl : j = run := by omega
          have hr := HUN.out
          rw [if_neg (by rw [HALL.out]; simp)] at hr
          have hal : (acc ++ sums n0 (List.replicate j x)).length = k + j := by rw [List.length_append, HK.out, sums_len, List.length_replicate]
          go_wp2
          go_roundw
          case rel =>
            refine ⟨p2, lastD n0 (sums n0 (List.replicate j x)), x, acc ++ sums n0 (List.replicate j x), rfl, rfl, rfl, by rw [hal], by omega, ⟨by omega, by omega⟩, ?_, HS.out, HW.out⟩
            rw [hal, show N - (k + j) = N - k - j by omega, show decide (k + j = 0) = false by simp; omega]
            exact hr
          case measure => simp [intOf]; omega
        obtain ⟨A, hA⟩ : ∃ A, acc ++ sums n0 (List.replicate j x) = A := ⟨_, rfl⟩
        obtain ⟨q, hq⟩ : ∃ q, k + j = q := ⟨_, rfl⟩
        have hlen : A.length = q := by rw [← hA, ← hq, List.length_append, HK.out, sums_len, List.length_replicate]
        rw [hA] at HS
        rw [hq]
        obtain ⟨v, hv⟩ : ∃ v, w64 (lastD n0 (sums n0 (List.replicate j x)) + x) = v := ⟨_, rfl⟩
        have hwv : IntKind.i64.wrap (lastD n0 (sums n0 (List.replicate j x)) + x) = v := by rw [IntKind.wrap_i64]; exact hv
        have hsn : sums n0 (List.replicate (j + 1) x) = sums n0 (List.replicate j x) ++ [v] := by rw [replicate_sums, hv]
        have hA2 : acc ++ sums n0 (List.replicate (j + 1) x) = A ++ [v] := by rw [hsn, ← List.append_assoc, hA]
        have hlast : lastD n0 (sums n0 (List.replicate (j + 1) x)) = v := by rw [hsn, lastD_snoc]
        obtain ⟨nn, hnn⟩ : ∃ y, lastD n0 (sums n0 (List.replicate j x)) = y := ⟨_, rfl⟩
        rw [hnn] at hwv
        rw [hnn]
        have hq2 : q < N := by omega
        obtain ⟨hl, hset⟩ := halfE_snoc set es A v (by rw [hlen, HN.out]; omega)
        obtain ⟨H, hH⟩ : ∃ H, halfE set es A = H := ⟨_, rfl⟩
        have hHl : H.length = N := by rw [← hH, halfE_len _ _ _ (by rw [hlen, HN.out]; omega), HN.out]
        simp only [hH, hlen] at hl hset
        rw [hH] at HS
        have hcl := HS.out.2.resolve_left (fun h => by cases h.1)
        obtain ⟨g', o', cap', he, -, -, hgl, hsome, hfroz, -⟩ := hcl
        obtain ⟨⟨rfl, rfl⟩, rfl⟩ : (g = g' ∧ o = o') ∧ cap = cap' := by simpa using he
        have hcap : N ≤ cap := by obtain ⟨_, _, he2, h1, -⟩ := HS.out.len; cases he2; exact h1
        have hqc : q * 5 + c < cap * 5 := by omega
        obtain ⟨u, hu⟩ := Option.isSome_iff_exists.1 (hsome (q * 5 + c) hqc)
        have hfz := hfroz (q * 5 + c) hqc
        rw [← Nat.add_assoc] at hu hfz
        have CP := Lib.hid (HP.out.call wr g (o + q * 5) u v hgl hu hfz)
        have hjc : q * 5 + c < (H.flatMap evV).length := by rw [evs_len, hHl]; omega
        have hvec := HS.out.setAt hjc (val v)
        rw [set_flat (set (H[q]'hl) v) H q hl hc5 (HP.out.vals _ _), hset, ← Nat.add_assoc] at hvec
        have HVEC := Lib.hid hvec
        have NW2 : Hid (Nw W (wr.setCell ⟨g, o + q * 5 + c, none⟩ (val v))) := Lib.hid (Only.setCell HW.out (fun h => by simp only at h; omega) _)
        clear hl hset hsome hfroz he hvec hu hfz hjc hcap hqc hnn
        by_cases hok : ok v = true
        case neg =>
          have hok' : ok v = false := by simpa using hok
          rw [hok'] at CP
          have hr := HUN.out
          rw [if_pos (by
            have h1 : run = (j + 1) + (run - (j + 1)) := by omega
            rw [h1, ← List.replicate_append_replicate, sums_append, List.all_append, hsn, List.all_append]
            simp [hok'])] at hr
          go_wp2_with (refine CP.out.mono ?_)
          rintro z w' ⟨rfl, rfl⟩
          go_wp2
          go_ret2
          exact ⟨NW2.out, .inl ⟨hr.symm, rfl⟩⟩
        rw [hok] at CP
        go_wp2_with (refine CP.out.mono ?_)
        rintro z w' ⟨rfl, rfl⟩
        go_wp2
        go_roundw
        case rel => exact ⟨j + 1, by omega, by go_num, by rw [hlast], by rw [← hq]; go_num, by rw [hsn, List.all_append, HALL.out]; simp [hok], by rw [hA2]; exact HVEC.out, NW2.out⟩
        case measure => simp [intOf]; omega
end Go.Proofs.YtkhcdbafcigeoaaGreatDoor
