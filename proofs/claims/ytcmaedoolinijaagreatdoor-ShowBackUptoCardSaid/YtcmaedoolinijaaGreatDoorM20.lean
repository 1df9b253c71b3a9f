/-
  Texts merged by a program of this claim's: ChkE.
-/
import Derived.Test.YtcmaedoolinijaaGreatDoorM19
import Derived.Test.YtcmaedoolinijaaGreatDoorM3
import Derived.Deep.DeepCutAuto
import Derived.Deep.QuietTactic
import Derived.BigQuiet
namespace Go.Proofs.YtcmaedoolinijaaGreatDoor
open Go Go.RowKit Go.Sort
set_option maxRecDepth 100000
set_option maxHeartbeats 3200000
theorem cof_ok {w : World} {op : Nat} : Calls Tryz.prog 143 #[.int .u8 (op : Int)] w fun z w' => z = .returned (.int .u8 (ofK op : Int)) ∧ w' = w := by
  by_cases h0 : op ≤ 4
  · have q0 : decide ((op : Int) ≤ 4) = true := by simp; omega
    have hr : ofK op = 1 := by unfold ofK; simp [h0]
    rw [hr]
    clear hr h0
    go_enter Tryz.func143, Tryz.ntmps143
    go_wp2_with fail
    go_ret
    exact ⟨rfl, rfl⟩
  have q0 : decide ((op : Int) ≤ 4) = false := by simp; omega
  by_cases h1 : op ≤ 8
  · have q1 : decide ((op : Int) ≤ 8) = true := by simp; omega
    have hr : ofK op = 2 := by unfold ofK; simp [h0, h1]
    rw [hr]
    clear hr h0 h1
    go_enter Tryz.func143, Tryz.ntmps143
    go_wp2_with fail
    go_ret
    exact ⟨rfl, rfl⟩
  have q1 : decide ((op : Int) ≤ 8) = false := by simp; omega
  by_cases h2 : op ≤ 11
  · have q2 : decide ((op : Int) ≤ 11) = true := by simp; omega
    have hr : ofK op = 3 := by unfold ofK; simp [h0, h1, h2]
    rw [hr]
    clear hr h0 h1 h2
    go_enter Tryz.func143, Tryz.ntmps143
    go_wp2_with fail
    go_ret
    exact ⟨rfl, rfl⟩
  have q2 : decide ((op : Int) ≤ 11) = false := by simp; omega
  by_cases h3 : op ≤ 14
  · have q3 : decide ((op : Int) ≤ 14) = true := by simp; omega
    have hr : ofK op = 4 := by unfold ofK; simp [h0, h1, h2, h3]
    rw [hr]
    clear hr h0 h1 h2 h3
    go_enter Tryz.func143, Tryz.ntmps143
    go_wp2_with fail
    go_ret
    exact ⟨rfl, rfl⟩
  have q3 : decide ((op : Int) ≤ 14) = false := by simp; omega
  by_cases h4 : op = 15
  · have q4 : ((op : Int) == 15) = true := by simp; omega
    have hr : ofK op = 5 := by unfold ofK; simp [h0, h1, h2, h3, h4]
    rw [hr]
    clear hr h0 h1 h2 h3 h4
    go_enter Tryz.func143, Tryz.ntmps143
    go_wp2_with fail
    go_ret
    exact ⟨rfl, rfl⟩
  have q4 : ((op : Int) == 15) = false := by simp; omega
  by_cases h5 : op = 16
  · have q5 : ((op : Int) == 16) = true := by simp; omega
    have hr : ofK op = 6 := by unfold ofK; simp [h0, h1, h2, h3, h4, h5]
    rw [hr]
    clear hr h0 h1 h2 h3 h4 h5
    go_enter Tryz.func143, Tryz.ntmps143
    go_wp2_with fail
    go_ret
    exact ⟨rfl, rfl⟩
  have q5 : ((op : Int) == 16) = false := by simp; omega
  by_cases h6 : op ≤ 19
  · have q6 : decide ((op : Int) ≤ 19) = true := by simp; omega
    have hr : ofK op = 7 := by unfold ofK; simp [h0, h1, h2, h3, h4, h5, h6]
    rw [hr]
    clear hr h0 h1 h2 h3 h4 h5 h6
    go_enter Tryz.func143, Tryz.ntmps143
    go_wp2_with fail
    go_ret
    exact ⟨rfl, rfl⟩
  have q6 : decide ((op : Int) ≤ 19) = false := by simp; omega
  by_cases h7 : op ≤ 21
  · have q7 : decide ((op : Int) ≤ 21) = true := by simp; omega
    have hr : ofK op = 8 := by unfold ofK; simp [h0, h1, h2, h3, h4, h5, h6, h7]
    rw [hr]
    clear hr h0 h1 h2 h3 h4 h5 h6 h7
    go_enter Tryz.func143, Tryz.ntmps143
    go_wp2_with fail
    go_ret
    exact ⟨rfl, rfl⟩
  have q7 : decide ((op : Int) ≤ 21) = false := by simp; omega
  have hr : ofK op = 9 := by unfold ofK; simp [h0, h1, h2, h3, h4, h5, h6, h7]
  rw [hr]
  clear hr h0 h1 h2 h3 h4 h5 h6 h7
  go_enter Tryz.func143, Tryz.ntmps143
  go_wp2_with fail
  go_ret
  exact ⟨rfl, rfl⟩
theorem knamed_ok {w : World} {g m : Nat} {os : List Dcl} {v : Value} (hg : w.heap[g]? = some (.cells #[.map (some m), v] 151 (0, 0))) (hm : KindM w m os) (s : List UInt8) (k : Nat) :
    Calls Tryz.prog 114 #[.pointer (some ⟨g, 0, none⟩), .string ⟨s.toArray⟩, .int .u8 (k : Int)] w fun z w' => z = .returned (.int .i64 (namedE os s k)) ∧ w' = w := by
  have hlk := hm.look s
  obtain ⟨g0, g1, gf⟩ := box2 hg
  obtain ⟨r, hr⟩ : ∃ r, namedE os s k = r := ⟨_, rfl⟩
  rw [hr]
  unfold namedE at hr
  clear hm hg
  cases hk : kindOf os s with
  | none =>
    rw [hk] at hr hlk
    simp only [Option.getD_none, Option.isSome_none] at hlk
    simp only at hr
    subst hr
    clear hk
    go_enter Tryz.func114, Tryz.ntmps114
    go_wp2_with fail
    go_ret
    exact ⟨rfl, rfl⟩
  | some j =>
    rw [hk] at hr hlk
    simp only [Option.getD_some, Option.isSome_some] at hlk
    simp only at hr
    clear hk
    by_cases c : j = k
    · have q : ((j : Int) != (k : Int)) = false := by simp; omega
      rw [if_pos c] at hr
      subst hr
      clear c
      go_enter Tryz.func114, Tryz.ntmps114
      go_wp2_with fail
      go_ret
      exact ⟨rfl, rfl⟩
    · have q : ((j : Int) != (k : Int)) = true := by simp; omega
      rw [if_neg c] at hr
      subst hr
      clear c
      go_enter Tryz.func114, Tryz.ntmps114
      go_wp2_with fail
      go_ret
      exact ⟨rfl, rfl⟩
theorem kobjG_ok {w : World} {g m : Nat} {os : List Dcl} {v : Value} (hg : w.heap[g]? = some (.cells #[.map (some m), v] 151 (0, 0))) (hm : KindM w m os) {d : Dcl} (hn64 : in64' d.n) :
    Calls Tryz.prog 73 #[.pointer (some ⟨g, 0, none⟩), .agg (dclA d)] w fun z w' => z = .returned (.int .i64 (declE os d)) ∧ Nw w w' := by
  obtain ⟨k, nm, n, o, li⟩ := d
  simp only at hn64
  obtain ⟨W, hW⟩ : ∃ W, w.alloc (.cells (dclA ⟨k, nm, n, o, li⟩) 76) = W := ⟨_, rfl⟩
  have hNW : Nw w W := by rw [← hW]; exact (Nw.refl w).alloc _
  have hgW := hNW.at_ hg
  have g0 := cellG (box2 hgW).1
  have hmW := hm.nw hNW
  have hdW : W.heap[w.heap.size]? = some (.cells (dclA ⟨k, nm, n, o, li⟩) 76 (0, 0)) := by rw [← hW]; exact heap_alloc_new w _
  have n1 := cellG (box5 hdW).2.1
  obtain ⟨b, hb⟩ : ∃ b, (kindOf os nm).isSome = b := ⟨_, rfl⟩
  obtain ⟨x, hx⟩ : ∃ x, (((kindOf os nm).getD 0 : Nat) : Int) = x := ⟨_, rfl⟩
  have hlk : ∀ p : Regrown, (Instr.lookup 149 (.map (some m)) (.string ⟨nm.toArray⟩) true).run Tryz.prog (grow (redrawn W p.d) p.os) = .ok (.tuple #[.int .u8 x, .bool b]) (grow (redrawn W p.d) p.os) := fun p => by
    have := (hmW.nw (Nw.of_regrown ⟨p, rfl⟩)).look nm
    rw [hb, hx] at this
    exact this
  have HNW := Lib.hid hNW
  have DW := Lib.hid hdW
  have HG := Lib.hid hgW
  have HM := Lib.hid hmW
  have HIN := Lib.hid hn64
  obtain ⟨r, hr⟩ : ∃ r, declE os ⟨k, nm, n, o, li⟩ = r := ⟨_, rfl⟩
  rw [hr]
  unfold declE at hr
  simp only at hr
  rw [hb] at hr
  have HR := Lib.hid hr
  clear hNW hmW hdW hm hg hgW hb hx hr hn64
  go_enter Tryz.func73, Tryz.ntmps73
  go_wp2_with fail
  try rw [hW]
  refine wp_region_quiet_below (by kernel_rfl) (by kernel_rfl) ?_
  repeat (first | go_big_quiet_step (fail) | quiet_step (fail))
  refine wpQuiet_nil ?_
  intro w2 hw2
  have n2 := Nw.of_regrown hw2
  have N2 := Lib.hid n2
  have D2 := Lib.hid (n2.at_ DW.out)
  have G2 := Lib.hid (n2.at_ HG.out)
  have M2 := Lib.hid (HM.out.nw n2)
  have NN : Hid (Nw w w2) := Lib.hid (HNW.out.trans n2)
  clear hw2 n2 g0 n1 hlk hW
  obtain ⟨d0, d1, d2, d3, d4, df⟩ := box5 D2.out
  simp only [dclA] at d0 d1 d2 d3 d4
  cases b with
  | true =>
    have hr := HR.out
    simp only [if_true] at hr
    subst hr
    go_wp2_with fail
    go_ret
    exact ⟨rfl, NN.out⟩
  | false =>
    have hr := HR.out
    simp only [Bool.false_eq_true, if_false] at hr
    clear HR
    by_cases k4 : k = 4
    · subst k4
      simp only [if_true] at hr
      subst hr
      go_wp2_with fail
      refine (knamed_ok G2.out M2.out o 1).mono ?_
      rintro z w3 ⟨rfl, rfl⟩
      go_wp2_with fail
      go_ret
      exact ⟨rfl, NN.out⟩
    have q4 : ((k : Int) == 4) = false := by simp; omega
    rw [if_neg k4] at hr
    by_cases k5 : k = 5
    · subst k5
      simp only [show ¬ ((5 : Nat) = 3 ∨ (5 : Nat) = 8) from by omega, if_false, if_true] at hr
      by_cases c1 : n < 1
      · have u1 : decide (n < 1) = true := by simp; omega
        rw [if_pos (.inl c1)] at hr
        subst hr
        go_wp2_with fail
        go_ret
        exact ⟨rfl, NN.out⟩
      · have u1 : decide (n < 1) = false := by simp; omega
        by_cases c2 : n > 16
        · have u2 : decide ((16 : Int) < n) = true := by simp; omega
          rw [if_pos (.inr c2)] at hr
          subst hr
          go_wp2_with fail
          go_ret
          exact ⟨rfl, NN.out⟩
        · have u2 : decide ((16 : Int) < n) = false := by simp; omega
          rw [if_neg (not_or.2 ⟨c1, c2⟩)] at hr
          subst hr
          go_wp2_with fail
          go_ret
          exact ⟨rfl, NN.out⟩
    have q5 : ((k : Int) == 5) = false := by simp; omega
    by_cases k3 : k = 3
    · subst k3
      simp only [true_or, if_true] at hr
      by_cases c1 : n < 1
      · have u1 : decide (n < 1) = true := by simp; omega
        rw [if_pos (.inl c1)] at hr
        subst hr
        go_wp2_with fail
        go_ret
        exact ⟨rfl, NN.out⟩
      · have u1 : decide (n < 1) = false := by simp; omega
        by_cases c2 : n > 1048576
        · have u2 : decide ((1048576 : Int) < n) = true := by simp; omega
          rw [if_pos (.inr c2)] at hr
          subst hr
          go_wp2_with fail
          go_ret
          exact ⟨rfl, NN.out⟩
        · have u2 : decide ((1048576 : Int) < n) = false := by simp; omega
          rw [if_neg (not_or.2 ⟨c1, c2⟩)] at hr
          subst hr
          go_wp2_with fail
          go_ret
          exact ⟨rfl, NN.out⟩
    have q3 : ((k : Int) == 3) = false := by simp; omega
    by_cases k8 : k = 8
    · subst k8
      simp only [or_true, if_true] at hr
      by_cases c1 : n < 1
      · have u1 : decide (n < 1) = true := by simp; omega
        rw [if_pos (.inl c1)] at hr
        subst hr
        go_wp2_with fail
        go_ret
        exact ⟨rfl, NN.out⟩
      · have u1 : decide (n < 1) = false := by simp; omega
        by_cases c2 : n > 1048576
        · have u2 : decide ((1048576 : Int) < n) = true := by simp; omega
          rw [if_pos (.inr c2)] at hr
          subst hr
          go_wp2_with fail
          go_ret
          exact ⟨rfl, NN.out⟩
        · have u2 : decide ((1048576 : Int) < n) = false := by simp; omega
          rw [if_neg (not_or.2 ⟨c1, c2⟩)] at hr
          subst hr
          go_wp2_with fail
          go_ret
          exact ⟨rfl, NN.out⟩
    have q8 : ((k : Int) == 8) = false := by simp; omega
    rw [if_neg (by omega), if_neg (by omega)] at hr
    subst hr
    go_wp2_with fail
    go_ret
    exact ⟨rfl, NN.out⟩
theorem toldnil_ok {w : World} (g : Nat) (a : Option Addr) (c : Nat) : Calls Tryz.prog 144 #[.pointer (some ⟨g, 0, none⟩), .slice a 0 c] w fun z w' => z = .returned (.bool true) ∧ w' = w := by
  go_enter Tryz.func144, Tryz.ntmps144
  go_wp2_with fail
  go_loopw [9] (fun v wr => v = .int .i64 0 ∧ wr = w) (fun _ _ => 0)
  case atStart => exact ⟨rfl, rfl⟩
  case round =>
    obtain ⟨rfl, rfl⟩ := hrel
    go_wp2_with fail
    go_ret
    exact ⟨rfl, rfl⟩
theorem told_flat {w : World} (g : Nat) {v : Value} {n : Nat} (h : RdK 4 isNought w v (List.replicate n ())) : Calls Tryz.prog 144 #[.pointer (some ⟨g, 0, none⟩), v] w fun z w' => z = .returned (.bool true) ∧ Nw w w' := by
  obtain ⟨a0, c0, rfl, hc0, hm0, -⟩ := h.len
  rw [List.length_replicate] at hc0 ⊢
  have hm0' : c0 ≤ 9223372036854775807 := by unfold maxLen at hm0; omega
  have H0 := Lib.hid (fun (W : World) (hW : Nw w W) => h.nw hW)
  clear h
  go_enter Tryz.func144, Tryz.ntmps144
  go_wp2_with fail
  go_loopw [9] (fun v wr => ∃ k : Nat, k ≤ n ∧ v = .int .i64 k ∧ Nw w wr) (fun v _ => n - (intOf v).toNat)
  case atStart => exact ⟨0, by omega, rfl, Nw.refl _⟩
  case round =>
    obtain ⟨k, hk, rfl, hw⟩ := hrel
    have HW := Lib.hid hw
    clear hw
    by_cases hkn : k < n
    · have q : decide ((k : Int) < (n : Int)) = true := by simp; omega
      rcases H0.out wr HW.out with ⟨a, -, e2⟩ | ⟨gv, ov, cap, e1, -, -, hgv, h3⟩
      · exact absurd (congrArg List.length e2) (by simp; omega)
      obtain ⟨rfl, -, rfl⟩ : a0 = some ⟨gv, ov, none⟩ ∧ n = (List.replicate n ()).length ∧ c0 = cap := by simpa using e1
      obtain ⟨cs, -, hc, ⟨x, hd, ⟨y, rfl⟩⟩⟩ := h3 k (by simpa using hkn)
      subst hd
      have e0 := hc 0 (by simp)
      have e1' := hc 1 (by simp)
      have e2 := hc 2 (by simp)
      have e3 := hc 3 (by simp)
      simp only [List.getElem_cons_zero, List.getElem_cons_succ, Nat.add_zero] at e0 e1' e2 e3
      have hgl : gv < wr.heap.size := hgv
      clear hc h3 e1 hgv
      go_upto_region 4 with fail
      obtain ⟨wd, hwd⟩ : ∃ wd, wr.alloc (.cells #[.int .u8 1, .string ⟨#[]⟩, .int .i64 0, .slice y 0 0] 132) = wd := ⟨_, rfl⟩
      have DB : Hid (wd.heap[wr.heap.size]? = some (.cells #[.int .u8 1, .string ⟨#[]⟩, .int .i64 0, .slice y 0 0] 132 (0, 0))) := Lib.hid (by rw [← hwd]; exact heap_alloc_new wr _)
      have ND : Hid (Nw w wd) := Lib.hid (by rw [← hwd]; exact HW.out.trans ((Nw.refl wr).alloc _))
      rw [hwd]
      obtain ⟨d0, d1, d2, d3, df⟩ := box4 DB.out
      have c0' := cellG d0
      have c3' := cellG d3
      have HT : Hid (∀ p : Regrown, Calls Tryz.prog 144 #[.pointer (some ⟨g, 0, none⟩), .slice y 0 0] (grow (redrawn wd p.d) p.os) fun e w'' => e = .returned (.bool true) ∧ ∃ p' : Regrown, w'' = grow (redrawn wd p'.d) p'.os) := Lib.hid fun p => quiet_nw fun w2 hw2 => (toldnil_ok g y 0).mono fun e w' ⟨he, hw⟩ => ⟨he, hw ▸ Nw.refl _⟩
      clear hwd e0 e1' e2 e3 d0 d1 d2 d3 df
      refine wp_region_quiet_below (by kernel_rfl) (by kernel_rfl) ?_
      repeat (first | go_big_quiet_step (with_reducible exact HT.out _) | quiet_step (with_reducible exact HT.out _))
      refine wpQuiet_nil ?_
      intro w2 hw2
      have N2 : Hid (Nw w w2) := Lib.hid (ND.out.trans (Nw.of_regrown hw2))
      clear hw2 c0' c3'
      go_wp2_with fail
      exact ⟨⟨k + 1, by omega, by simp, N2.out⟩, by simp [intOf]; omega⟩
    · have q : decide ((k : Int) < (n : Int)) = false := by simp; omega
      go_wp2_with fail
      go_ret
      exact ⟨rfl, HW.out⟩
def stmtE (os : List Dcl) (l : List (List UInt8)) (s : Fs) : Int × List (List UInt8) :=
  if namedE os s.obj (ofK s.op) ≠ 0 then (namedE os s.obj (ofK s.op), l) else
    let l' := if s.into = [] then l else locPut l s.into
    (if l'.length > 20 then 102 else 0, l')
theorem stmt_flat {w : World} {g m ml : Nat} {os : List Dcl} {l : List (List UInt8)} (hg : w.heap[g]? = some (.cells #[.map (some m), .map (some ml)] 151 (0, 0))) (hm : KindM w m os) (hl : LocM w ml l) (hne : ¬ g = ml) (hgs : g < w.heap.size) {cs : List Value} {s : Fs} (hs : isFs w cs s) (hll : l.length ≤ 20) :
    Calls Tryz.prog 115 #[.pointer (some ⟨g, 0, none⟩), .agg cs.toArray] w fun z w' => z = .returned (.int .i64 (stmtE os l s).1) ∧ LocM w' ml (stmtE os l s).2 ∧ Only (fun k => k = ml) w w' := by
  obtain ⟨v1, v2, v3, rfl, hop, hol, hil, hli, hargs, ⟨b2, rfl⟩, ⟨b3, rfl⟩⟩ := hs
  obtain ⟨W, hW⟩ : ∃ W, w.alloc (.cells #[.int .u8 1, .int .u8 (s.op : Int), .string ⟨s.obj.toArray⟩, .string ⟨s.into.toArray⟩, .int .i64 0, v1, .slice b2 0 0, .slice b3 0 0, .int .i64 s.line] 144) = W := ⟨_, rfl⟩
  have hNW : Nw w W := by rw [← hW]; exact (Nw.refl w).alloc _
  have DW : Hid (W.heap[w.heap.size]? = some (.cells #[.int .u8 1, .int .u8 (s.op : Int), .string ⟨s.obj.toArray⟩, .string ⟨s.into.toArray⟩, .int .i64 0, v1, .slice b2 0 0, .slice b3 0 0, .int .i64 s.line] 144 (0, 0))) := Lib.hid (by rw [← hW]; exact heap_alloc_new w _)
  have HNW := Lib.hid hNW
  have HG := Lib.hid (hNW.at_ hg)
  have HM := Lib.hid (hm.nw hNW)
  have HL := Lib.hid (hl.nw hNW)
  have HA := Lib.hid (fun (X : World) (hX : Nw w X) => hargs.nw hX)
  have HNE := Lib.hid hne
  have HLL := Lib.hid hll
  have hlm := hl.lt
  obtain ⟨a1, c1, rfl, -⟩ := hargs.len
  rw [List.length_replicate] at HA DW hW
  obtain ⟨r, hr⟩ : ∃ r, stmtE os l s = r := ⟨_, rfl⟩
  rw [hr]
  unfold stmtE at hr
  obtain ⟨e0, he0⟩ : ∃ e, namedE os s.obj (ofK s.op) = e := ⟨_, rfl⟩
  rw [he0] at hr
  have HR := Lib.hid hr
  have C1 : Hid (∀ p : Regrown, Calls Tryz.prog 143 #[.int .u8 (s.op : Int)] (grow (redrawn W p.d) p.os) fun e w'' => e = .returned (.int .u8 (ofK s.op : Int)) ∧ ∃ p' : Regrown, w'' = grow (redrawn W p'.d) p'.os) := Lib.hid fun p => quiet_nw fun w2 hw2 => cof_ok.mono fun e w' ⟨he, hw⟩ => ⟨he, hw ▸ Nw.refl _⟩
  have C2 : Hid (∀ p : Regrown, Calls Tryz.prog 114 #[.pointer (some ⟨g, 0, none⟩), .string ⟨s.obj.toArray⟩, .int .u8 (ofK s.op : Int)] (grow (redrawn W p.d) p.os) fun e w'' => e = .returned (.int .i64 e0) ∧ ∃ p' : Regrown, w'' = grow (redrawn W p'.d) p'.os) := Lib.hid fun p => quiet_nw fun w2 hw2 => by
    have := knamed_ok (hw2.at_ HG.out) (HM.out.nw hw2) s.obj (ofK s.op)
    rw [he0] at this
    exact this.mono fun e w' ⟨he, hw⟩ => ⟨he, hw ▸ Nw.refl _⟩
  clear hg hm hl hne hll hargs hNW hr he0 hop hol hil hli
  simp only [List.length_replicate]
  go_enter Tryz.func115, Tryz.ntmps115
  go_upto_region 1 with fail
  try rw [hW]
  obtain ⟨bb, hbb⟩ : ∃ bb, w.heap.size = bb := ⟨_, rfl⟩
  rw [hbb] at DW ⊢
  obtain ⟨d0, d1, d2, d3, d4, d5, d6, d7, d8, df⟩ := box9 DW.out
  go_upto_region 2 with fail
  have c1' := cellG d1
  have c2' := cellG d2
  clear d0 d1 d2 d3 d4 d5 d6 d7 d8 df
  refine wp_region_quiet_below (by kernel_rfl) (by kernel_rfl) ?_
  repeat (first | go_big_quiet_step (first | with_reducible exact C1.out _ | with_reducible exact C2.out _) | quiet_step (first | with_reducible exact C1.out _ | with_reducible exact C2.out _))
  refine wpQuiet_nil ?_
  intro w2 hw2
  have n2 := Nw.of_regrown hw2
  have N2 : Hid (Nw w w2) := Lib.hid (HNW.out.trans n2)
  have D2 := Lib.hid (n2.at_ DW.out)
  have G2 := Lib.hid (n2.at_ HG.out)
  have L2 := Lib.hid (HL.out.nw n2)
  clear hw2 n2 c1' c2' C1 C2 DW HG HL
  obtain ⟨d0, d1, d2, d3, d4, d5, d6, d7, d8, df⟩ := box9 D2.out
  by_cases c0 : e0 = 0
  · have q0 : (e0 != 0) = false := by simp [c0]
    have hr := HR.out
    rw [if_neg (by simp [c0])] at hr
    simp only at hr
    have HT := Lib.hid (told_flat g (HA.out w2 N2.out))
    have HR2 := Lib.hid hr
    clear HR hr c0
    go_wp2_with fail
    refine HT.out.mono ?_
    rintro z w3 ⟨rfl, n3⟩
    have N3 : Hid (Nw w w3) := Lib.hid (N2.out.trans n3)
    have D3 := Lib.hid (n3.at_ D2.out)
    have G3 := Lib.hid (n3.at_ G2.out)
    have L3 := Lib.hid (L2.out.nw n3)
    clear n3 HT d0 d1 d2 d3 d4 d5 d6 d7 d8 df
    obtain ⟨d0, d1, d2, d3, d4, d5, d6, d7, d8, df⟩ := box9 D3.out
    obtain ⟨g0, g1, gf⟩ := box2 G3.out
    obtain ⟨into, hinto⟩ : ∃ x, s.into = x := ⟨_, rfl⟩
    rw [hinto] at HR2 d3
    by_cases ci : into = []
    · subst ci
      have hlen := L3.out.len 3
      have q1 : decide ((20 : Int) < (l.length : Int)) = false := by have := HLL.out; simp; omega
      have hr := HR2.out
      simp only [if_true] at hr
      rw [if_neg (by have := HLL.out; omega)] at hr
      subst hr
      go_wp2_with fail
      go_ret
      exact ⟨rfl, L3.out, N3.out.only⟩
    · have qi : (into != []) = true := by cases into <;> simp_all
      have qi2 : into.isEmpty = false := by cases into <;> simp_all
      have hr := HR2.out
      rw [if_neg ci] at hr
      obtain ⟨l', hl'⟩ : ∃ l', locPut l into = l' := ⟨_, rfl⟩
      obtain ⟨w4, hput, L4, O4⟩ := (L3.out.nw ((Nw.refl w3).drew)).put into
      rw [hl'] at hr L4
      have HR3 := Lib.hid hr
      have L5 := Lib.hid L4
      have O5 : Hid (Only (fun k => k = ml) w3 w4) := Lib.hid (((Nw.refl w3).drew.only).trans O4)
      clear hr hl' L4 O4 HR2 ci
      go_upto_region 8 with fail
      go_region
      have D4 := Lib.hid (O5.out.at_ D3.out (by omega))
      have G4 := Lib.hid (O5.out.at_ G3.out HNE.out)
      clear hput d0 d1 d2 d3 d4 d5 d6 d7 d8 df g0 g1 gf
      obtain ⟨d0, d1, d2, d3, d4, d5, d6, d7, d8, df⟩ := box9 D4.out
      obtain ⟨g0, g1, gf⟩ := box2 G4.out
      have hlen := L5.out.len 3
      have OO : Hid (Only (fun k => k = ml) w w4) := Lib.hid (N3.out.only.trans O5.out)
      by_cases cl : l'.length > 20
      · have q1 : decide ((20 : Int) < (l'.length : Int)) = true := by simp; omega
        have hr := HR3.out
        rw [if_pos cl] at hr
        subst hr
        go_wp2_with fail
        go_ret
        exact ⟨rfl, L5.out, OO.out⟩
      · have q1 : decide ((20 : Int) < (l'.length : Int)) = false := by simp; omega
        have hr := HR3.out
        rw [if_neg cl] at hr
        subst hr
        go_wp2_with fail
        go_ret
        exact ⟨rfl, L5.out, OO.out⟩
  · have q0 : (e0 != 0) = true := by simp [c0]
    have hr := HR.out
    rw [if_pos (by simp [c0])] at hr
    subst hr
    go_wp2_with fail
    go_ret
    exact ⟨rfl, L2.out, N2.out.only⟩
end Go.Proofs.YtcmaedoolinijaaGreatDoor
