/-
  Texts merged by a program of this claim's: WalkG, FlatPlain.
-/
import Derived.Test.YtcmaedoolinijaaGreatDoorM17
import Derived.Deep.DeepCutAuto
import Derived.Test.YtcmaedoolinijaaGreatDoorM14
namespace Go.Proofs.YtcmaedoolinijaaGreatDoor
open Go Go.RowKit Go.Sort
set_option maxRecDepth 100000
set_option maxHeartbeats 3200000
theorem stsG_append (ask : Bool) : ∀ (a b : List St) (n deep : Nat), stsG ask (a ++ b) n deep = (stsG ask a n deep).bind fun m => stsG ask b m deep
  | [], b, n, deep => by simp [stsG]
  | e :: a, b, n, deep => by
    rw [List.cons_append, stsG, stsG]
    cases stG ask e n deep with
    | none => rfl
    | some m => simp only [Option.bind_some]; exact stsG_append ask a b m deep
theorem stsG_one (ask : Bool) (e : St) (n deep : Nat) : stsG ask [e] n deep = stG ask e n deep := by
  rw [stsG]
  cases stG ask e n deep <;> simp [stsG]
theorem stG_one (ask : Bool) (kind op : Nat) (obj into : List UInt8) (v : Int) (args : List Ex) (body els : List St) (line : Int) (n deep : Nat) :
    stG ask (.mk kind op obj into v args body els line) n deep = (((oneR deep ask (shapeN kind op obj into v args.length body.length els.length) (some n)).bind fun m => exsG ask args m (deep + 1)).bind fun m => stsG ask body m (deep + 1)).bind fun m => stsG ask els m (deep + 1) := by
  rw [stG]
  unfold oneR
  simp only [Option.bind_some]
  split
  · rfl
  · simp only [Option.bind_some]
    cases exsG ask args (n + 1) (deep + 1) <;> rfl
theorem stclo_ok {w : World} (hM : Mx w) {eb kd op na nb ne c5 c6 c7 : Nat} {a5 a6 a7 : Option Addr} {obj into : List UInt8} {nv line : Int} (ho : obj.length ≤ 9223372036854775807) (hi : into.length ≤ 9223372036854775807) (hna : na ≤ 9223372036854775807) (hin : nb + ne ≤ 9223372036854775807)
    (hb : w.heap[eb]? = some (.cells (stA kd op obj into nv a5 na c5 a6 nb c6 a7 ne c7 line) 144 (0, 0))) :
    Calls Tryz.prog 111 #[.pointer (some ⟨eb, 0, none⟩)] w fun z w' => z = .returned (.bool (shapeN kd op obj into nv na nb ne)) ∧ Nw w w' := by
  have AL := Lib.hid (shape_ok hM (kd := kd) (op := op) (a5 := a5) (c5 := c5) (a6 := a6) (c6 := c6) (a7 := a7) (c7 := c7) (nv := nv) (line := line) ho hi hna hin)
  unfold stA at hb AL
  obtain ⟨b0, b1, b2, b3, b4, b5, b6, b7, b8, bf⟩ := box9 hb
  have hlt := lt_of_block hb
  clear hb hM
  go_enter Tryz.func111, Tryz.ntmps111
  go_wp2_with fail
  refine AL.out.mono ?_
  rintro z w1 ⟨rfl, n1⟩
  have N1 := Lib.hid n1
  clear n1
  go_wp2_with fail
  go_ret
  exact ⟨rfl, N1.out⟩
theorem take_stepS {ask : Bool} {l : List St} {o : Option Nat} {deep k : Nat} {e : St} (hk : l[k]? = some e) :
    (o.bind fun n => stsG ask (l.take (k + 1)) n deep) = (o.bind fun n => stsG ask (l.take k) n deep).bind fun m => stG ask e m deep := by
  obtain ⟨hlt, he⟩ := List.getElem?_eq_some_iff.1 hk
  cases o with
  | none => rfl
  | some n =>
    simp only [Option.bind_some]
    rw [List.take_succ_eq_append_getElem hlt, he, stsG_append]
    cases stsG ask (l.take k) n deep with
    | none => rfl
    | some m => simp only [Option.bind_some]; exact stsG_one ask e m deep
theorem take_noneS {ask : Bool} {l : List St} {o : Option Nat} {deep k : Nat} (h : (o.bind fun n => stsG ask (l.take k) n deep) = none) : (o.bind fun n => stsG ask l n deep) = none := by
  cases o with
  | none => rfl
  | some n =>
    simp only [Option.bind_some] at h ⊢
    rw [← List.take_append_drop k l, stsG_append, h]
    rfl
def StmtsOk (N : Nat) : Prop := ∀ (w : World) (g : Nat) (ask : Bool) (o : Option Nat) (deep : Nat) (v : Value) (l : List St), SizeOf.sizeOf l ≤ N → WkS w g ask o → Mx w → ¬ 0 = g → StsM w v l → deep ≤ 21 →
    Calls Tryz.prog 71 #[.pointer (some ⟨g, 0, none⟩), v, .int .i64 (deep : Int)] w fun z w' => z = .returned (.tuple #[]) ∧ WkS w' g ask (o.bind fun n => stsG ask l n deep) ∧ Only (fun k => k = g) w w'
theorem stmts_all (N : Nat) : StmtsOk N := by
  induction N with
  | zero => intro w g ask o deep v l hN; exact absurd hN (by cases l <;> simp)
  | succ N ih =>
    intro w g ask o deep v l hN hK hM hg hL hd
    obtain ⟨a0, c0, rfl, hc0, hm0, -⟩ := RdK.len hL
    have hm0' : c0 ≤ 9223372036854775807 := by unfold maxLen at hm0; omega
    have HK := Lib.hid hK
    have HM := Lib.hid hM
    have HG := Lib.hid hg
    have HL := Lib.hid hL
    have HD := Lib.hid hd
    have HN := Lib.hid hN
    have IH := Lib.hid ih
    obtain ⟨no, hno⟩ : ∃ n, l.length = n := ⟨_, rfl⟩
    have NO := Lib.hid hno
    rw [hno] at hc0 HL ⊢
    have hin1 := enters_of Tryz.func111 (by kernel_rfl) rfl
    clear hK hM hg hL hno hN ih
    go_enter Tryz.func71, Tryz.ntmps71
    go_wp2_with fail
    go_loopw [10] (fun v wr => ∃ k : Nat, k ≤ no ∧ v = .int .i64 k ∧ WkS wr g ask (o.bind fun n => stsG ask (l.take k) n deep) ∧ Only (fun k => k = g) w wr) (fun v _ => no - (intOf v).toNat)
    case atStart => exact ⟨0, by omega, rfl, by have := HK.out; cases o <;> simpa [stsG] using this, Only.refl _⟩
    case round =>
      obtain ⟨k, hk, rfl, hs, hw⟩ := hrel
      have HS := Lib.hid hs
      have HW := Lib.hid hw
      clear hs hw
      by_cases hkn : k < no
      · have q : decide ((k : Int) < (no : Int)) = true := by simp; omega
        have hkl : k < l.length := by have := NO.out; omega
        have hLr := StsM.off HK.out.thin HW.out HL.out
        rcases hLr with ⟨a, -, e2⟩ | ⟨gv, ov, cap, e1, -, -, hgv, h3⟩
        · rw [e2] at NO; exact absurd NO.out (by simp; omega)
        obtain ⟨rfl, -, rfl⟩ : a0 = some ⟨gv, ov, none⟩ ∧ no = l.length ∧ c0 = cap := by simpa using e1
        obtain ⟨cs, -, hc, hd'⟩ := h3 k hkl
        obtain ⟨e, hee⟩ : ∃ e, l[k]'hkl = e := ⟨_, rfl⟩
        rw [hee] at hd'
        obtain ⟨kd, op, obj, into, nv, args, body, els, line⟩ := e
        rw [StM.mk_iff] at hd'
        obtain ⟨v5, v6, v7, rfl, hkd, hop, hol, hil, hnv, hli, hbe, hargs, hbody, hels⟩ := hd'
        obtain ⟨a5, c5, rfl, hc5, hm5, -⟩ := RdK.len hargs
        obtain ⟨a6, c6, rfl, hc6, hm6, -⟩ := RdK.len hbody
        obtain ⟨a7, c7, rfl, hc7, hm7, -⟩ := RdK.len hels
        have hm5' : args.length ≤ 9223372036854775807 := by unfold maxLen at hm5; omega
        have e0 := hc 0 (by simp)
        have e1' := hc 1 (by simp)
        have e2 := hc 2 (by simp)
        have e3 := hc 3 (by simp)
        have e4 := hc 4 (by simp)
        have e5 := hc 5 (by simp)
        have e6 := hc 6 (by simp)
        have e7 := hc 7 (by simp)
        have e8 := hc 8 (by simp)
        simp only [List.getElem_cons_zero, List.getElem_cons_succ, Nat.add_zero] at e0 e1' e2 e3 e4 e5 e6 e7 e8
        have hgl : gv < wr.heap.size := hgv
        have hmem : SizeOf.sizeOf body ≤ N ∧ SizeOf.sizeOf els ≤ N := by
          have h1 : SizeOf.sizeOf (St.mk kd op obj into nv args body els line) < SizeOf.sizeOf l := List.sizeOf_lt_of_mem (by rw [← hee]; exact List.getElem_mem hkl)
          have h2 := HN.out
          simp at h1
          omega
        have HSTEP := Lib.hid (take_stepS (ask := ask) (o := o) (deep := deep) (k := k) (e := .mk kd op obj into nv args body els line) (l := l) (by rw [List.getElem?_eq_getElem hkl, hee]))
        have HME := Lib.hid hmem
        have HAR := Lib.hid hargs
        have HBO := Lib.hid hbody
        have HEL := Lib.hid hels
        have HOL := Lib.hid hol
        have HIL := Lib.hid hil
        have HBE := Lib.hid hbe
        obtain ⟨na, hna⟩ : ∃ n, args.length = n := ⟨_, rfl⟩
        obtain ⟨nb, hnb⟩ : ∃ n, body.length = n := ⟨_, rfl⟩
        obtain ⟨ne, hne⟩ : ∃ n, els.length = n := ⟨_, rfl⟩
        have NA := Lib.hid hna
        have NB := Lib.hid hnb
        have NE := Lib.hid hne
        rw [hna] at HAR hc5 hm5' e5
        rw [hnb] at HBO hc6 HBE e6
        rw [hne] at HEL hc7 HBE e7
        clear hc h3 e1 hee hgv hmem hargs hbody hels hol hil hbe hnv hkd hna hnb hne hop hli
        go_upto_region 3 with fail
        have A2 := heap_alloc_new wr (.cells #[.int .u8 (kd : Int), .int .u8 (op : Int), .string ⟨obj.toArray⟩, .string ⟨into.toArray⟩, .int .i64 nv, .slice a5 na c5, .slice a6 nb c6, .slice a7 ne c7, .int .i64 line] 144)
        have n2 := Nw.alloc (Nw.refl wr) (.cells #[.int .u8 (kd : Int), .int .u8 (op : Int), .string ⟨obj.toArray⟩, .string ⟨into.toArray⟩, .int .i64 nv, .slice a5 na c5, .slice a6 nb c6, .slice a7 ne c7, .int .i64 line] 144)
        obtain ⟨w2, hw2⟩ : ∃ w2, wr.alloc (.cells #[.int .u8 (kd : Int), .int .u8 (op : Int), .string ⟨obj.toArray⟩, .string ⟨into.toArray⟩, .int .i64 nv, .slice a5 na c5, .slice a6 nb c6, .slice a7 ne c7, .int .i64 line] 144) = w2 := ⟨_, rfl⟩
        obtain ⟨eb, heb⟩ : ∃ eb, wr.heap.size = eb := ⟨_, rfl⟩
        have hne : eb ≠ g := by have := HS.out.lt; omega
        rw [hw2, heb] at A2
        rw [hw2] at n2
        rw [hw2, heb]
        have A3 := Lib.hid A2
        have S2 := Lib.hid (HS.out.nw n2)
        have W2 : Hid (Only (fun k => k = g) w w2) := Lib.hid (HW.out.trans n2.only)
        have AR2 : Hid (ExsM w2 (.slice a5 na c5) args) := Lib.hid (HAR.out.off Thin.none n2)
        have BO2 : Hid (StsM w2 (.slice a6 nb c6) body) := Lib.hid (HBO.out.off Thin.none n2)
        have EL2 : Hid (StsM w2 (.slice a7 ne c7) els) := Lib.hid (HEL.out.off Thin.none n2)
        have HNE := Lib.hid hne
        clear A2 n2 hw2 heb HS HW HAR HBO HEL e0 e1' e2 e3 e4 e5 e6 e7 e8 hgl hne
        have OO := Lib.hid (one_ok (deep := deep) S2.out (c := 111) (p := .pointer (some ⟨eb, 0, none⟩)) (b := shapeN kd op obj into nv na nb ne) (fun _ W hW => stclo_ok ((HM.out.on W2.out HG.out).on hW HG.out) HOL.out HIL.out hm5' HBE.out (hW.at_ A3.out HNE.out)) hin1)
        go_wp2_with fail
        refine OO.out.mono ?_
        rintro z w3 ⟨rfl, S3, O3⟩
        have A4 := Lib.hid (O3.at_ A3.out HNE.out)
        have W3 : Hid (Only (fun k => k = g) w w3) := Lib.hid (W2.out.trans O3)
        have AR3 : Hid (ExsM w3 (.slice a5 na c5) args) := Lib.hid (AR2.out.off S2.out.thin O3)
        have BO3 : Hid (StsM w3 (.slice a6 nb c6) body) := Lib.hid (BO2.out.off S2.out.thin O3)
        have EL3 : Hid (StsM w3 (.slice a7 ne c7) els) := Lib.hid (EL2.out.off S2.out.thin O3)
        obtain ⟨E, hE⟩ : ∃ E, (o.bind fun n => stsG ask (l.take k) n deep) = E := ⟨_, rfl⟩
        have HEE := Lib.hid hE
        rw [hE] at S3 ⊢
        obtain ⟨R, hR⟩ : ∃ R, oneR deep ask (shapeN kd op obj into nv na nb ne) E = R := ⟨_, rfl⟩
        have HRR := Lib.hid hR
        rw [hR] at S3 ⊢
        have HS3 := Lib.hid S3
        have EX : Hid ((o.bind fun n => stsG ask (l.take (k + 1)) n deep) = ((R.bind fun m => exsG ask args m (deep + 1)).bind fun m => stsG ask body m (deep + 1)).bind fun m => stsG ask els m (deep + 1)) := Lib.hid (by
          rw [HSTEP.out, hE, ← hR]
          cases E with
          | none => rfl
          | some n => simp only [Option.bind_some]; rw [stG_one, NA.out, NB.out, NE.out])
        clear OO S3 hE hR O3 A3 S2 W2 AR2 BO2 EL2
        cases R with
        | none =>
          go_wp2_with fail
          refine bodyPost_ret (v := .tuple #[]) (by simp [results, Tryz.results71, go_sem]) rfl ⟨rfl, ?_, W3.out⟩
          rw [take_noneS (k := k + 1) EX.out]
          exact HS3.out
        | some n1 =>
          have hd20 : deep ≤ 20 := by
            have h := HRR.out
            unfold oneR at h
            cases E with
            | none => simp at h
            | some n =>
              simp only [Option.bind_some] at h
              split at h
              · cases h
              · omega
          have hdw : IntKind.i64.wrap ((deep : Int) + 1) = (deep : Int) + 1 := IntWalk.i64_in _ (by omega)
          have HD20 := Lib.hid hd20
          have ex1 := exprs_all _ w3 g ask (some n1) (deep + 1) (.slice a5 na c5) args (Nat.le_refl _) HS3.out (HM.out.on W3.out HG.out) HG.out AR3.out (by omega)
          rw [show ((deep + 1 : Nat) : Int) = (deep : Int) + 1 from by omega] at ex1
          have EK := Lib.hid ex1
          obtain ⟨b0, b1, b2, b3, b4, b5, b6, b7, b8, bf⟩ := box9 A4.out
          obtain ⟨O1, hO1⟩ : ∃ O1, ((some n1 : Option Nat).bind fun m => exsG ask args m (deep + 1)) = O1 := ⟨_, rfl⟩
          rw [hO1] at EK EX
          clear ex1 hd20 hO1
          go_wp2_with fail
          refine EK.out.mono ?_
          rintro z w4 ⟨rfl, S4, O4⟩
          have A5 := Lib.hid (O4.at_ A4.out HNE.out)
          have S5 := Lib.hid S4
          have W5 : Hid (Only (fun k => k = g) w w4) := Lib.hid (W3.out.trans O4)
          have BO4 : Hid (StsM w4 (.slice a6 nb c6) body) := Lib.hid (BO3.out.off HS3.out.thin O4)
          have EL4 : Hid (StsM w4 (.slice a7 ne c7) els) := Lib.hid (EL3.out.off HS3.out.thin O4)
          clear S4 O4 b0 b1 b2 b3 b4 b5 b6 b7 b8 bf EK A4
          have s1 := IH.out w4 g ask O1 (deep + 1) (.slice a6 nb c6) body HME.out.1 S5.out (HM.out.on W5.out HG.out) HG.out BO4.out (by have := HD20.out; omega)
          rw [show ((deep + 1 : Nat) : Int) = (deep : Int) + 1 from by omega] at s1
          have SK := Lib.hid s1
          obtain ⟨O2, hO2⟩ : ∃ O2, (O1.bind fun m => stsG ask body m (deep + 1)) = O2 := ⟨_, rfl⟩
          rw [hO2] at SK EX
          clear s1 hO2
          obtain ⟨b0, b1, b2, b3, b4, b5, b6, b7, b8, bf⟩ := box9 A5.out
          go_wp2_with fail
          refine SK.out.mono ?_
          rintro z w5 ⟨rfl, S4, O4⟩
          have A6 := Lib.hid (O4.at_ A5.out HNE.out)
          have S6 := Lib.hid S4
          have W6 : Hid (Only (fun k => k = g) w w5) := Lib.hid (W5.out.trans O4)
          have EL5 : Hid (StsM w5 (.slice a7 ne c7) els) := Lib.hid (EL4.out.off S5.out.thin O4)
          clear S4 O4 b0 b1 b2 b3 b4 b5 b6 b7 b8 bf SK A5
          have s1 := IH.out w5 g ask O2 (deep + 1) (.slice a7 ne c7) els HME.out.2 S6.out (HM.out.on W6.out HG.out) HG.out EL5.out (by have := HD20.out; omega)
          rw [show ((deep + 1 : Nat) : Int) = (deep : Int) + 1 from by omega, ← EX.out] at s1
          have SK := Lib.hid s1
          clear s1
          obtain ⟨b0, b1, b2, b3, b4, b5, b6, b7, b8, bf⟩ := box9 A6.out
          go_wp2_with fail
          refine SK.out.mono ?_
          rintro z w6 ⟨rfl, S4, O4⟩
          have S7 := Lib.hid S4
          have W7 : Hid (Only (fun k => k = g) w w6) := Lib.hid (W6.out.trans O4)
          clear S4 O4 b0 b1 b2 b3 b4 b5 b6 b7 b8 bf SK A6
          go_wp2_with fail
          exact ⟨⟨k + 1, by omega, by simp, S7.out, W7.out⟩, by simp [intOf]; omega⟩
      · have q : decide ((k : Int) < (no : Int)) = false := by simp; omega
        have hall := HS.out
        rw [List.take_of_length_le (by have := NO.out; omega)] at hall
        have HA := Lib.hid hall
        clear hall
        go_wp2_with fail
        go_end0
        exact ⟨rfl, HA.out, HW.out⟩
end Go.Proofs.YtcmaedoolinijaaGreatDoor

namespace Go.Proofs.YtcmaedoolinijaaGreatDoor
set_option maxRecDepth 100000
open Go Go.Lib
def nought : Ex := .mk 1 [] 0 []
def stOf (s : Fs) : St := .mk 1 s.op s.obj s.into 0 (List.replicate s.nargs nought) [] [] s.line
def thrOf (t : Thr) : ThrG := ⟨t.name, t.body.map stOf, t.line⟩
theorem exG_nought (ask : Bool) (n deep : Nat) (hd : deep ≤ 20) : exG ask nought n deep = if n + 1 > 1000 then none else some (n + 1) := by
  unfold nought
  rw [exG]
  have h : aloneB 1 [] 0 0 = true := by decide
  simp only [List.length_nil, h, Bool.not_true, Bool.and_false, exsG]
  by_cases c : n + 1 > 1000
  · simp [c]
  · have c1 : ¬ deep > 20 := by omega
    simp [c, c1]
theorem exsG_nought (ask : Bool) (deep : Nat) (hd : deep ≤ 20) : ∀ (k n : Nat), n ≤ 1000 → exsG ask (List.replicate k nought) n deep = if n + k > 1000 then none else some (n + k)
  | 0, n, hn => by
    have : ¬ n > 1000 := by omega
    simp only [List.replicate_zero, exsG, Nat.add_zero, if_neg this]
  | k + 1, n, hn => by
    rw [List.replicate_succ, exsG, exG_nought _ _ _ hd]
    by_cases c : n + 1 > 1000
    · rw [if_pos c, if_pos (by omega)]; rfl
    · rw [if_neg c, Option.bind_some, exsG_nought ask deep hd k (n + 1) (by omega)]
      by_cases c2 : n + 1 + k > 1000
      · rw [if_pos c2, if_pos (by omega)]
      · rw [if_neg c2, if_neg (by omega), show n + 1 + k = n + (k + 1) from by omega]
theorem shapeN_flat (s : Fs) : shapeN 1 s.op s.obj s.into 0 s.nargs 0 0 = shapeB s := by
  unfold shapeN shapeB
  by_cases c : intoB s.op <;> simp [c, Bool.and_assoc, Bool.and_comm]
theorem stG_flat (ask : Bool) (s : Fs) (n : Nat) : stG ask (stOf s) n 1 = if (decide (n + 1 > 1000) || ask && !shapeB s) = true then none else if n + 1 + s.nargs > 1000 then none else some (n + 1 + s.nargs) := by
  unfold stOf
  rw [stG]
  simp only [List.length_replicate, List.length_nil, shapeN_flat]
  by_cases c : (decide (n + 1 > 1000) || ask && !shapeB s) = true
  · rw [if_pos c, if_pos]
    simp only [Bool.or_eq_true, decide_eq_true_eq] at c
    rcases c with c | c
    · exact .inl c
    · exact .inr (.inr c)
  · rw [if_neg c, if_neg]
    · simp only [Bool.or_eq_true, decide_eq_true_eq, not_or] at c
      rw [exsG_nought ask 2 (by omega) _ _ (by omega)]
      by_cases c2 : n + 1 + s.nargs > 1000
      · rw [if_pos c2]; rfl
      · rw [if_neg c2]; simp [stsG]
    · simp only [Bool.or_eq_true, decide_eq_true_eq, not_or] at c ⊢
      exact ⟨c.1, by omega, c.2⟩
theorem stsG_flat (ask : Bool) : ∀ (l : List Fs) (n : Nat), n ≤ 1000 → stsG ask (l.map stOf) n 1 = if (walkS ask (n, false) l).2 then none else some (walkS ask (n, false) l).1
  | [], n, _ => by simp [stsG, walkS]
  | s :: l, n, hn => by
    rw [List.map_cons, stsG, stG_flat, walkS]
    simp only [Bool.false_or]
    by_cases c : (decide (n + 1 > 1000) || ask && !shapeB s) = true
    · rw [if_pos c, if_pos c]; rfl
    · rw [if_neg c, if_neg c]
      by_cases c2 : n + 1 + s.nargs > 1000
      · rw [if_pos c2, if_pos c2]; rfl
      · rw [if_neg c2, if_neg c2, Option.bind_some]
        exact stsG_flat ask l _ (by omega)
theorem walkS_le (ask : Bool) : ∀ (l : List Fs) (n : Nat), n ≤ 1000 → (walkS ask (n, false) l).2 = false → (walkS ask (n, false) l).1 ≤ 1000
  | [], n, hn, _ => by simpa [walkS] using hn
  | s :: l, n, hn, h => by
    rw [walkS] at h ⊢
    simp only [Bool.false_or] at h ⊢
    by_cases c : (decide (n + 1 > 1000) || ask && !shapeB s) = true
    · rw [if_pos c] at h; cases h
    · rw [if_neg c] at h ⊢
      by_cases c2 : n + 1 + s.nargs > 1000
      · rw [if_pos c2] at h; cases h
      · rw [if_neg c2] at h ⊢
        exact walkS_le ask l _ (by omega) h
theorem walkT_true (ask : Bool) : ∀ (ts : List Thr) (n : Nat), (walkT ask (n, true) ts).2 = true
  | [], n => rfl
  | t :: l, n => by
    rw [walkT]
    simp only [Bool.true_or, if_true]
    exact walkT_true ask l n
theorem thrsG_flat (ask : Bool) : ∀ (ts : List Thr) (n : Nat), n ≤ 1000 → (thrsG ask (ts.map thrOf) n).isSome = !(walkT ask (n, false) ts).2
  | [], n, _ => by simp [thrsG, walkT]
  | t :: l, n, hn => by
    rw [List.map_cons, thrsG, walkT]
    simp only [Bool.false_or]
    change (if (ask && !nameB t.name) = true then none else (stsG ask (t.body.map stOf) n 1).bind fun m => thrsG ask (l.map thrOf) m).isSome = _
    by_cases c : (ask && !nameB t.name) = true
    · rw [if_pos c, if_pos c, walkT_true]; rfl
    · rw [if_neg c, if_neg c, stsG_flat _ _ _ hn]
      cases hb : (walkS ask (n, false) t.body).2 with
      | true =>
        generalize walkS ask (n, false) t.body = r at hb
        obtain ⟨a, b⟩ := r
        obtain rfl : b = true := hb
        rw [walkT_true]; rfl
      | false =>
        have hl := walkS_le ask _ _ hn hb
        generalize walkS ask (n, false) t.body = r at hb hl
        obtain ⟨a, b⟩ := r
        obtain rfl : b = false := hb
        simp only [Bool.false_eq_true, if_false, Option.bind_some]
        exact thrsG_flat ask l _ hl
theorem rightG_flat (ask : Bool) (os : List Dcl) (ts : List Thr) : rightG ask os (ts.map thrOf) = rightB ask os ts := by
  unfold rightG rightB
  rw [List.length_map, thrsG_flat _ _ _ (by omega)]
  have e : (os.any fun d => ask && !objectB d) = !(os.all fun d => !ask || objectB d) := by
    induction os with
    | nil => rfl
    | cons d l ih => rw [List.any_cons, List.all_cons, ih]; cases ask <;> simp
  rw [e]
  by_cases c1 : os.length > 64
  · have c1' : ¬ os.length ≤ 64 := by omega
    rw [decide_eq_true c1, decide_eq_false c1', Bool.true_or, Bool.true_or, walkT_true]; simp
  · have c1' : os.length ≤ 64 := by omega
    rw [decide_eq_false c1, decide_eq_true c1']
    by_cases c2 : ts.length > 16
    · have c2' : ¬ ts.length ≤ 16 := by omega
      rw [decide_eq_true c2, decide_eq_false c2', Bool.false_or, Bool.true_or, walkT_true]; simp
    · have c2' : ts.length ≤ 16 := by omega
      rw [decide_eq_false c2, decide_eq_true c2']
      cases h : os.all fun d => !ask || objectB d with
      | true => simp
      | false =>
        simp only [Bool.false_or, Bool.not_false, Bool.true_and, Bool.false_and, walkT_true, Bool.not_true]
end Go.Proofs.YtcmaedoolinijaaGreatDoor
