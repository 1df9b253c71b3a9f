/-
  Texts merged by a program of this claim's: WalkC.
-/
import Derived.Test.YtcmaedoolinijaaGreatDoorM14
import Derived.Deep.DeepCutAuto
namespace Go.Proofs.YtcmaedoolinijaaGreatDoor
open Go Go.RowKit Go.Sort
set_option maxRecDepth 100000
set_option maxHeartbeats 3200000
theorem exsG_append (ask : Bool) : ∀ (a b : List Ex) (n deep : Nat), exsG ask (a ++ b) n deep = (exsG ask a n deep).bind fun m => exsG ask b m deep
  | [], b, n, deep => by simp [exsG]
  | e :: a, b, n, deep => by
    rw [List.cons_append, exsG, exsG]
    cases exG ask e n deep with
    | none => rfl
    | some m => simp only [Option.bind_some]; exact exsG_append ask a b m deep
theorem exsG_one (ask : Bool) (e : Ex) (n deep : Nat) : exsG ask [e] n deep = exG ask e n deep := by
  rw [exsG]
  cases exG ask e n deep <;> simp [exsG]
theorem exG_one (ask : Bool) (k : Nat) (s : List UInt8) (v : Int) (kids : List Ex) (n deep : Nat) : exG ask (.mk k s v kids) n deep = (oneR deep ask (aloneB k s v kids.length) (some n)).bind fun m => exsG ask kids m (deep + 1) := by
  rw [exG]
  unfold oneR
  simp only [Option.bind_some]
  split <;> rfl
theorem exclo_ok {w : World} (hM : Mx w) {eb k : Nat} {s : List UInt8} (hl : s.length ≤ 9223372036854775807) {n : Int} {a : Option Addr} {m c : Nat} (hm : m ≤ 9223372036854775807) (hb : w.heap[eb]? = some (.cells (exA k s n a m c) 132 (0, 0))) :
    Calls Tryz.prog 141 #[.pointer (some ⟨eb, 0, none⟩)] w fun z w' => z = .returned (.bool (aloneB k s n m)) ∧ Nw w w' := by
  have AL := Lib.hid (alone_ok hM (k := k) hl (n := n) (a := a) (c := c) hm)
  unfold exA at hb AL
  obtain ⟨b0, b1, b2, b3, bf⟩ := box4 hb
  have hlt := lt_of_block hb
  clear hb hM
  go_enter Tryz.func141, Tryz.ntmps141
  go_wp2_with fail
  refine AL.out.mono ?_
  rintro z w1 ⟨rfl, n1⟩
  have N1 := Lib.hid n1
  clear n1
  go_wp2_with fail
  go_ret
  exact ⟨rfl, N1.out⟩
theorem take_step {ask : Bool} {l : List Ex} {o : Option Nat} {deep k : Nat} {e : Ex} (hk : l[k]? = some e) :
    (o.bind fun n => exsG ask (l.take (k + 1)) n deep) = (o.bind fun n => exsG ask (l.take k) n deep).bind fun m => exG ask e m deep := by
  obtain ⟨hlt, he⟩ := List.getElem?_eq_some_iff.1 hk
  cases o with
  | none => rfl
  | some n =>
    simp only [Option.bind_some]
    rw [List.take_succ_eq_append_getElem hlt, he, exsG_append]
    cases exsG ask (l.take k) n deep with
    | none => rfl
    | some m => simp only [Option.bind_some]; exact exsG_one ask e m deep
theorem take_none {ask : Bool} {l : List Ex} {o : Option Nat} {deep k : Nat} (h : (o.bind fun n => exsG ask (l.take k) n deep) = none) : (o.bind fun n => exsG ask l n deep) = none := by
  cases o with
  | none => rfl
  | some n =>
    simp only [Option.bind_some] at h ⊢
    rw [← List.take_append_drop k l, exsG_append, h]
    rfl
def ExprsOk (N : Nat) : Prop := ∀ (w : World) (g : Nat) (ask : Bool) (o : Option Nat) (deep : Nat) (v : Value) (l : List Ex), SizeOf.sizeOf l ≤ N → WkS w g ask o → Mx w → ¬ 0 = g → ExsM w v l → deep ≤ 21 →
    Calls Tryz.prog 113 #[.pointer (some ⟨g, 0, none⟩), v, .int .i64 (deep : Int)] w fun z w' => z = .returned (.tuple #[]) ∧ WkS w' g ask (o.bind fun n => exsG ask l n deep) ∧ Only (fun k => k = g) w w'
theorem exprs_all (N : Nat) : ExprsOk N := by
  induction N with
  | zero => intro w g ask o deep v l hN; exact absurd hN (by cases l <;> simp)
  | succ N ih =>
    intro w g ask o deep v l hN hK hM hg hL hd
    obtain ⟨a0, c0, rfl, hc0, hm0, -⟩ := RdK.len hL
    have hm0' : c0 ≤ 9223372036854775807 := by unfold maxLen at hm0; omega
    have HK := Lib.hid hK
    have HM := Lib.hid hM
    have HG := Lib.hid hg
    have HL := Lib.hid hL
    have HD := Lib.hid hd
    have HN := Lib.hid hN
    have IH := Lib.hid ih
    obtain ⟨no, hno⟩ : ∃ n, l.length = n := ⟨_, rfl⟩
    have NO := Lib.hid hno
    rw [hno] at hc0 HL ⊢
    have hin1 := enters_of Tryz.func141 (by kernel_rfl) rfl
    clear hK hM hg hL hno hN ih
    go_enter Tryz.func113, Tryz.ntmps113
    go_wp2_with fail
    go_loopw [10] (fun v wr => ∃ k : Nat, k ≤ no ∧ v = .int .i64 k ∧ WkS wr g ask (o.bind fun n => exsG ask (l.take k) n deep) ∧ Only (fun k => k = g) w wr) (fun v _ => no - (intOf v).toNat)
    case atStart => exact ⟨0, by omega, rfl, by have := HK.out; cases o <;> simpa [exsG] using this, Only.refl _⟩
    case round =>
      obtain ⟨k, hk, rfl, hs, hw⟩ := hrel
      have HS := Lib.hid hs
      have HW := Lib.hid hw
      clear hs hw
      by_cases hkn : k < no
      · have q : decide ((k : Int) < (no : Int)) = true := by simp; omega
        have hkl : k < l.length := by have := NO.out; omega
        have hLr := ExsM.off HK.out.thin HW.out HL.out
        rcases hLr with ⟨a, -, e2⟩ | ⟨gv, ov, cap, e1, -, -, hgv, h3⟩
        · rw [e2] at NO; exact absurd NO.out (by simp; omega)
        obtain ⟨rfl, -, rfl⟩ : a0 = some ⟨gv, ov, none⟩ ∧ no = l.length ∧ c0 = cap := by simpa using e1
        obtain ⟨cs, -, hc, hd'⟩ := h3 k hkl
        obtain ⟨e, hee⟩ : ∃ e, l[k]'hkl = e := ⟨_, rfl⟩
        rw [hee] at hd'
        obtain ⟨kd, s, nv, kids⟩ := e
        rw [ExM.mk_iff] at hd'
        obtain ⟨v3, rfl, hkd, hsl, hnv, hkids⟩ := hd'
        obtain ⟨a3, c3, rfl, hc3, hm3, -⟩ := RdK.len hkids
        have hm3' : kids.length ≤ 9223372036854775807 := by unfold maxLen at hm3; omega
        have e0 := hc 0 (by simp)
        have e1' := hc 1 (by simp)
        have e2 := hc 2 (by simp)
        have e3 := hc 3 (by simp)
        simp only [List.getElem_cons_zero, List.getElem_cons_succ, Nat.add_zero] at e0 e1' e2 e3
        have hgl : gv < wr.heap.size := hgv
        have hmem : SizeOf.sizeOf kids ≤ N := by
          have h1 : SizeOf.sizeOf (Ex.mk kd s nv kids) < SizeOf.sizeOf l := List.sizeOf_lt_of_mem (by rw [← hee]; exact List.getElem_mem hkl)
          have h2 := HN.out
          simp at h1
          omega
        have HSTEP := Lib.hid (take_step (ask := ask) (o := o) (deep := deep) (k := k) (e := .mk kd s nv kids) (l := l) (by rw [List.getElem?_eq_getElem hkl, hee]))
        have HME := Lib.hid hmem
        have HKI := Lib.hid hkids
        have HSL := Lib.hid hsl
        obtain ⟨nk, hnk⟩ : ∃ n, kids.length = n := ⟨_, rfl⟩
        have NK := Lib.hid hnk
        rw [hnk] at HKI hc3 hm3'
        rw [hnk] at e3
        clear hc h3 e1 hee hgv hmem hkids hsl hnv hkd hnk
        go_upto_region 3 with fail
        have A2 := heap_alloc_new wr (.cells #[.int .u8 (kd : Int), .string ⟨s.toArray⟩, .int .i64 nv, .slice a3 nk c3] 132)
        have n2 := Nw.alloc (Nw.refl wr) (.cells #[.int .u8 (kd : Int), .string ⟨s.toArray⟩, .int .i64 nv, .slice a3 nk c3] 132)
        obtain ⟨w2, hw2⟩ : ∃ w2, wr.alloc (.cells #[.int .u8 (kd : Int), .string ⟨s.toArray⟩, .int .i64 nv, .slice a3 nk c3] 132) = w2 := ⟨_, rfl⟩
        obtain ⟨eb, heb⟩ : ∃ eb, wr.heap.size = eb := ⟨_, rfl⟩
        have hne : eb ≠ g := by have := HS.out.lt; omega
        rw [hw2, heb] at A2
        rw [hw2] at n2
        rw [hw2, heb]
        have A3 := Lib.hid A2
        have S2 := Lib.hid (HS.out.nw n2)
        have W2 : Hid (Only (fun k => k = g) w w2) := Lib.hid (HW.out.trans n2.only)
        have KI2 : Hid (ExsM w2 (.slice a3 nk c3) kids) := Lib.hid (HKI.out.off Thin.none n2)
        have HNE := Lib.hid hne
        clear A2 n2 hw2 heb HS HW HKI e0 e1' e2 e3 hgl hne
        have OO := Lib.hid (one_ok (deep := deep) S2.out (c := 141) (p := .pointer (some ⟨eb, 0, none⟩)) (b := aloneB kd s nv nk) (fun _ W hW => exclo_ok ((HM.out.on W2.out HG.out).on hW HG.out) HSL.out hm3' (hW.at_ A3.out HNE.out)) hin1)
        go_wp2_with fail
        refine OO.out.mono ?_
        rintro z w3 ⟨rfl, S3, O3⟩
        have A4 := Lib.hid (O3.at_ A3.out HNE.out)
        have W3 : Hid (Only (fun k => k = g) w w3) := Lib.hid (W2.out.trans O3)
        have KI3 : Hid (ExsM w3 (.slice a3 nk c3) kids) := Lib.hid (KI2.out.off S2.out.thin O3)
        obtain ⟨E, hE⟩ : ∃ E, (o.bind fun n => exsG ask (l.take k) n deep) = E := ⟨_, rfl⟩
        have HEE := Lib.hid hE
        rw [hE] at S3 ⊢
        obtain ⟨R, hR⟩ : ∃ R, oneR deep ask (aloneB kd s nv nk) E = R := ⟨_, rfl⟩
        have HRR := Lib.hid hR
        rw [hR] at S3 ⊢
        have HS3 := Lib.hid S3
        have EX : Hid ((o.bind fun n => exsG ask (l.take (k + 1)) n deep) = R.bind fun m => exsG ask kids m (deep + 1)) := Lib.hid (by
          rw [HSTEP.out, hE, ← hR]
          cases E with
          | none => rfl
          | some n => simp only [Option.bind_some]; rw [exG_one, NK.out])
        clear OO S3 hE hR O3 A3 S2 W2 KI2
        cases R with
        | none =>
          go_wp2_with fail
          refine bodyPost_ret (v := .tuple #[]) (by simp [results, Tryz.results113, go_sem]) rfl ⟨rfl, ?_, W3.out⟩
          rw [take_none (k := k + 1) EX.out]
          exact HS3.out
        | some n1 =>
          have hd20 : deep ≤ 20 := by
            have h := HRR.out
            unfold oneR at h
            cases E with
            | none => simp at h
            | some n =>
              simp only [Option.bind_some] at h
              split at h
              · cases h
              · omega
          have hdw : IntKind.i64.wrap ((deep : Int) + 1) = (deep : Int) + 1 := IntWalk.i64_in _ (by omega)
          have IHk := IH.out w3 g ask (some n1) (deep + 1) (.slice a3 nk c3) kids HME.out HS3.out (HM.out.on W3.out HG.out) HG.out KI3.out (by omega)
          rw [show ((deep + 1 : Nat) : Int) = (deep : Int) + 1 from by omega, ← EX.out] at IHk
          have IK := Lib.hid IHk
          obtain ⟨b0, b1, b2, b3, bf⟩ := box4 A4.out
          clear IHk hd20
          go_wp2_with fail
          refine IK.out.mono ?_
          rintro z w4 ⟨rfl, S4, O4⟩
          have S5 := Lib.hid S4
          have W5 : Hid (Only (fun k => k = g) w w4) := Lib.hid (W3.out.trans O4)
          clear S4 O4 b0 b1 b2 b3 bf IK
          go_wp2_with fail
          exact ⟨⟨k + 1, by omega, by simp, S5.out, W5.out⟩, by simp [intOf]; omega⟩
      · have q : decide ((k : Int) < (no : Int)) = false := by simp; omega
        have hall := HS.out
        rw [List.take_of_length_le (by have := NO.out; omega)] at hall
        have HA := Lib.hid hall
        clear hall
        go_wp2_with fail
        go_end0
        exact ⟨rfl, HA.out, HW.out⟩
end Go.Proofs.YtcmaedoolinijaaGreatDoor
