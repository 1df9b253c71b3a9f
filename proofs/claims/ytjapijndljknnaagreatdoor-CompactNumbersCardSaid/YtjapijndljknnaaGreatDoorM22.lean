/-
  Texts merged by a program of this claim's: ReadC, ReadD.
-/
import Derived.Test.YtjapijndljknnaaGreatDoorM21
import Derived.Test.YtjapijndljknnaaGreatDoorM17
import Derived.Test.YtjapijndljknnaaGreatDoorShelfS
/-
  Package event, walked: Read.
-/
namespace Go.Proofs.YtjapijndljknnaaGreatDoor
open Go Go.RowKit Go.Sort
set_option maxRecDepth 100000
set_option maxHeartbeats 1600000

theorem infoEv : (Tryz.prog.info? 73).map (fun i => (i.zero, i.size, i.bytes)) = some (some (.agg #[.int .i64 0, .int .u8 0, .int .i64 0, .int .i64 0, .int .i64 0]), 5, 40) := by kernel_rfl
theorem evV_one (l : List Ev) : ∀ u ∈ l.flatMap evV, u.oneCell' = true := fun u hu => by
  obtain ⟨q, -, hq⟩ := List.mem_flatMap.1 hu
  simp only [evV, List.mem_cons, List.not_mem_nil, or_false] at hq
  rcases hq with rfl | rfl | rfl | rfl | rfl <;> rfl
theorem evs_len : ∀ l : List Ev, (l.flatMap evV).length = l.length * 5
  | [] => rfl
  | e :: l => by rw [List.flatMap_cons, List.length_append, evs_len l, List.length_cons]; simp [evV]; omega
/-- Events of one's own, made behind w. -/
def OwnE (w w' : World) (v : Value) (l : List Ev) : Prop := Vec 5 w' v l.length (l.flatMap evV) ∧ Nw w w' ∧ ∀ g, v.ownBlock = some g → w.heap.size ≤ g
theorem EEvents_ok {w : World} {v : Value} {l : List UInt8} (hv : Bs w v l) {r : List Ev} {ok : Bool} (hr : eventsB l = (r, ok)) :
    Calls Tryz.prog 203 #[v] w fun z w' => ∃ v', z = .returned (.tuple #[v', .bool ok]) ∧ (ok = true → OwnE w w' v' r) ∧ Nw w w' := by
  obtain ⟨a, cap, rfl, h1, h2, -⟩ := hv.elems
  have hmax : l.length ≤ 9223372036854775807 := by unfold maxLen at h2; omega
  obtain ⟨⟨n, x, e⟩, hu⟩ : ∃ y, getU l 0 = y := ⟨_, rfl⟩
  have HU := Lib.hid (GetUint_ok hv 0 ⟨by omega, by omega⟩ hu)
  have hf := getU_fine (b := l) (at_ := 0)
  unfold eventsB at hr
  rw [hu] at hf hr
  simp only at hf hr
  have HV := Lib.hid hv
  clear hv h1 h2 hu
  by_cases c0 : e = 0
  case neg =>
    have q1 : (e != 0) = true := by simpa using c0
    rw [if_pos (.inl c0)] at hr
    cases hr
    clear HV hf
    go_enter Tryz.func203, Tryz.ntmps203
    go_wp2_with fail
    refine HU.out.mono ?_
    rintro z w' ⟨rfl, rfl⟩
    go_wp2
    refine bodyPost_ret (v := .tuple #[.slice none 0 0, .bool false]) (by simp [results, Tryz.results203, go_sem]) rfl ⟨_, rfl, (fun h => by cases h), Nw.refl _⟩
  subst c0
  obtain ⟨-, f1, f2, f3⟩ := hf rfl
  by_cases c1 : n < 1
  · have q1 : decide ((n : Int) < 1) = true := by simp; omega
    rw [if_pos (.inr (.inl c1))] at hr
    cases hr
    clear HV hf
    go_enter Tryz.func203, Tryz.ntmps203
    go_wp2_with fail
    refine HU.out.mono ?_
    rintro z w' ⟨rfl, rfl⟩
    go_wp2
    refine bodyPost_ret (v := .tuple #[.slice none 0 0, .bool false]) (by simp [results, Tryz.results203, go_sem]) rfl ⟨_, rfl, (fun h => by cases h), Nw.refl _⟩
  by_cases c2 : 4096 < n
  · have q1 : decide ((n : Int) < 1) = false := by simp; omega
    have q2 : decide ((4096 : Int) < (n : Int)) = true := by simp; omega
    rw [if_pos (.inr (.inr c2))] at hr
    cases hr
    clear HV hf
    go_enter Tryz.func203, Tryz.ntmps203
    go_wp2_with fail
    refine HU.out.mono ?_
    rintro z w' ⟨rfl, rfl⟩
    go_wp2
    refine bodyPost_ret (v := .tuple #[.slice none 0 0, .bool false]) (by simp [results, Tryz.results203, go_sem]) rfl ⟨_, rfl, (fun h => by cases h), Nw.refl _⟩
  have q1 : decide ((n : Int) < 1) = false := by simp; omega
  have q2 : decide ((4096 : Int) < (n : Int)) = false := by simp; omega
  rw [if_neg (by omega)] at hr
  obtain ⟨i0, hi, hz0, hz1, hz2⟩ := info_parts infoEv
  have HI := Lib.hid hi
  have HZ0 := Lib.hid hz0
  have HZ1 := Lib.hid hz1
  have HZ2 := Lib.hid hz2
  clear hi hz0 hz1 hz2 hf
  have HR := Lib.hid hr
  clear hr
  go_enter Tryz.func203, Tryz.ntmps203
  go_wp2_with fail
  refine HU.out.mono ?_
  rintro z w' ⟨rfl, rfl⟩
  go_wp2
  obtain ⟨E, hE⟩ : ∃ E, evsFrom l n x Ev.zero [] = E := ⟨_, rfl⟩
  rw [hE] at HR
  have hzb := heap_alloc_new w (.cells (evV Ev.zero).toArray 73 (0, 0))
  have hzn := (Nw.refl w).alloc (.cells (evV Ev.zero).toArray 73 (0, 0))
  have HZB := Lib.hid hzb
  have HZN := Lib.hid hzn
  clear hzb hzn
  go_loopw [5, 7, 26] (fun av s i wr => ∃ (j : Nat) (at_ : Int) (y : Ev) (acc : List Ev), j ≤ n ∧ i = .int .u64 j ∧ av = .int .i64 at_ ∧ in64 at_ ∧ evsFrom l (n - j) at_ y acc = E ∧ Vec 5 wr s j (acc.flatMap evV) ∧ Nw w wr ∧ (∀ g, s.ownBlock = some g → w.heap.size ≤ g ∧ g ≠ w.heap.size) ∧
    wr.heap[w.heap.size]? = some (.cells (evV y).toArray 73 (0, 0)) ∧ acc.length = j) (fun _ _ i _ => n - (intOf i).toNat)
  case atStart => exact ⟨0, x, Ev.zero, [], Nat.zero_le _, rfl, rfl, ⟨by omega, by omega⟩, by simpa using hE, Vec.nil, HZN.out, (fun g hg => by cases hg), HZB.out, rfl⟩
  case round =>
    obtain ⟨j, at_, y, acc, hj, rfl, rfl, hat, hE1, hs, hw, hfr, hbox, hacc⟩ := hrel
    clear hE HZB HZN
    obtain ⟨x0, x1, x2, x3, x4, -⟩ := evV_cells hbox
    have hbl := lt_of_block hbox
    obtain ⟨sa, sc, rfl, -⟩ := hs.len
    have HS := Lib.hid (And.intro hs (And.intro hw (And.intro hfr hbox)))
    have HE := Lib.hid hE1
    have HA := Lib.hid hacc
    clear hs hw hfr hbox hE1 hacc
    by_cases hlt : j < n
    · obtain ⟨⟨e1, p1, y1⟩, hg⟩ : ∃ r, getE l at_ y = r := ⟨_, rfl⟩
      have C := EGet_ok (HV.out.nw HS.out.2.1) at_ hat y hg
      have C := Lib.hid C
      have HF := Lib.hid (getE_fine (b := l) (at_ := at_) (x := y))
      have HG := Lib.hid hg
      unfold evV at C
      clear hg
      go_wp2_with fail
      refine C.out.mono ?_
      rintro z w2 ⟨rfl, n2⟩
      have hb2 := n2.at_ HS.out.2.2.2
      obtain ⟨d0, d1, d2, d3, d4, df⟩ := evV_cells hb2
      have f0 := df 0
      have f1 := df 1
      have f2 := df 2
      have f3 := df 3
      have f4 := df 4
      have hbl2 := lt_of_block hb2
      have N2 := Lib.hid n2
      have HB2 := Lib.hid hb2
      clear df hb2 n2 C x0 x1 x2 x3 x4
      have hun : evsFrom l (n - j) at_ y acc = if y1 ≠ 0 then none else evsFrom l (n - (j + 1)) p1 e1 (acc ++ [e1]) := by
        rw [show n - j = (n - (j + 1)) + 1 by omega]
        conv => lhs; unfold evsFrom
        rw [HG.out]
      have hun := hun.symm.trans HE.out
      have HUN := Lib.hid hun
      clear hun HE
      have ho5 := only_set5 w2 w.heap.size (.int .i64 e1.thread) (.int .u8 e1.op.toNat) (.int .i64 e1.obj) (.int .i64 e1.a) (.int .i64 e1.b)
      have hb5 := heap_set5 (w1 := w2) (p := w.heap.size) (t := 73) HB2.out (.int .i64 e1.thread) (.int .u8 e1.op.toNat) (.int .i64 e1.obj) (.int .i64 e1.a) (.int .i64 e1.b)
      obtain ⟨W3, hW3⟩ : ∃ W, W = (((((w2.setCell ⟨w.heap.size, 0, none⟩ (.int .i64 e1.thread)).setCell ⟨w.heap.size, 1, none⟩ (.int .u8 e1.op.toNat)).setCell ⟨w.heap.size, 2, none⟩ (.int .i64 e1.obj)).setCell ⟨w.heap.size, 3, none⟩ (.int .i64 e1.a)).setCell ⟨w.heap.size, 4, none⟩ (.int .i64 e1.b)) := ⟨_, rfl⟩
      have N3 : Hid (Nw w W3) := Lib.hid (by rw [hW3]; exact (HS.out.2.1.trans N2.out).trans' ho5 (fun k hk hc => by omega))
      by_cases hy : y1 = 0
      case neg =>
        have q3 : (y1 != 0) = true := by simpa using hy
        have r := HUN.out
        rw [if_pos hy] at r
        have r2 := HR.out
        rw [← r] at r2
        cases r2
        rw [hW3] at N3
        clear r HUN ho5 hb5 hW3
        go_wp2
        refine bodyPost_ret (v := .tuple #[.slice none 0 0, .bool false]) (by simp [results, Tryz.results203, go_sem]) rfl ⟨_, rfl, (fun h => by cases h), N3.out⟩
      subst hy
      have r := HUN.out
      rw [if_neg (by simp)] at r
      have HUN := Lib.hid r
      clear r
      have S3 : Hid (Vec 5 W3 (.slice sa j sc) j (acc.flatMap evV)) := Lib.hid (by
        rw [hW3]
        exact (HS.out.1.nw N2.out).keep ho5.size (fun g hg => ho5.block g ((HS.out.1.nw N2.out).lt g hg) (HS.out.2.2.1 g hg).2))
      have B3 : Hid (W3.heap[w.heap.size]? = some (.cells (evV e1).toArray 73 (0, 0))) := Lib.hid (by rw [hW3]; exact hb5)
      have HW3 := Lib.hid hW3
      clear ho5 hb5 hW3
      go_upto_region 9 with fail
      rw [← HW3.out]
      obtain ⟨m0, m1, m2, m3, m4, -⟩ := evV_cells B3.out
      have hna := (Nw.refl W3).alloc (.cells (evV e1).toArray 73 (0, 0))
      have V4 := Lib.hid (S3.out.nw hna)
      have X4 := Lib.hid (src_lit W3 73 (0, 0) 5 1 1 (evV e1) rfl (by omega) (by decide))
      have HNA := Lib.hid hna
      have hbl3 := lt_of_block B3.out
      unfold evV at V4 X4
      clear hna d0 d1 d2 d3 d4 f0 f1 f2 f3 f4 HW3
      go_wp2_with (at_builtin; refine wpList_append_vec rfl _ _ 25 rfl 73 i0 (.agg #[.int .i64 0, .int .u8 0, .int .i64 0, .int .i64 0, .int .i64 0]) 5 40 Tryz.underlying25 HI.out HZ0.out HZ1.out HZ2.out rfl (by decide) rfl rfl V4.out X4.out ?c1 ?c2 ?c3 ?_)
      case c1 => exact fun u hu => by simp only [List.mem_cons, List.not_mem_nil, or_false] at hu; rcases hu with rfl | rfl | rfl | rfl | rfl <;> rfl
      case c2 => unfold maxLen; omega
      case c3 => omega
      intro v5 w5 q5 q6 q7
      obtain ⟨ta, tc, rfl, -⟩ := q5.len
      have Q := Lib.hid (And.intro q5 (And.intro q6 q7))
      clear q5 q6 q7
      go_wp2
      go_roundw
      case rel =>
        have hs0 : w.heap.size ≤ W3.heap.size := N3.out.size
        have hfr : ∀ g, (Value.slice ta (j + 1) tc).ownBlock = some g → w.heap.size ≤ g ∧ g ≠ w.heap.size := fun g hg => by
          rcases Q.out.2.2 with h | h
          · exact HS.out.2.2.1 g (h ▸ hg)
          · have h1 := h g hg
            have h2 := HNA.out.size
            omega
        have hnw : Nw w w5 := (N3.out.trans HNA.out).trans' Q.out.2.1 (fun g hg hc => by have := (HS.out.2.2.1 g hc).1; omega)
        refine ⟨j + 1, p1, e1, acc ++ [e1], by omega, by go_num, rfl, ?_, HUN.out, ?_, hnw, hfr, ?_, by rw [List.length_append, HA.out]; rfl⟩
        · have := HF.out (by rw [HG.out])
          rw [HG.out] at this
          simp only at this
          exact ⟨by omega, by omega⟩
        · have e : ([e1] : List Ev).flatMap evV = evV e1 := by simp
          rw [List.flatMap_append, e]
          exact Q.out.1
        · exact Q.out.2.1.at_ (HNA.out.at_ B3.out) (fun hc => (HS.out.2.2.1 _ hc).2 rfl)
      case measure => simp [intOf]; omega
    · obtain rfl : j = n := by omega
      have r := HE.out
      rw [Nat.sub_self] at r
      unfold evsFrom at r
      have r2 := HR.out
      rw [← r] at r2
      simp only [Prod.mk.injEq] at r2
      obtain ⟨rfl, hok⟩ := r2
      have HOK := Lib.hid hok
      clear r hok HE
      have hq : (at_ == (l.length : Int)) = ok := by rw [← HOK.out]; rfl
      go_wp2
      refine bodyPost_ret (v := .tuple #[.slice sa j sc, .bool ok]) (by simp [results, Tryz.results203, go_sem]) rfl ⟨_, rfl, fun _ => ⟨?_, HS.out.2.1, fun g hg => (HS.out.2.2.1 g hg).1⟩, HS.out.2.1⟩
      rw [HA.out]; exact HS.out.1

theorem OwnE.nw {w w' w'' : World} {v : Value} {l : List Ev} (h : OwnE w w' v l) (hw : Nw w' w'') : OwnE w w'' v l := ⟨h.1.nw hw, h.2.1.trans hw, h.2.2⟩
theorem OwnE.from {w W w' : World} {v : Value} {l : List Ev} (hw : Nw w W) (h : OwnE W w' v l) : OwnE w w' v l := ⟨h.1, hw.trans h.2.1, fun g hg => Nat.le_trans hw.size (h.2.2 g hg)⟩
/-- What Read hands back. -/
theorem ERead_ok {w : World} {v : Value} {l : List UInt8} (hv : Bs w v l) (hl : l.length ≤ 90000000) (at_ : Int) (ha : in64 at_) {r : List Ev} {x e : Int} (hr : readFr l at_ = (r, x, e)) :
    Calls Tryz.prog 193 #[v, .int .i64 at_] w fun z w' => ∃ v', z = .returned (.tuple #[v', .int .i64 x, .int .i64 e]) ∧ (e = 0 → OwnE w w' v' r) ∧ Nw w w' := by
  obtain ⟨a, cap, rfl, h1, h2, -⟩ := hv.elems
  obtain ⟨⟨n, y, e0⟩, hu⟩ : ∃ y, getU l at_ = y := ⟨_, rfl⟩
  have HU := Lib.hid (GetUint_ok hv at_ ha hu)
  have hf := getU_fine (b := l) (at_ := at_)
  unfold readFr frameIn at hr
  rw [hu] at hf hr
  simp only at hf hr
  have HV := Lib.hid hv
  clear hv h1 h2 hu ha
  by_cases c0 : e0 = 0
  case neg =>
    have q1 : (e0 != 0) = true := by simpa using c0
    rw [if_pos c0] at hr
    obtain ⟨rfl, rfl, rfl⟩ : [] = r ∧ 0 = x ∧ e0 = e := by simpa using hr
    clear HV hf hr
    go_enter Tryz.func193, Tryz.ntmps193
    go_wp2_with fail
    refine HU.out.mono ?_
    rintro z w' ⟨rfl, rfl⟩
    go_wp2
    refine bodyPost_ret (v := .tuple #[.slice none 0 0, .int .i64 0, .int .i64 e0]) (by simp [results, Tryz.results193, go_sem]) rfl ⟨_, rfl, (fun h => absurd h c0), Nw.refl _⟩
  subst c0
  obtain ⟨f0, f1, f2, f3⟩ := hf rfl
  rw [if_neg (by simp)] at hr
  clear hf
  obtain ⟨k, rfl⟩ : ∃ k : Nat, y = k := ⟨y.toNat, by omega⟩
  by_cases c1 : 262144 < n
  · have q1 : decide ((262144 : Int) < (n : Int)) = true := by simp; omega
    rw [if_pos c1] at hr
    obtain ⟨rfl, rfl, rfl⟩ : [] = r ∧ 0 = x ∧ 3 = e := by simpa using hr
    clear HV hr
    go_enter Tryz.func193, Tryz.ntmps193
    go_wp2_with fail
    refine HU.out.mono ?_
    rintro z w' ⟨rfl, rfl⟩
    go_wp2
    refine bodyPost_ret (v := .tuple #[.slice none 0 0, .int .i64 0, .int .i64 3]) (by simp [results, Tryz.results193, go_sem]) rfl ⟨_, rfl, (fun h => absurd h (by decide)), Nw.refl _⟩
  rw [if_neg c1] at hr
  have q1 : decide ((262144 : Int) < (n : Int)) = false := by simp; omega
  have hsub : IntKind.i64.wrap ((l.length : Int) - (k : Int)) = (l.length : Int) - (k : Int) := IntWalk.i64_in _ (by omega)
  have hmod : ((l.length : Int) - (k : Int)) % 18446744073709551616 = (l.length : Int) - (k : Int) := by omega
  have hadd : IntKind.u64.wrap ((n : Int) + 4) = (n : Int) + 4 := IntWalk.u64_in _ (by omega)
  by_cases c2 : (l.length : Int) < (k : Int) + (n : Int) + 4
  · have q2 : decide ((l.length : Int) - (k : Int) < (n : Int) + 4) = true := by simp; omega
    rw [if_pos c2] at hr
    obtain ⟨rfl, rfl, rfl⟩ : [] = r ∧ 0 = x ∧ 11 = e := by simpa using hr
    clear HV hr
    go_enter Tryz.func193, Tryz.ntmps193
    go_wp2_with fail
    refine HU.out.mono ?_
    rintro z w' ⟨rfl, rfl⟩
    go_wp2
    refine bodyPost_ret (v := .tuple #[.slice none 0 0, .int .i64 0, .int .i64 11]) (by simp [results, Tryz.results193, go_sem]) rfl ⟨_, rfl, (fun h => absurd h (by decide)), Nw.refl _⟩
  rw [if_neg c2] at hr
  have q2 : decide ((l.length : Int) - (k : Int) < (n : Int) + 4) = false := by simp; omega
  obtain ⟨a2, c2', hb2, hl2, t1, t2⟩ := bs_lh HV.out k (k + n + 4) (by omega) (by omega)
  rw [show k + n + 4 - k = n + 4 by omega] at hb2 hl2 t1 t2
  simp only [Int.toNat_natCast] at hr
  rw [show ((k + n + 4 : Nat) : Int) = (k : Int) + (n : Int) + 4 by omega] at t1 t2
  have hw1 : IntKind.i64.wrap ((k : Int) + (n : Int)) = (k : Int) + (n : Int) := IntWalk.i64_in _ (by omega)
  have hw2 : IntKind.i64.wrap ((k : Int) + (n : Int) + 4) = (k : Int) + (n : Int) + 4 := IntWalk.i64_in _ (by omega)
  have hw3 : IntKind.i64.wrap (n : Int) = (n : Int) := IntWalk.i64_in _ (by omega)
  obtain ⟨⟨u, e1⟩, hun⟩ : ∃ y, unsealB ((l.drop k).take (n + 4)) = y := ⟨_, rfl⟩
  have HUN := Lib.hid (Unseal_ok hb2 (by omega) hun)
  rw [hun] at hr
  simp only at hr
  clear hb2 hl2 hun HV
  by_cases c3 : e1 = 0
  case neg =>
    have q3 : (e1 != 0) = true := by simpa using c3
    rw [if_pos c3] at hr
    obtain ⟨rfl, rfl, rfl⟩ : [] = r ∧ 0 = x ∧ e1 = e := by simpa using hr
    clear hr
    go_enter Tryz.func193, Tryz.ntmps193
    go_wp2_with fail
    refine HU.out.mono ?_
    rintro z w' ⟨rfl, rfl⟩
    go_wp2_with fail
    refine HUN.out.mono ?_
    rintro z w1 ⟨v1, rfl, -, n1⟩
    have N1 := Lib.hid n1
    clear n1
    go_wp2
    refine bodyPost_ret (v := .tuple #[.slice none 0 0, .int .i64 0, .int .i64 e1]) (by simp [results, Tryz.results193, go_sem]) rfl ⟨_, rfl, (fun h => absurd h c3), N1.out⟩
  subst c3
  rw [if_neg (by simp)] at hr
  obtain ⟨⟨es, ok⟩, hev⟩ : ∃ y, eventsB u = y := ⟨_, rfl⟩
  rw [hev] at hr
  simp only at hr
  have HEV := Lib.hid hev
  clear hev
  cases ok
  case false =>
    obtain ⟨rfl, rfl, rfl⟩ : [] = r ∧ 0 = x ∧ 10 = e := by simpa using hr
    clear hr
    go_enter Tryz.func193, Tryz.ntmps193
    go_wp2_with fail
    refine HU.out.mono ?_
    rintro z w' ⟨rfl, rfl⟩
    go_wp2_with fail
    refine HUN.out.mono ?_
    rintro z w1 ⟨v1, rfl, b1, n1⟩
    have C := Lib.hid (EEvents_ok b1 HEV.out)
    obtain ⟨xa, xc, rfl, -⟩ := b1.len
    have N1 := Lib.hid n1
    clear n1 b1
    go_wp2_with fail
    refine C.out.mono ?_
    rintro z w2 ⟨v2, rfl, -, n2⟩
    have N2 := Lib.hid (N1.out.trans n2)
    clear n2
    go_wp2
    refine bodyPost_ret (v := .tuple #[.slice none 0 0, .int .i64 0, .int .i64 10]) (by simp [results, Tryz.results193, go_sem]) rfl ⟨_, rfl, (fun h => absurd h (by decide)), N2.out⟩
  case true =>
    obtain ⟨rfl, rfl, rfl⟩ : es = r ∧ (k : Int) + (n : Int) + 4 = x ∧ 0 = e := by simpa using hr
    clear hr
    go_enter Tryz.func193, Tryz.ntmps193
    go_wp2_with fail
    refine HU.out.mono ?_
    rintro z w' ⟨rfl, rfl⟩
    go_wp2_with fail
    refine HUN.out.mono ?_
    rintro z w1 ⟨v1, rfl, b1, n1⟩
    have C := Lib.hid (EEvents_ok b1 HEV.out)
    obtain ⟨xa, xc, rfl, -⟩ := b1.len
    have N1 := Lib.hid n1
    clear n1 b1
    go_wp2_with fail
    refine C.out.mono ?_
    rintro z w2 ⟨v2, rfl, o2, n2⟩
    have O2 := Lib.hid (OwnE.from N1.out (o2 (by first | rfl | trivial)))
    have N2 := Lib.hid (N1.out.trans n2)
    clear n2 o2
    go_wp2
    refine bodyPost_ret (v := .tuple #[v2, .int .i64 ((k : Int) + (n : Int) + 4), .int .i64 0]) (by simp [results, Tryz.results193, go_sem]) rfl ⟨_, rfl, fun _ => O2.out, N2.out⟩
end Go.Proofs.YtjapijndljknnaaGreatDoor

/-
  Package segment, walked: head, Scan.
-/
namespace Go.Proofs.YtjapijndljknnaaGreatDoor
open Go Go.RowKit Go.Sort
set_option maxRecDepth 100000
set_option maxHeartbeats 1600000

theorem HP_ok (s p : List UInt8) (w : World) : Calls Tryz.prog 60 #[.string ⟨s.toArray⟩, .string ⟨p.toArray⟩] w fun e w' => e = .returned (.bool (decide (p <+: s))) ∧ w = w' := by
  refine (Tryz.strings_HasPrefix ⟨s.toArray⟩ ⟨p.toArray⟩ w).mono ?_
  rintro e w' ⟨rfl, rfl⟩
  refine ⟨?_, rfl⟩
  have : Lib.hasPrefix s p = decide (p <+: s) := by
    unfold Lib.hasPrefix
    rw [Bool.eq_iff_iff, List.isPrefixOf_iff_prefix, decide_eq_true_iff]
  show Ending.returned (.bool (Lib.hasPrefix s p)) = _
  rw [this]
theorem shead_ok {w : World} {v : Value} {l : List UInt8} (hv : Bs w v l) (hl : l.length ≤ 90000000) {n x e : Int} (hr : headR l = (n, x, e)) :
    Calls Tryz.prog 192 #[v] w fun z w' => z = .returned (.tuple #[.int .i64 n, .int .i64 x, .int .i64 e]) ∧ Nw w w' := by
  obtain ⟨a, cap, rfl, h1, h2, -⟩ := hv.elems
  have HV := Lib.hid hv
  clear h1 h2 hv
  by_cases c4 : l.length < 4
  · obtain ⟨a', c', hb, hlen, s1, s2⟩ := bs_h HV.out l.length (Nat.le_refl _)
    rw [List.take_length] at hb
    have k1 := conv_str hb
    obtain ⟨⟨n0, x0, e0⟩, hu⟩ : ∃ y, getU l l.length = y := ⟨_, rfl⟩
    have HU := Lib.hid (GetUint_ok HV.out l.length ⟨by omega, by omega⟩ hu)
    have hmn : min (l.length : Int) 4 = (l.length : Int) := by omega
    have HP := Lib.hid (HP_ok plainS l w)
    unfold headR at hr
    rw [List.take_of_length_le (by omega)] at hr
    clear hb hu hlen
    by_cases hp : l <+: plainS
    case neg =>
      rw [if_pos hp] at hr
      obtain ⟨rfl, rfl, rfl⟩ : 0 = n ∧ 0 = x ∧ 10 = e := by simpa using hr
      rw [show decide (l <+: plainS) = false by simpa using hp] at HP
      clear hr
      go_enter Tryz.func192, Tryz.ntmps192
      go_wp2_with fail
      refine HP.out.mono ?_
      rintro z w' ⟨rfl, rfl⟩
      go_wp2
      refine bodyPost_ret (v := .tuple #[.int .i64 0, .int .i64 0, .int .i64 10]) (by simp [results, Tryz.results192, go_sem]) rfl ⟨rfl, Nw.refl _⟩
    case pos =>
      rw [if_neg (by simpa using hp), if_pos c4] at hr
      obtain ⟨rfl, rfl, rfl⟩ : 0 = n ∧ 0 = x ∧ 11 = e := by simpa using hr
      rw [show decide (l <+: plainS) = true by simpa using hp] at HP
      clear hr
      go_enter Tryz.func192, Tryz.ntmps192
      go_wp2_with fail
      refine HP.out.mono ?_
      rintro z w' ⟨rfl, rfl⟩
      go_wp2_with fail
      refine HU.out.mono ?_
      rintro z w' ⟨rfl, rfl⟩
      go_wp2
      refine bodyPost_ret (v := .tuple #[.int .i64 0, .int .i64 0, .int .i64 11]) (by simp [results, Tryz.results192, go_sem]) rfl ⟨rfl, Nw.refl _⟩
  obtain ⟨a', c', hb, hlen, s1, s2⟩ := bs_h HV.out 4 (by omega)
  rw [show ((4 : Nat) : Int) = 4 from rfl] at s1 s2
  have k1 := conv_str hb
  obtain ⟨⟨n0, x0, e0⟩, hu⟩ : ∃ y, getU l 4 = y := ⟨_, rfl⟩
  have HU := Lib.hid (GetUint_ok HV.out 4 ⟨by omega, by omega⟩ hu)
  have hf := getU_fine (b := l) (at_ := 4)
  have hmn : min (l.length : Int) 4 = 4 := by omega
  have HP := Lib.hid (HP_ok plainS (l.take 4) w)
  unfold headR at hr
  rw [hu] at hf hr
  simp only at hf hr
  clear hb hu hlen
  by_cases hp : l.take 4 <+: plainS
  case neg =>
    rw [if_pos hp] at hr
    obtain ⟨rfl, rfl, rfl⟩ : 0 = n ∧ 0 = x ∧ 10 = e := by simpa using hr
    rw [show decide (l.take 4 <+: plainS) = false by simpa using hp] at HP
    clear hr hf
    go_enter Tryz.func192, Tryz.ntmps192
    go_wp2_with fail
    refine HP.out.mono ?_
    rintro z w' ⟨rfl, rfl⟩
    go_wp2
    refine bodyPost_ret (v := .tuple #[.int .i64 0, .int .i64 0, .int .i64 10]) (by simp [results, Tryz.results192, go_sem]) rfl ⟨rfl, Nw.refl _⟩
  rw [if_neg (by simpa using hp), if_neg c4] at hr
  rw [show decide (l.take 4 <+: plainS) = true by simpa using hp] at HP
  clear hp
  by_cases c0 : e0 = 0
  case neg =>
    have q1 : (e0 == 0) = false := by simpa using c0
    have q2 : (e0 != 0) = true := by simpa using c0
    rw [if_neg (fun h => c0 h.1), if_pos c0] at hr
    obtain ⟨rfl, rfl, rfl⟩ : 0 = n ∧ 0 = x ∧ e0 = e := by simpa using hr
    clear hr hf
    go_enter Tryz.func192, Tryz.ntmps192
    go_wp2_with fail
    refine HP.out.mono ?_
    rintro z w' ⟨rfl, rfl⟩
    go_wp2_with fail
    refine HU.out.mono ?_
    rintro z w' ⟨rfl, rfl⟩
    go_wp2
    refine bodyPost_ret (v := .tuple #[.int .i64 0, .int .i64 0, .int .i64 e0]) (by simp [results, Tryz.results192, go_sem]) rfl ⟨rfl, Nw.refl _⟩
  subst c0
  obtain ⟨-, f1, f2, f3⟩ := hf rfl
  obtain ⟨k, rfl⟩ : ∃ k : Nat, x0 = k := ⟨x0.toNat, by omega⟩
  clear hf
  by_cases c1 : 4611686018427387904 < n0
  · have q1 : decide ((4611686018427387904 : Int) < (n0 : Int)) = true := by simp; omega
    rw [if_pos ⟨rfl, c1⟩] at hr
    obtain ⟨rfl, rfl, rfl⟩ : 0 = n ∧ 0 = x ∧ 10 = e := by simpa using hr
    clear hr
    go_enter Tryz.func192, Tryz.ntmps192
    go_wp2_with fail
    refine HP.out.mono ?_
    rintro z w' ⟨rfl, rfl⟩
    go_wp2_with fail
    refine HU.out.mono ?_
    rintro z w' ⟨rfl, rfl⟩
    go_wp2
    refine bodyPost_ret (v := .tuple #[.int .i64 0, .int .i64 0, .int .i64 10]) (by simp [results, Tryz.results192, go_sem]) rfl ⟨rfl, Nw.refl _⟩
  have q1 : decide ((4611686018427387904 : Int) < (n0 : Int)) = false := by simp; omega
  rw [if_neg (fun h => c1 h.2), if_neg (by simp)] at hr
  have hw : IntKind.i64.wrap ((k : Int) + 4) = (k : Int) + 4 := IntWalk.i64_in _ (by omega)
  by_cases c2 : (l.length : Int) < (k : Int) + 4
  · have q2 : decide ((l.length : Int) < (k : Int) + 4) = true := by simpa using c2
    rw [if_pos c2] at hr
    obtain ⟨rfl, rfl, rfl⟩ : 0 = n ∧ 0 = x ∧ 11 = e := by simpa using hr
    clear hr
    go_enter Tryz.func192, Tryz.ntmps192
    go_wp2_with fail
    refine HP.out.mono ?_
    rintro z w' ⟨rfl, rfl⟩
    go_wp2_with fail
    refine HU.out.mono ?_
    rintro z w' ⟨rfl, rfl⟩
    go_wp2
    refine bodyPost_ret (v := .tuple #[.int .i64 0, .int .i64 0, .int .i64 11]) (by simp [results, Tryz.results192, go_sem]) rfl ⟨rfl, Nw.refl _⟩
  have q2 : decide ((l.length : Int) < (k : Int) + 4) = false := by simpa using c2
  rw [if_neg c2] at hr
  obtain ⟨a2, c2', hb2, hl2, t1, t2⟩ := bs_h HV.out (k + 4) (by omega)
  rw [show ((k + 4 : Nat) : Int) = (k : Int) + 4 by omega] at t1 t2
  simp only [Int.toNat_natCast] at hr
  obtain ⟨⟨u, e1⟩, hun⟩ : ∃ y, unsealB (l.take (k + 4)) = y := ⟨_, rfl⟩
  have HUN := Lib.hid (Unseal_ok hb2 (by omega) hun)
  rw [hun] at hr
  simp only at hr
  have hw3 : IntKind.i64.wrap (n0 : Int) = (n0 : Int) := IntWalk.i64_in _ (by omega)
  clear hb2 hl2 hun HV
  by_cases c3 : e1 = 0
  case neg =>
    have q3 : (e1 != 0) = true := by simpa using c3
    rw [if_pos c3] at hr
    obtain ⟨rfl, rfl, rfl⟩ : 0 = n ∧ 0 = x ∧ e1 = e := by simpa using hr
    clear hr hw3
    go_enter Tryz.func192, Tryz.ntmps192
    go_wp2_with fail
    refine HP.out.mono ?_
    rintro z w' ⟨rfl, rfl⟩
    go_wp2_with fail
    refine HU.out.mono ?_
    rintro z w' ⟨rfl, rfl⟩
    go_wp2_with fail
    refine HUN.out.mono ?_
    rintro z w1 ⟨v1, rfl, -, n1⟩
    have N1 := Lib.hid n1
    clear n1
    go_wp2
    refine bodyPost_ret (v := .tuple #[.int .i64 0, .int .i64 0, .int .i64 e1]) (by simp [results, Tryz.results192, go_sem]) rfl ⟨rfl, N1.out⟩
  subst c3
  rw [if_neg (by simp)] at hr
  obtain ⟨rfl, rfl, rfl⟩ : (n0 : Int) = n ∧ (k : Int) + 4 = x ∧ 0 = e := by simpa using hr
  clear hr
  go_enter Tryz.func192, Tryz.ntmps192
  go_wp2_with fail
  refine HP.out.mono ?_
  rintro z w' ⟨rfl, rfl⟩
  go_wp2_with fail
  refine HU.out.mono ?_
  rintro z w' ⟨rfl, rfl⟩
  go_wp2_with fail
  refine HUN.out.mono ?_
  rintro z w1 ⟨v1, rfl, -, n1⟩
  have N1 := Lib.hid n1
  clear n1
  go_wp2
  refine bodyPost_ret (v := .tuple #[.int .i64 n0, .int .i64 ((k : Int) + 4), .int .i64 0]) (by simp [results, Tryz.results192, go_sem]) rfl ⟨rfl, N1.out⟩
theorem evsFrom_place : ∀ (b : List UInt8) (n : Nat) (at_ : Int) (x : Ev) (acc l : List Ev) (to_ : Int), evsFrom b n at_ x acc = some (l, to_) → at_ + n ≤ to_
  | _, 0, at_, x, acc, l, to_, h => by
    simp only [evsFrom, Option.some.injEq, Prod.mk.injEq] at h
    omega
  | b, n + 1, at_, x, acc, l, to_, h => by
    unfold evsFrom at h
    split at h
    · cases h
    · rename_i he
      have hx := getE_fine (b := b) (at_ := at_) (x := x) (by rcases Decidable.em ((getE b at_ x).2.2 = 0) with h | h; exact h; exact absurd h he)
      have := evsFrom_place b n _ _ _ _ _ h
      omega
theorem eventsB_len {b : List UInt8} (h : (eventsB b).2 = true) : (eventsB b).1.length ≤ b.length := by
  unfold eventsB at h ⊢
  split
  · rename_i h0; rw [if_pos h0] at h; cases h
  · rename_i h0
    rw [if_neg h0] at h
    have hu := getU_fine (b := b) (at_ := 0) (by rcases Decidable.em ((getU b 0).2.2 = 0) with h | h; exact h; exact absurd (.inl h) h0)
    cases hc : evsFrom b (getU b 0).1 (getU b 0).2.1 Ev.zero [] with
    | none => rw [hc] at h; cases h
    | some r =>
      obtain ⟨l, to_⟩ := r
      have h1 := evsFrom_fine _ _ _ _ _ _ hc (fun _ h => by cases h)
      have h2 := evsFrom_place _ _ _ _ _ _ _ hc
      rw [hc] at h
      simp only [decide_eq_true_eq] at h
      have h3 := h1.2
      simp only [List.length_nil, Nat.zero_add] at h3
      simp only
      omega
theorem readFr_len {b : List UInt8} {at_ : Int} (h : (readFr b at_).2.2 = 0) : ((readFr b at_).1.length : Int) ≤ (readFr b at_).2.1 - at_ := by
  unfold readFr at h ⊢
  split
  · rename_i h0; rw [if_pos h0] at h; exact absurd h h0
  · rename_i h0
    rw [if_neg h0] at h
    have hu := getU_fine (b := b) (at_ := at_) (by rcases Decidable.em ((getU b at_).2.2 = 0) with h | h; exact h; exact absurd h h0)
    split
    · rename_i h1; rw [if_pos h1] at h; exact absurd h (by decide)
    · rename_i h1
      rw [if_neg h1] at h
      split
      · rename_i h2; rw [if_pos h2] at h; exact absurd h (by decide)
      · rename_i h2
        rw [if_neg h2] at h
        split
        · rename_i h3; rw [if_pos h3] at h; exact absurd h h3
        · rename_i h3
          rw [if_neg h3] at h
          have h5 := unsealB_len (b := frameIn b at_) (by rcases Decidable.em ((unsealB (frameIn b at_)).2 = 0) with h | h; exact h; exact absurd h h3)
          have h6 : (frameIn b at_).length ≤ (getU b at_).1 + 4 := by unfold frameIn; simp; omega
          split
          · rename_i h4
            have := eventsB_len h4
            simp only
            omega
          · rename_i h4
            rw [if_neg h4] at h
            exact absurd h (by decide)
theorem frs_yes' {b : List UInt8} {at_ : Int} {r : List Ev} {x : Int} (h : readFr b at_ = (r, x, 0)) (acc : List Ev) : frs b at_ acc = frs b x (acc ++ r) := by
  have := frs_yes (b := b) (at_ := at_) (by rw [h]) acc
  rw [h] at this
  exact this
/-- What Scan hands back. -/
theorem SScan_ok {w : World} {v : Value} {l : List UInt8} (hv : Bs w v l) (hl : l.length ≤ 90000000) {n g e : Int} {r : List Ev} (hr : scanB l = (n, r, g, e)) :
    Calls Tryz.prog 165 #[v] w fun z w' => ∃ v', z = .returned (.tuple #[.int .i64 n, v', .int .i64 g, .int .i64 e]) ∧ OwnE w w' v' r := by
  obtain ⟨a, cap, rfl, h1, h2, -⟩ := hv.elems
  obtain ⟨⟨n0, x0, e0⟩, hu⟩ : ∃ y, headR l = y := ⟨_, rfl⟩
  have HU := Lib.hid (shead_ok hv hl hu)
  unfold scanB at hr
  rw [hu] at hr
  simp only at hr
  have HV := Lib.hid hv
  have hplace : e0 = 0 → 0 ≤ x0 ∧ x0 ≤ l.length := by
    intro h0
    unfold headR at hu
    split at hu
    · cases hu; cases h0
    · split at hu
      · cases hu; cases h0
      · split at hu
        · cases hu; cases h0
        · split at hu
          · rename_i hx; cases hu; exact absurd h0 hx
          · rename_i h4
            have hg := getU_fine (b := l) (at_ := 4) (by rcases Decidable.em ((getU l 4).2.2 = 0) with h | h; exact h; exact absurd h h4)
            split at hu
            · cases hu; cases h0
            · split at hu
              · rename_i hx; cases hu; exact absurd h0 hx
              · cases hu
                omega
  clear hv h1 h2 hu
  by_cases c0 : e0 = 0
  case neg =>
    have q1 : (e0 != 0) = true := by simpa using c0
    rw [if_pos c0] at hr
    obtain ⟨rfl, rfl, rfl, rfl⟩ : 0 = n ∧ [] = r ∧ 0 = g ∧ e0 = e := by simpa using hr
    clear hr hplace
    go_enter Tryz.func165, Tryz.ntmps165
    go_wp2_with fail
    refine HU.out.mono ?_
    rintro z w1 ⟨rfl, n1⟩
    have N1 := Lib.hid n1
    clear n1
    go_wp2
    refine bodyPost_ret (v := .tuple #[.int .i64 0, .slice none 0 0, .int .i64 0, .int .i64 e0]) (by simp [results, Tryz.results165, go_sem]) rfl ⟨_, rfl, Vec.nil, N1.out, fun g hg => by cases hg⟩
  subst c0
  rw [if_neg (by simp)] at hr
  obtain ⟨hp0, hp1⟩ := hplace rfl
  obtain ⟨E, hE⟩ : ∃ E, frs l x0 [] = E := ⟨_, rfl⟩
  rw [hE] at hr
  obtain ⟨E1, E2⟩ := E
  obtain ⟨rfl, rfl, rfl, rfl⟩ : n0 = n ∧ E1 = r ∧ E2 = g ∧ 0 = e := by simpa using hr
  obtain ⟨i0, hi, hz0, hz1, hz2⟩ := info_parts infoEv
  have HI := Lib.hid hi
  have HZ0 := Lib.hid hz0
  have HZ1 := Lib.hid hz1
  have HZ2 := Lib.hid hz2
  have HE := Lib.hid hE
  have HX0 := Lib.hid (And.intro hp0 hp1)
  clear hi hz0 hz1 hz2 hr hplace hE hp0 hp1
  go_enter Tryz.func165, Tryz.ntmps165
  go_wp2_with fail
  refine HU.out.mono ?_
  rintro z w1 ⟨rfl, n1⟩
  have N1 := Lib.hid n1
  clear n1
  go_wp2
  go_loopw [7, 9] (fun av s wr => ∃ (at_ : Int) (acc : List Ev) (m : Nat), av = .int .i64 at_ ∧ 0 ≤ at_ ∧ at_ ≤ l.length ∧ frs l at_ acc = (E1, E2) ∧ Vec 5 wr s m (acc.flatMap evV) ∧ acc.length = m ∧ (m : Int) ≤ at_ ∧ Nw w wr ∧ ∀ g, s.ownBlock = some g → w.heap.size ≤ g) (fun av _ _ => l.length - (intOf av).toNat)
  case atStart => exact ⟨x0, [], 0, rfl, HX0.out.1, HX0.out.2, HE.out, Vec.nil, rfl, by simpa using HX0.out.1, N1.out, fun g hg => by cases hg⟩
  case round =>
    obtain ⟨at_, acc, m, rfl, ha0, ha1, hE1, hs, hm, hma, hw, hfr⟩ := hrel
    obtain ⟨⟨r1, x1, e1⟩, hg⟩ : ∃ y, readFr l at_ = y := ⟨_, rfl⟩
    have C := Lib.hid (ERead_ok (HV.out.nw hw) hl at_ ⟨by omega, by omega⟩ hg)
    have HG := Lib.hid hg
    obtain ⟨sa, sc, rfl, -⟩ := hs.len
    have HS := Lib.hid (And.intro hs (And.intro hw hfr))
    have HE1 := Lib.hid hE1
    have HM := Lib.hid hm
    clear hg hs hw hfr hE1 hm
    go_wp2_with fail
    refine C.out.mono ?_
    rintro z w2 ⟨v2, rfl, o2, n2⟩
    have N2 := Lib.hid n2
    by_cases hy : e1 = 0
    case neg =>
      have q1 : (e1 != 0) = true := by simpa using hy
      have r := frs_no (b := l) (at_ := at_) (by rw [HG.out]; exact hy) acc
      rw [HE1.out] at r
      obtain ⟨rfl, rfl⟩ : E1 = acc ∧ E2 = at_ := by simpa using r
      clear r o2 n2 C
      go_wp2
      refine bodyPost_ret (v := .tuple #[.int .i64 n0, .slice sa m sc, .int .i64 E2, .int .i64 0]) (by simp [results, Tryz.results165, go_sem]) rfl ⟨_, rfl, ?_, HS.out.2.1.trans N2.out, HS.out.2.2⟩
      rw [HM.out]
      exact HS.out.1.nw N2.out
    subst hy
    have hfine := readFr_fine (b := l) (at_ := at_) (by rw [HG.out])
    have hlen := readFr_len (b := l) (at_ := at_) (by rw [HG.out])
    have hyes := frs_yes' HG.out acc
    rw [HG.out] at hfine hlen
    simp only at hfine hlen
    rw [HE1.out] at hyes
    have O2 := Lib.hid (o2 rfl)
    have HY := Lib.hid hyes
    obtain ⟨m2, hm2⟩ : ∃ k, r1.length = k := ⟨_, rfl⟩
    rw [hm2] at hlen
    have hb1 := hfine.2.1
    have hb2 := hfine.2.2.1
    have HM2 := Lib.hid hm2
    have hv2 := O2.out.1
    rw [hm2] at hv2
    obtain ⟨ta, tc, rfl, -⟩ := hv2.len
    have V4 := Lib.hid (HS.out.1.nw N2.out)
    have X4 := Lib.hid hv2.src
    clear hm2 hfine hyes o2 n2 C hv2
    go_wp2_with (at_builtin; refine wpList_append_vec rfl _ _ 25 rfl 73 i0 (.agg #[.int .i64 0, .int .u8 0, .int .i64 0, .int .i64 0, .int .i64 0]) 5 40 Tryz.underlying25 HI.out HZ0.out HZ1.out HZ2.out rfl (by decide) rfl rfl V4.out X4.out ?c1 ?c2 ?c3 ?_)
    case c1 => exact evV_one r1
    case c2 => unfold maxLen; omega
    case c3 => omega
    intro v5 w5 q5 q6 q7
    obtain ⟨ya, yc, rfl, -⟩ := q5.len
    have Q := Lib.hid (And.intro q5 (And.intro q6 q7))
    clear q5 q6 q7
    go_wp2
    go_roundw
    case rel =>
      refine ⟨x1, acc ++ r1, m + m2, rfl, by omega, hb2, HY.out.symm, by rw [List.flatMap_append]; exact Q.out.1, by rw [List.length_append, HM.out, HM2.out], by omega, ?_, fun g hg => ?_⟩
      · exact (HS.out.2.1.trans N2.out).trans' Q.out.2.1 (fun g hg hc => by have := HS.out.2.2 g hc; omega)
      · rcases Q.out.2.2 with h | h
        · exact HS.out.2.2 g (h ▸ hg)
        · have h1 := h g hg
          have h2 := (HS.out.2.1.trans N2.out).size
          omega
    case measure => simp [intOf]; omega
end Go.Proofs.YtjapijndljknnaaGreatDoor
