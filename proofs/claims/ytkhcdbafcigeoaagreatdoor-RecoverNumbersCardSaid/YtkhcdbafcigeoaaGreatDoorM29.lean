/-
  Texts merged by a program of this claim's: Made, PackPlain, SizePlain.
-/
import Derived.Test.YtkhcdbafcigeoaaGreatDoorM28
import Derived.Test.YtkhcdbafcigeoaaGreatDoorM10
import Derived.Deep.DeepCutAuto
import Derived.Test.YtkhcdbafcigeoaaGreatDoorM6
import Derived.Test.YtkhcdbafcigeoaaGreatDoorM13
namespace Go.Proofs.YtkhcdbafcigeoaaGreatDoor
open Go Go.RowKit Go.Sort
set_option maxRecDepth 100000
set_option maxHeartbeats 3200000
def FilesAt (w : World) (v : Value) (l : List (Str × List UInt8)) : Prop := ∃ a cap, v = .slice a l.length cap ∧ l.length ≤ cap ∧ cap ≤ maxLen ∧ ∀ i (hi : i < l.length), ∃ g o ba bc, a = some ⟨g, o, none⟩ ∧ g < w.heap.size ∧
  w.cell? ⟨g, o + i * 2, none⟩ = some (.string ⟨l[i].1.toArray⟩) ∧ w.cell? ⟨g, o + i * 2 + 1, none⟩ = some (.slice ba l[i].2.length bc) ∧ Bs w (.slice ba l[i].2.length bc) l[i].2
theorem FilesAt.nw {w w' : World} {v : Value} {l : List (Str × List UInt8)} (h : FilesAt w v l) (hw : Nw w w') : FilesAt w' v l := by
  obtain ⟨a, cap, h1, h2, h3, h4⟩ := h
  refine ⟨a, cap, h1, h2, h3, fun i hi => ?_⟩
  obtain ⟨g, o, ba, bc, e1, e2, e3, e4, e5⟩ := h4 i hi
  exact ⟨g, o, ba, bc, e1, Nat.lt_of_lt_of_le e2 hw.size, hw.cell e3, hw.cell e4, e5.nw hw⟩
def madeD (l : List (Str × List UInt8)) : Dsk := l.foldl (fun d x => (d.append x.1 x.2).1) (newDsk 1048576)
theorem madeD_succ (l : List (Str × List UInt8)) (k : Nat) (h : k < l.length) : madeD (l.take (k + 1)) = ((madeD (l.take k)).append l[k].1 l[k].2).1 := by
  unfold madeD
  rw [List.take_succ_eq_append_getElem h, List.foldl_append]
  rfl

theorem m6 {Y : Nat → Prop} {W wc : World} {b p6 g o n k cap xc : Nat} {d d2 : Dsk} {m la : Int} {a : Option Addr} {nn c : Nat} {dn : Bool} {nm : Str} {bs : List UInt8} {xa : Option Addr} {y : Int} (hk : k < n) (hcap : n ≤ cap) (C0 : Hid (wc.cell? ⟨g, o + k * 2, none⟩ = some (.string ⟨nm.toArray⟩))) (C1 : Hid (wc.cell? ⟨g, o + k * 2 + 1, none⟩ = some (.slice xa bs.length xc))) (HG : Hid (g < W.heap.size)) (HBW : Hid (Bs W (.slice xa bs.length xc) bs)) (hnl : nm.length ≤ 100) (hbl : bs.length ≤ 1000000) (HR : Hid (d.append nm bs = (d2, y))) (HT : Hid (Tw Y W wc b d (.agg #[.int .i64 m, .slice a nn c, .int .i64 la, .bool dn]) d))  {u1 u2 u3 u5 u7 u9 u10 u11 u12 u13 u14 u15 u16 u17 u18 u19 u20 u21 u22 u23 u24 u25 u26 u27 u28 u29 u30 u31 u32 u33 u34 u35 u36 u37 u38 u39 u40 u41 u42 u43 u44 u45 u46 u47 u48 u49 u50 u51 : Value} {Q : Exit → Act → World → Prop} (hP : PanicOk Q)
    (hQ : ∀ (s23 s24 s25 s26 s27 s28 s29 s30 s31 s32 s33 s34 : Value)  (wx : World), Tw Y W wx b d2 (.agg #[.int .i64 m, .slice a nn c, .int .i64 la, .bool dn]) d → Kept Y wc wx → Q .normal ⟨#[.slice (some ⟨g, o, none⟩) n cap, u1, u2, u3, .pointer (some ⟨b, 0, none⟩), u5, .pointer (some ⟨p6, 0, none⟩), u7, .int .i64 k, u9, u10, u11, u12, u13, u14, u15, u16, u17, u18, u19, u20, u21, u22, s23, s24, s25, s26, s27, s28, s29, s30, s31, s32, s33, s34, u35, u36, u37, u38, u39, u40, u41, u42, u43, u44, u45, u46, u47, u48, u49, u50, u51], []⟩ wx) :
    Code.wp Tryz.prog ((Tryz.f20.body.bind (regionOf 6)).getD .skip) Q ⟨#[.slice (some ⟨g, o, none⟩) n cap, u1, u2, u3, .pointer (some ⟨b, 0, none⟩), u5, .pointer (some ⟨p6, 0, none⟩), u7, .int .i64 k, u9, u10, u11, u12, u13, u14, u15, u16, u17, u18, u19, u20, u21, u22, u23, u24, u25, u26, u27, u28, u29, u30, u31, u32, u33, u34, u35, u36, u37, u38, u39, u40, u41, u42, u43, u44, u45, u46, u47, u48, u49, u50, u51], []⟩ wc := by
  have _hP := hP
  dsimp only at hQ ⊢
  conv => arg 2; whnf
  have HQ := Lib.hid hQ
  clear hQ
  have hk0 : (0 : Int) ≤ (k : Int) := by omega
  have hk1 : (k : Int) < (n : Int) := by omega
  have hk2 : k < cap := by omega
  have T0 := Lib.hid (HT.out.nw ((Nw.refl wc).drew))
  refine wp_region_steps 11 [.rd 0, .rd 1, .rd 2, .rd 3, .rd 4, .rd 5, .rd 6, .rd 7, .rd 8, .rd 9, .rd 10] [11] (fun x => x.cell? ⟨g, o + k * 2, none⟩ = some (.string ⟨nm.toArray⟩) ∧ x.cell? ⟨g, o + k * 2 + 1, none⟩ = some (.slice xa bs.length xc)) (by kernel_rfl) (by kernel_rfl) hP ⟨C0.out, C1.out⟩ ?_
  refine stp_to (.pointer (some ⟨b, 0, none⟩)) rfl rfl rfl (fun x hx => by go_simp) (fun K hK => ?_); go_simp; refine hK _ ?_; clear hK K
  refine stp_to (.slice (some ⟨g, o, none⟩) n cap) rfl rfl rfl (fun x hx => by go_simp) (fun K hK => ?_); go_simp; refine hK _ ?_; clear hK K
  refine stp_to (.int .i64 k) rfl rfl rfl (fun x hx => by go_simp) (fun K hK => ?_); go_simp; refine hK _ ?_; clear hK K
  refine stp_to (.pointer (some ⟨g, o + k * 2, none⟩)) rfl rfl rfl (fun x hx => by go_simp) (fun K hK => ?_); go_simp; refine hK _ ?_; clear hK K
  refine stp_to (.pointer (some ⟨g, o + k * 2, none⟩)) rfl rfl rfl (fun x hx => by go_simp) (fun K hK => ?_); go_simp; refine hK _ ?_; clear hK K
  refine stp_to (.string ⟨nm.toArray⟩) rfl rfl rfl (fun x hx => by obtain ⟨e1, e2⟩ := hx; go_simp) (fun K hK => ?_); go_simp; refine hK _ ?_; clear hK K
  refine stp_to (.slice (some ⟨g, o, none⟩) n cap) rfl rfl rfl (fun x hx => by go_simp) (fun K hK => ?_); go_simp; refine hK _ ?_; clear hK K
  refine stp_to (.int .i64 k) rfl rfl rfl (fun x hx => by go_simp) (fun K hK => ?_); go_simp; refine hK _ ?_; clear hK K
  refine stp_to (.pointer (some ⟨g, o + k * 2, none⟩)) rfl rfl rfl (fun x hx => by go_simp) (fun K hK => ?_); go_simp; refine hK _ ?_; clear hK K
  refine stp_to (.pointer (some ⟨g, o + k * 2 + 1, none⟩)) rfl rfl rfl (fun x hx => by go_simp) (fun K hK => ?_); go_simp; refine hK _ ?_; clear hK K
  refine stp_to (.slice xa bs.length xc) rfl rfl rfl (fun x hx => by obtain ⟨e1, e2⟩ := hx; go_simp) (fun K hK => ?_); go_simp; refine hK _ ?_; clear hK K
  refine wpSteps_nil ?_
  refine stp_do rfl (by decide) (fun K hK => ?_)
  go_wp2_with fail
  refine (T0.out.dsk (fun X hY hX => hX.append nm bs _ (HBW.out.nw hX.base) (fun hne g' hg => .inr (HBW.out.lt hne g' hg)) (by omega) (by omega) HR.out)).mono ?_
  rintro e w1 ⟨rfl, t1, k1⟩
  have T1 := Lib.hid t1
  have K1 := Lib.hid (((Nw.refl wc).drew).kept.trans k1)
  clear t1 k1
  go_wp2
  (try (refine hK _ _ ?_; clear hK K))
  refine wpNums_nil ?_
  exact HQ.out _ _ _ _ _ _ _ _ _ _ _ _  w1 T1.out K1.out

theorem made_ok {w : World} {v : Value} {l : List (Str × List UInt8)} (hv : FilesAt w v l) (h1 : l.length ≤ 1000) (h2 : ∀ x ∈ l, x.1.length ≤ 100) (h3 : ∀ x ∈ l, x.2.length ≤ 1000000) :
    Calls Tryz.prog 20 #[v] w fun e w' => ∃ (b : Nat) (m : Int) (a : Option Addr) (n c : Nat) (la : Int) (dn : Bool), e = .returned (.tuple #[.pointer (some ⟨b, 0, none⟩), .agg #[.int .i64 m, .slice a n c, .int .i64 la, .bool dn]]) ∧
      Tw (fun _ => False) w w' b (madeD l) (.agg #[.int .i64 m, .slice a n c, .int .i64 la, .bool dn]) (madeD l) := by
  obtain ⟨a0, cap, rfl, hcap, hm, hel⟩ := hv
  have HE := Lib.hid hel
  have H2 := Lib.hid h2
  have H3 := Lib.hid h3
  clear hel h2 h3
  unfold maxLen at hm
  obtain ⟨n, hn⟩ : ∃ n, l.length = n := ⟨_, rfl⟩
  rw [hn] at hcap h1 ⊢
  have HN := Lib.hid hn
  clear hn
  have NA := Lib.hid ((Nw.refl w).alloc (DB (.int .i64 0) (.slice none 0 0) (.int .i64 0) (.bool false)))
  have BA := Lib.hid (heap_alloc_new w (DB (.int .i64 0) (.slice none 0 0) (.int .i64 0) (.bool false)))
  obtain ⟨w0, hw0⟩ : ∃ x, w.alloc (DB (.int .i64 0) (.slice none 0 0) (.int .i64 0) (.bool false)) = x := ⟨_, rfl⟩
  rw [hw0] at NA BA
  unfold DB at hw0
  go_enter Tryz.func20, Tryz.ntmps20
  go_upto_region 1 with fail
  clear hw0
  go_wp2_with fail
  refine (HasX.new 1048576 w0 (by omega) (by omega)).mono ?_
  rintro e w1 ⟨b, rfl, H1⟩
  have H1 := Lib.hid H1
  go_wp2_with fail
  refine (rNew_ok w1 1048576 (by omega) (by omega)).mono ?_
  rintro e w2 ⟨rfl, n2⟩
  have N2 := Lib.hid n2
  clear n2
  have hD : Tw (fun k => False ∨ k < w0.heap.size) w0 w2 b (newDsk 1048576) (.agg #[.int .i64 1048576, .slice none 0 0, .int .i64 (-1), .bool false]) (newDsk 1048576) := Tw.new H1.out.old (rd_new 1048576 (by omega) (by omega) w2 _) N2.out
  have NB := (Nw.refl w2).alloc (DB (.int .i64 1048576) (.slice none 0 0) (.int .i64 (-1)) (.bool false))
  have B6 := Lib.hid (heap_alloc_new w2 (DB (.int .i64 1048576) (.slice none 0 0) (.int .i64 (-1)) (.bool false)))
  have T0 := Lib.hid (hD.nwY (Z := fun k => k < w0.heap.size ∨ k = w2.heap.size) NB (fun k hk => hk.imp .inr (fun e => by subst e; simp)))
  have HPW : Hid (w0.heap.size ≤ w2.heap.size) := Lib.hid hD.base.size
  obtain ⟨p6, hp6⟩ : ∃ x, w2.heap.size = x := ⟨_, rfl⟩
  rw [hp6] at B6 T0 HPW
  clear hD NB H1 N2
  go_upto_region 3 with fail
  rw [show (Obj.cells #[.int .i64 1048576, .slice none 0 0, .int .i64 (-1), .bool false] 43) = DB (.int .i64 1048576) (.slice none 0 0) (.int .i64 (-1)) (.bool false) from rfl]
  generalize w2.alloc (DB (.int .i64 1048576) (.slice none 0 0) (.int .i64 (-1)) (.bool false)) = w3 at B6 T0 ⊢
  (try rw [hp6])
  clear hp6
  go_wp2
  go_loopw [8] (fun i wr => ∃ (k : Nat) (m : Int) (a : Option Addr) (nn c : Nat) (la : Int) (dn : Bool), k ≤ n ∧ i = .int .i64 k ∧ Tw (fun k => k < w0.heap.size ∨ k = p6) w0 wr b (madeD (l.take k)) (.agg #[.int .i64 m, .slice a nn c, .int .i64 la, .bool dn]) (madeD (l.take k)) ∧ wr.heap[p6]? = some (DB (.int .i64 m) (.slice a nn c) (.int .i64 la) (.bool dn))) (fun i _ => n - (intOf i).toNat)
  case atStart => exact ⟨0, _, _, _, _, _, _, by omega, rfl, T0.out, B6.out⟩
  case round =>
    obtain ⟨k, m, a, nn, c, la, dn, hk, rfl, hT, hB⟩ := hrel
    have HT := Lib.hid hT
    have HB := Lib.hid hB
    clear hT hB T0 B6
    by_cases hlt : k < n
    · have hkl : k < l.length := by rw [HN.out]; exact hlt
      obtain ⟨g, o, xa, xc, rfl, hg, c0, c1, hbs⟩ := HE.out k hkl
      have hsu := madeD_succ l k hkl
      have hx1 := H2.out _ (List.getElem_mem hkl)
      have hx2 := H3.out _ (List.getElem_mem hkl)
      generalize l[k] = x at c0 c1 hbs hsu hx1 hx2
      obtain ⟨nm, bs⟩ := x
      simp only at c0 c1 hbs hsu hx1 hx2
      generalize madeD (l.take k) = d at HT hsu
      obtain ⟨d2, y, hr⟩ : ∃ d2 y, d.append nm bs = (d2, y) := ⟨_, _, rfl⟩
      rw [hr] at hsu
      have HSU := Lib.hid hsu
      have HR := Lib.hid hr
      have HBS := Lib.hid (hbs.nw NA.out)
      have HG := Lib.hid (Nat.lt_of_lt_of_le hg NA.out.size)
      have C0 := Lib.hid (HT.out.base.cell (NA.out.cell c0))
      have C1 := Lib.hid (HT.out.base.cell (NA.out.cell c1))
      have CC := Lib.hid (fun W' (hW : Nw w0 W') => And.intro (hW.cell (NA.out.cell c0)) (hW.cell (NA.out.cell c1)))
      clear hr hsu hbs hg c0 c1 hkl
      have q1 : decide ((k : Int) < (n : Int)) = true := by simp; omega
      have hk0 : (0 : Int) ≤ (k : Int) := by omega
      have hwk : IntKind.i64.wrap ((k : Int) + 1) = ((k + 1 : Nat) : Int) := by rw [← Int.natCast_one, ← Int.natCast_add]; exact IntWalk.i64_in _ (by omega)
      go_upto_region 6 with fail
      refine m6 hlt hcap C0 C1 HG HBS hx1 hx2 HR HT (fun _ _ _ _ _ h => h) ?_
      intro s23 s24 s25 s26 s27 s28 s29 s30 s31 s32 s33 s34 w4 t4 k4
      have T4 := Lib.hid t4
      have B4 := Lib.hid (k4.at_ HB.out (.inr rfl))
      clear t4 k4
      go_upto_region 7 with fail
      obtain ⟨c0, c1⟩ := CC.out _ T4.out.base
      obtain ⟨b0, b1, b2, b3, -⟩ := box_cells B4.out
      have RC := Lib.hid (fun (W' : World) (hW : Nw w4 W') => (T4.out.nw hW).rde (fun X hX hR => hR.append hX (n := nm) (l := bs) (by omega) (HBS.out.nw (T4.out.base.trans hW)) (by omega) HR.out))
      go_region_with (refine (RC.out _ (Nw.refl w4).drew).mono ?_; rintro e w5 ⟨m', a', n', c', la', dn', rfl, t1, n1⟩; have T5 := Lib.hid t1; have N5 := Lib.hid (((Nw.refl w4).drew).trans n1); clear t1 n1; have B5 := Lib.hid (N5.out.at_ B4.out); obtain ⟨x0, x1, x2, x3, z0, z1, z2, z3⟩ := box_cells B5.out)
      all_goals
        have hO := only_set4 w5 p6 (.int .i64 m') (.slice a' n' c') (.int .i64 la') (.bool dn')
        have T6 := Lib.hid (T5.out.put (Z := fun k => k < w0.heap.size ∨ k = p6) hO (fun j hj _ => ⟨.inr hj, by rw [hj]; exact HPW.out⟩) (fun j hj => .inl hj))
        have B6 := Lib.hid (heap_set4 B5.out (.int .i64 m') (.slice a' n' c') (.int .i64 la') (.bool dn'))
        clear hO x0 x1 x2 x3 z0 z1 z2 z3
        go_wp2
        go_roundw
        case rel => exact ⟨k + 1, m', a', n', c', la', dn', by omega, by first | rfl | (simp; done) | rw [hwk], by rw [HSU.out]; exact T6.out, B6.out⟩
        case measure => simp only [intOf]; omega
    · obtain rfl : k = n := by omega
      have q1 : decide ((k : Int) < (k : Int)) = false := by simp
      have el : l.take k = l := List.take_of_length_le (by rw [HN.out]; omega)
      rw [el] at HT
      obtain ⟨b0, b1, b2, b3, -⟩ := box_cells HB.out
      have BR := Lib.hid (HT.out.base.at_ BA.out)
      obtain ⟨x0, x1, x2, x3, z0, z1, z2, z3⟩ := box_cells BR.out
      have hlt2 := lt_of_block BR.out
      go_wp2
      go_region_with fail
      all_goals
        (try go_wp2)
        have hO := only_set4 wr w.heap.size (.int .i64 m) (.slice a nn c) (.int .i64 la) (.bool dn)
        have T6 := (HT.out.rebase NA.out).put (Z := fun _ => False) hO (fun j hj _ => ⟨.inl (by have := NA.out.size; have := lt_of_block BA.out; omega), by omega⟩) (fun j hj => hj.elim)
        have B6 := heap_set4 BR.out (.int .i64 m) (.slice a nn c) (.int .i64 la) (.bool dn)
        generalize ((((wr.setCell ⟨w.heap.size, 0, none⟩ (.int .i64 m)).setCell ⟨w.heap.size, 1, none⟩ (.slice a nn c)).setCell ⟨w.heap.size, 2, none⟩ (.int .i64 la)).setCell ⟨w.heap.size, 3, none⟩ (.bool dn)) = w9 at T6 B6 ⊢
        obtain ⟨e0, e1, e2, e3, -⟩ := box_cells B6
        refine bodyPost_ret (v := .tuple #[.pointer (some ⟨b, 0, none⟩), .agg #[.int .i64 m, .slice a nn c, .int .i64 la, .bool dn]]) (by simp [results, Tryz.results20, go_sem, e0, e1, e2, e3]) rfl ?_
        first
          | exact ⟨b, m, a, nn, c, la, dn, rfl, T6⟩
          | exact ⟨b, m, a, nn, c, la, dn, rfl, T6.nw ((Nw.refl _).drew)⟩
end Go.Proofs.YtkhcdbafcigeoaaGreatDoor

namespace Go.Proofs.YtkhcdbafcigeoaaGreatDoor
open Go
def deltas : Int → List Int → List Int
  | _, [] => []
  | a, x :: l => w64 (x - a) :: deltas x l
def headRun (x : Int) : List Int → Nat
  | [] => 0
  | y :: l => if y = x then headRun x l + 1 else 0
def runsOf : Nat → List Int → List (Int × Nat)
  | 0, _ => []
  | _ + 1, [] => []
  | f + 1, x :: l => (x, headRun x l + 1) :: runsOf f (l.drop (headRun x l))
def runB (r : Int × Nat) : List UInt8 := intB r.1 ++ uintB r.2
def colB (l : List Int) : List UInt8 := (runsOf l.length (deltas 0 l)).flatMap runB
def picks : List (Ev → Int) := [Ev.thread, fun e => (e.op.toNat : Int), Ev.obj, Ev.a, Ev.b]
def denseS : Str := [65, 77, 68, 49]
def packIn (n : Nat) (l : List Ev) : List UInt8 := denseS ++ (uintB n ++ (uintB l.length ++ picks.flatMap fun f => colB (l.map f)))
def packB (n : Nat) (l : List Ev) : List UInt8 := sealB sumB (packIn n l)
def sums : Int → List Int → List Int
  | _, [] => []
  | n, x :: D => w64 (n + x) :: sums (w64 (n + x)) D
theorem sums_len : ∀ (D : List Int) (n : Int), (sums n D).length = D.length
  | [], _ => rfl
  | x :: D, n => by simp [sums, sums_len D]
def lastD (n : Int) (l : List Int) : Int := l.getLastD n
theorem sums_append : ∀ (D E : List Int) (n : Int), sums n (D ++ E) = sums n D ++ sums (lastD n (sums n D)) E
  | [], _, _ => rfl
  | x :: D, E, n => by
    simp only [List.cons_append, sums]
    rw [sums_append D E]
    congr 3
    unfold lastD
    cases h : sums (w64 (n + x)) D with
    | nil => simp
    | cons y r =>
      simp only [List.getLastD_cons]
def colR (b : List UInt8) (ok : Int → Bool) (rem : Nat) (first : Bool) (last n at_ : Int) (acc : List Int) : Option (List Int × Int) :=
  if rem = 0 then some (acc, at_) else
  if (getI b at_).2.2 ≠ 0 then none else
  if _h : (getU b (getI b at_).2.1).2.2 ≠ 0 ∨ (getU b (getI b at_).2.1).1 < 1 ∨ rem < (getU b (getI b at_).2.1).1 ∨ (first = false ∧ (getI b at_).1 = last) then none else
  if (sums n (List.replicate (getU b (getI b at_).2.1).1 (getI b at_).1)).all ok = false then none else
  colR b ok (rem - (getU b (getI b at_).2.1).1) false (getI b at_).1 (lastD n (sums n (List.replicate (getU b (getI b at_).2.1).1 (getI b at_).1))) (getU b (getI b at_).2.1).2.1 (acc ++ sums n (List.replicate (getU b (getI b at_).2.1).1 (getI b at_).1))
termination_by rem
decreasing_by omega
theorem colR_zero {b : List UInt8} {ok : Int → Bool} {first : Bool} {last n at_ : Int} {acc : List Int} : colR b ok 0 first last n at_ acc = some (acc, at_) := by
  unfold colR; rw [if_pos rfl]
def okAny : Int → Bool := fun _ => true
def okOp : Int → Bool := fun n => decide (0 ≤ n) && decide (n ≤ 255)
def setT (e : Ev) (v : Int) : Ev := { e with thread := v }
def setOp (e : Ev) (v : Int) : Ev := { e with op := UInt8.ofNat (v % 256).toNat }
def setObj (e : Ev) (v : Int) : Ev := { e with obj := v }
def setA (e : Ev) (v : Int) : Ev := { e with a := v }
def setB (e : Ev) (v : Int) : Ev := { e with b := v }
def cols : List ((Ev → Int → Ev) × (Int → Bool)) := [(setT, okAny), (setOp, okOp), (setObj, okAny), (setA, okAny), (setB, okAny)]
def colsR (b : List UInt8) : List ((Ev → Int → Ev) × (Int → Bool)) → List Ev → Int → Option (List Ev × Int)
  | [], es, at_ => some (es, at_)
  | (set, ok) :: cs, es, at_ => match colR b ok es.length true 0 0 at_ [] with
    | none => none
    | some (vs, x) => colsR b cs (List.zipWith set es vs) x
def unpackIn (u : List UInt8) : Int × List Ev × Int :=
  if ¬ denseS <+: u then (0, [], 10) else
  if (getU u 4).2.2 ≠ 0 ∨ 4611686018427387904 < (getU u 4).1 then (0, [], 10) else
  if (getU u (getU u 4).2.1).2.2 ≠ 0 ∨ (getU u (getU u 4).2.1).1 < 1 ∨ 1048576 < (getU u (getU u 4).2.1).1 then (0, [], 10) else
  match colsR u cols (List.replicate (getU u (getU u 4).2.1).1 Ev.zero) (getU u (getU u 4).2.1).2.1 with
  | none => (0, [], 10)
  | some (es, at_) => if at_ < u.length then (0, [], 10) else (((getU u 4).1 : Int), es, 0)
def unpackB (b : List UInt8) : Int × List Ev × Int := if (unsealB b).2 ≠ 0 then (0, [], (unsealB b).2) else unpackIn (unsealB b).1
end Go.Proofs.YtkhcdbafcigeoaaGreatDoor

namespace Go.Proofs.YtkhcdbafcigeoaaGreatDoor
open Go
structure Sk (size : Int) (c : Nat) (d : Dsk) (L : Lg) (p : Pc) (last : Nat) : Prop where
  inv : ∃ A, LInv d L A p ∧ A.length ≤ c
  most : d.most = 1048576
  used : usedF d.files ≤ 40 + c * 7466
  n : L.n ≤ 30 * c
  bytes : L.bytes ≤ 18 + c * 1239
  sz : L.size = size
  file : (fileOf d.files p.name).bytes.length = L.bytes
  less : p.first < L.n → (L.bytes : Int) < size + last
  last_ : last ≤ L.bytes
  empty : L.n ≤ p.first → L.bytes ≤ 18
theorem Sk.ak {size : Int} {c : Nat} {d : Dsk} {L : Lg} {p : Pc} {last : Nat} (h : Sk size c d L p last) : Ak size c d L := by
  obtain ⟨A, h1, h2⟩ := h.inv
  exact ⟨⟨A, p, h1, h2⟩, h.most, h.used, h.n, h.bytes, h.sz⟩
theorem Sk.new {size : Int} (hs : 64 ≤ size) (hs2 : size ≤ 16777216) : ∃ d, createD (newDsk 1048576) size = (d, 0) ∧ Sk size 0 d (newLg size) ⟨segName 0, 0, 0, false⟩ 0 := by
  obtain ⟨F, h1, h2, h3, h4⟩ := create_calm' 1048576 (by omega) hs hs2
  have hb : (headB 0).length ≤ 18 := headB_len (n := 0) (by omega)
  exact ⟨_, h1, ⟨_, h2, by simp⟩, rfl, by simpa using h3, by simp [newLg], by simpa [newLg] using hb, rfl, by simp only [h4]; simp [fileOf, getF, newLg], by simp [newLg], by omega, fun _ => by simpa [newLg] using hb⟩
section
variable {size : Int} {c : Nat} {d : Dsk} {L : Lg} {p : Pc} {last : Nat}
structure Stay (d : Dsk) (L : Lg) (p : Pc) (es : List Ev) (d' : Dsk) (L' : Lg) : Prop where
  not : ¬ (p.first < L.n ∧ L.size ≤ L.bytes)
  l : L'.l = L.l
  file : (fileOf d'.files p.name).bytes.length = L.bytes + (frmB es).length
structure More (d : Dsk) (L : Lg) (p : Pc) (es : List Ev) (d' : Dsk) (L' : Lg) (p' : Pc) : Prop where
  sealed_ : p.first < L.n ∧ L.size ≤ L.bytes
  len : L'.l.length = L.l.length + 1
  other : p'.name ≠ p.name
  first : p'.first = L.n
  file : (fileOf d'.files p.name).bytes.length = L.bytes
  synced : (fileOf d'.files p.name).synced = L.bytes
  file' : (fileOf d'.files p'.name).bytes.length = (headB L.n).length + (frmB es).length
theorem frmB_pos (es : List Ev) : 0 < (frmB es).length := by
  have : frmB es = uintB (bodyB es).length ++ sealB sumB (bodyB es) := rfl
  rw [this, List.length_append]
  have := uintB_pos (bodyB es).length
  omega
theorem Sk.add (h : Sk size c d L p last) (hc : c < 60) (hs : 64 ≤ size) {es : List Ev} (h1 : es.length ≠ 0) (h2 : es.length ≤ 30) : ∃ d' L' p', L.add d es = ⟨d', L', 0⟩ ∧ Sk size (c + 1) d' L' p' (frmB es).length ∧ L'.n = L.n + es.length ∧
    ((p' = p ∧ Stay d L p es d' L') ∨ More d L p es d' L' p') := by
  obtain ⟨⟨A, hi, hA⟩, hm, hu, hn, hb, hsz, hfl, hle, hla, hem⟩ := h
  have ha0 := hi.acked0
  have ha1 := hi.acked1
  have hf := frm_le h2
  have hpos := frmB_pos es
  by_cases hst : p.first < L.n ∧ L.size ≤ L.bytes
  · obtain ⟨F, a1, a2, a3, a4⟩ := another_calm hi (by omega) hst.1 (by omega) (by rw [hm]; omega)
    obtain ⟨p1, p2, p3⟩ := put_calm a2 es (by simp only; rw [hm]; omega)
    have hh : (headB L.n).length ≤ 18 := headB_len (n := L.n) (by omega)
    have e := add_more hi h1 (by omega) hst (by rw [a1])
    rw [a1] at e
    have hne : segName L.n ≠ p.name := fun hc => hi.no_seg hst.1 (hc ▸ hi.mem)
    have hpm : ¬ p.name = manifestS := (okPiece_name hi.right.name).2.1
    have hsm : ¬ segName L.n = manifestS := (okPiece_name (segName_ok (n := L.n) (by omega))).2.1
    have f0 := a4 (segName L.n)
    rw [if_neg hsm, if_pos rfl] at f0
    have f1 := a4 p.name
    rw [if_neg hpm, if_neg (Ne.symm hne), if_pos rfl] at f1
    have k1 := fileOf_setF F (segName L.n) p.name ⟨(fileOf F (segName L.n)).bytes ++ frmB es, (fileOf F (segName L.n)).synced⟩
    rw [if_neg hne, f1] at k1
    have k2 := fileOf_setF F (segName L.n) (segName L.n) ⟨(fileOf F (segName L.n)).bytes ++ frmB es, (fileOf F (segName L.n)).synced⟩
    rw [if_pos rfl, f0] at k2
    simp only at k2
    refine ⟨_, _, _, e.trans p1, ⟨⟨_, p2, ?_⟩, hm, ?_, ?_, ?_, hsz, ?_, ?_, ?_, ?_⟩, rfl, .inr ⟨hst, ?_, hne, rfl, ?_, ?_, ?_⟩⟩
    · simp; omega
    · rw [p3]; simp only; omega
    · simp only; omega
    · simp only; omega
    · simp only [f0]; rw [k2]; simp
    · intro _; simp only; omega
    · simp only; omega
    · intro hc; simp only at hc; omega
    · simp only; rw [morePcs_eq hi, hi.l]; simp
    · simp only; rw [k1]; exact hfl
    · simp only; rw [k1]; exact hfl
    · simp only [f0]; rw [k2]; simp
  · obtain ⟨p1, p2, p3⟩ := put_calm hi es (by rw [hm]; omega)
    have k2 := fileOf_setF d.files p.name p.name ⟨(fileOf d.files p.name).bytes ++ frmB es, (fileOf d.files p.name).synced⟩
    rw [if_pos rfl] at k2
    have kl : (fileOf (setF d.files p.name ⟨(fileOf d.files p.name).bytes ++ frmB es, (fileOf d.files p.name).synced⟩) p.name).bytes.length = L.bytes + (frmB es).length := by
      rw [k2]; simp [hfl]
    refine ⟨_, _, _, (add_stay hi h1 (by omega) hst).trans p1, ⟨⟨_, p2, by omega⟩, hm, ?_, ?_, ?_, hsz, kl, ?_, ?_, ?_⟩, rfl, .inl ⟨rfl, hst, rfl, kl⟩⟩
    · simp only; rw [p3]; omega
    · simp only; omega
    · simp only; omega
    · intro _; simp only
      by_cases hp : p.first < L.n
      · have : ¬ L.size ≤ L.bytes := fun hc => hst ⟨hp, hc⟩
        omega
      · have := hem (by omega)
        omega
    · simp only; omega
    · intro hc; simp only at hc; omega
end
end Go.Proofs.YtkhcdbafcigeoaaGreatDoor
