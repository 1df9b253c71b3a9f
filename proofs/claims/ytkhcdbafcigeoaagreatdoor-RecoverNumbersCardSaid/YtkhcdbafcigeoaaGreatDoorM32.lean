/-
  Texts merged by a program of this claim's: ToldA, RecA, RecB, Names.
-/
import Derived.Test.YtkhcdbafcigeoaaGreatDoorM19
import Derived.Test.YtkhcdbafcigeoaaGreatDoorM30
import Derived.Test.YtkhcdbafcigeoaaGreatDoorM9
import Derived.Test.YtkhcdbafcigeoaaGreatDoorM14
import Derived.Test.YtkhcdbafcigeoaaGreatDoorM31
import Derived.Deep.DeepCutAuto
import Derived.Test.YtkhcdbafcigeoaaGreatDoorM13
namespace Go.Proofs.YtkhcdbafcigeoaaGreatDoor
open Go Go.RowKit Go.Sort
set_option maxRecDepth 100000
set_option maxHeartbeats 1600000

theorem frs_len (b : List UInt8) : ∀ (k : Nat) (at_ : Int) (acc : List Ev), ((b.length : Int) - at_).toNat = k → 0 ≤ at_ → at_ ≤ b.length → ((frs b at_ acc).1.length : Int) ≤ acc.length + (b.length - at_) := by
  intro k
  induction k using Nat.strongRecOn with
  | ind k ih =>
    intro at_ acc hk h0 h1
    by_cases he : (readFr b at_).2.2 = 0
    · have hf := readFr_fine he
      have hl := readFr_len he
      rw [frs_yes he]
      have := ih _ (by omega) (readFr b at_).2.1 (acc ++ (readFr b at_).1) rfl (by omega) hf.2.2.1
      rw [List.length_append] at this
      omega
    · rw [frs_no he]
      simp only
      omega
theorem headR_place {l : List UInt8} (h : (headR l).2.2 = 0) : 0 ≤ (headR l).2.1 ∧ (headR l).2.1 ≤ l.length := by
  unfold headR at h ⊢
  split
  · rename_i hx; rw [if_pos hx] at h; exact absurd h (by simp)
  rename_i h1
  rw [if_neg h1] at h
  split
  · rename_i hx; rw [if_pos hx] at h; exact absurd h (by simp)
  rename_i h2
  rw [if_neg h2] at h
  split
  · rename_i hx; rw [if_pos hx] at h; exact absurd h (by simp)
  rename_i h3
  rw [if_neg h3] at h
  split
  · rename_i hx; rw [if_pos hx] at h; exact absurd h hx
  rename_i h4
  rw [if_neg h4] at h
  have hg := getU_fine (b := l) (at_ := 4) (by rcases Decidable.em ((getU l 4).2.2 = 0) with h | h; exact h; exact absurd h h4)
  split
  · rename_i hx; rw [if_pos hx] at h; exact absurd h (by simp)
  rename_i h5
  rw [if_neg h5] at h
  split
  · rename_i hx; rw [if_pos hx] at h; exact absurd h hx
  · simp only
    omega
theorem scanB_len (b : List UInt8) : (scanB b).2.1.length ≤ b.length := by
  unfold scanB
  split
  · simp
  · rename_i h
    have h0 : (headR b).2.2 = 0 := by rcases Decidable.em ((headR b).2.2 = 0) with h1 | h1; exact h1; exact absurd h1 h
    obtain ⟨a, c⟩ := headR_place h0
    have := frs_len b _ (headR b).2.1 [] rfl a c
    simp only [List.length_nil] at this
    simp only
    omega
theorem listedB_right {b : List UInt8} (h : (listedB b).2 = 0) : rightL (listedB b).1 = true := by
  unfold listedB at h ⊢
  split
  · rename_i hx; rw [if_pos hx] at h; exact absurd h hx
  rename_i h1
  rw [if_neg h1] at h
  unfold listedIn at h ⊢
  split
  · rename_i hx; rw [if_pos hx] at h; exact absurd h (by simp)
  rename_i h2
  rw [if_neg h2] at h
  split
  · rename_i hx; rw [if_pos hx] at h; exact absurd h (by simp)
  rename_i h3
  rw [if_neg h3] at h
  cases hp : pcsFrom (unsealB b).1 (getU (unsealB b).1 4).1 (getU (unsealB b).1 4).2.1 [] with
  | none => rw [hp] at h; exact absurd h (by simp)
  | some r =>
    rw [hp] at h
    simp only at h ⊢
    split
    · rename_i hx; rw [if_pos hx] at h; exact absurd h (by simp)
    rename_i h4
    rw [if_neg h4] at h
    split
    · rename_i hx; exact hx
    · rename_i hx; rw [if_neg hx] at h; exact absurd h (by simp)
theorem read_len {d : Dsk} (ok : d.Ok) (n : Str) : (d.read n).1.length ≤ 16777216 := by
  unfold Dsk.read
  split
  · simp
  · split
    · simp
    · rename_i f hf
      exact bytes_le ok hf
end Go.Proofs.YtkhcdbafcigeoaaGreatDoor

namespace Go.Proofs.YtkhcdbafcigeoaaGreatDoor
open Go Go.RowKit Go.Sort
set_option maxRecDepth 100000
set_option maxHeartbeats 1600000

theorem cell_of {W : World} {p : Nat} {cs : Array Value} {t : TypeId} {fz : Nat × Nat} (h : W.heap[p]? = some (.cells cs t fz)) {i : Nat} {v : Value} (hi : cs[i]? = some v) : W.cell? ⟨p, i, none⟩ = some v := by simp [World.cell?, h, hi]
structure DenOk (U : List UInt8 → Int × List Ev × Int) : Prop where
  calls : ∀ (W : World) (v : Value) (b : List UInt8), Bs W v b → b.length ≤ 16777216 → Calls Tryz.prog 172 #[v] W fun z w' => ∃ v', z = .returned (.tuple #[.int .i64 (U b).1, v', .int .i64 (U b).2.2]) ∧ OwnE W w' v' (U b).2.1
  len : ∀ b, (U b).2.1.length ≤ 16777216
section
variable {X : Nat → Prop} {w0 w : World} {b : Nat} {d : Dsk} {U : List UInt8 → Int × List Ev × Int}
theorem read_ok (h : HasX X w0 w b d) (n : Str) {l : List UInt8} {x : Int} (hr : readFl d n = (l, x)) :
    Calls Tryz.prog 171 #[.pointer (some ⟨b, 0, none⟩), .string ⟨n.toArray⟩] w fun e w' => ∃ v, e = .returned (.tuple #[v, .int .i64 x]) ∧ Bs w' v l ∧ Nw w w' := by
  obtain ⟨⟨l1, x1⟩, hd⟩ : ∃ y, d.read n = y := ⟨_, rfl⟩
  have HR := Lib.hid (h.read n hd)
  unfold readFl at hr
  rw [hd] at hr
  simp only [Prod.mk.injEq] at hr
  obtain ⟨rfl, hx⟩ := hr
  clear h hd
  by_cases c1 : x1 = 13
  · subst c1
    obtain rfl : 14 = x := by simpa using hx
    go_enter Tryz.func171, Tryz.ntmps171
    go_wp2_with fail
    refine HR.out.mono ?_
    rintro z w1 ⟨v1, rfl, o1, n1, -⟩
    have O1 := Lib.hid o1.rd
    have N1 := Lib.hid n1
    clear o1 n1
    go_wp2
    refine bodyPost_ret (v := .tuple #[v1, .int .i64 14]) (by simp [results, Tryz.results171, go_sem]) rfl ⟨_, rfl, O1.out, N1.out⟩
  · have q1 : (x1 == 13) = false := by simpa using c1
    rw [if_neg c1] at hx
    subst hx
    go_enter Tryz.func171, Tryz.ntmps171
    go_wp2_with fail
    refine HR.out.mono ?_
    rintro z w1 ⟨v1, rfl, o1, n1, -⟩
    have O1 := Lib.hid o1.rd
    have N1 := Lib.hid n1
    clear o1 n1
    go_wp2
    refine bodyPost_ret (v := .tuple #[v1, .int .i64 x1]) (by simp [results, Tryz.results171, go_sem]) rfl ⟨_, rfl, O1.out, N1.out⟩
theorem readFl_len {d : Dsk} (ok : d.Ok) (n : Str) : (readFl d n).1.length ≤ 16777216 := read_len ok n
theorem RPiece_ok (h : HasX X w0 w b d) (q : Pc) (op : Bool) (hU : q.dense = true → DenOk U) {es : List Ev} {g x : Int} (hr : pieceD U d q op = (es, g, x)) :
    Calls Tryz.prog 133 #[.pointer (some ⟨b, 0, none⟩), .agg #[.string ⟨q.name.toArray⟩, .int .i64 q.first, .int .i64 q.count, .bool q.dense], .bool op] w
      fun z w' => ∃ v', z = .returned (.tuple #[v', .int .i64 g, .int .i64 x]) ∧ OwnE w w' v' es := by
  obtain ⟨⟨l, x1⟩, hd⟩ : ∃ y, readFl d q.name = y := ⟨_, rfl⟩
  have hl : l.length ≤ 16777216 := by have := readFl_len h.ok q.name; rw [hd] at this; exact this
  obtain ⟨S, hS⟩ : ∃ s, segR U q.dense l = s := ⟨_, rfl⟩
  have hall : (if x1 ≠ 0 then ([], 0, x1) else if segBad U q op l then ([], 0, 14) else (S.2.1, S.2.2.1, 0)) = (es, g, x) := by
    rw [← hr, ← hS]; unfold pieceD; rw [hd]
  have n1 := (Nw.refl w).alloc (.cells #[.string ⟨q.name.toArray⟩, .int .i64 q.first, .int .i64 q.count, .bool q.dense] 39)
  have b1 := heap_alloc_new w (.cells #[.string ⟨q.name.toArray⟩, .int .i64 q.first, .int .i64 q.count, .bool q.dense] 39)
  have HR := Lib.hid (read_ok (h.nw n1) q.name hd)
  have c0 : (w.alloc (.cells #[.string ⟨q.name.toArray⟩, .int .i64 q.first, .int .i64 q.count, .bool q.dense] 39)).cell? ⟨w.heap.size, 0, none⟩ = some (.string ⟨q.name.toArray⟩) := cell_of b1 rfl
  have N1 := Lib.hid n1
  have B1 := Lib.hid b1
  have HSeg := Lib.hid hS
  have HBad : Hid (segBad U q op l ↔ (S.2.2.2 ≠ 0 ∨ S.1 ≠ q.first ∨ (op = false ∧ (S.2.2.1 < l.length ∨ (S.2.1.length : Int) ≠ q.count)))) := Lib.hid (by unfold segBad; rw [hS])
  obtain ⟨n, f0, cn, dn⟩ := q
  simp only at HR c0 HSeg HBad N1 B1 hU ⊢
  clear h hr hd hS n1 b1
  by_cases e1 : x1 = 0
  case neg =>
    have q1 : (x1 != 0) = true := by simpa using e1
    rw [if_pos e1] at hall
    obtain ⟨rfl, rfl, rfl⟩ : [] = es ∧ 0 = g ∧ x1 = x := by simpa using hall
    clear hall hU hl
    go_enter Tryz.func133, Tryz.ntmps133
    go_wp2_with fail
    refine HR.out.mono ?_
    rintro z w2 ⟨v2, rfl, -, n2⟩
    have N2 := Lib.hid (N1.out.trans n2)
    clear n2
    go_wp2
    refine bodyPost_ret (v := .tuple #[.slice none 0 0, .int .i64 0, .int .i64 x1]) (by simp [results, Tryz.results133, go_sem]) rfl ⟨_, rfl, Vec.nil, N2.out, fun g hg => by cases hg⟩
  subst e1
  rw [if_neg (by simp)] at hall
  have HALL := Lib.hid hall
  clear hall
  obtain ⟨ln, hln⟩ : ∃ k, l.length = k := ⟨_, rfl⟩
  have HLN := Lib.hid hln
  obtain ⟨fi, se, gd, er⟩ := S
  simp only at HSeg HBad HALL
  obtain ⟨ne, hne⟩ : ∃ k, se.length = k := ⟨_, rfl⟩
  have HNE := Lib.hid hne
  rw [hln, hne] at HBad
  clear hne
  have HSC : Hid (∀ (W : World) (v : Value), Bs W v l → dn = false → Calls Tryz.prog 173 #[v] W fun z w' => ∃ v', z = .returned (.tuple #[.int .i64 fi, v', .int .i64 gd, .int .i64 er]) ∧ OwnE W w' v' se) := Lib.hid (fun W v hb hdn => SScan_ok hb (by omega) (by have := HSeg.out; unfold segR at this; rw [hdn] at this; simpa using this))
  have HUN : Hid (∀ (W : World) (v : Value), Bs W v l → dn = true → gd = (ln : Int) ∧ Calls Tryz.prog 172 #[v] W fun z w' => ∃ v', z = .returned (.tuple #[.int .i64 fi, v', .int .i64 er]) ∧ OwnE W w' v' se) := Lib.hid (fun W v hb hdn => by
    have := HSeg.out; unfold segR at this; rw [hdn] at this
    simp only [if_true, Prod.mk.injEq] at this
    obtain ⟨a1, a2, a3, a4⟩ := this
    refine ⟨by rw [← a3, hln], ?_⟩
    have C := (hU hdn).calls W v l hb hl
    rw [a1, a2, a4] at C
    exact C)
  clear hln hU
  go_enter Tryz.func133, Tryz.ntmps133
  go_wp2_with fail
  refine HR.out.mono ?_
  rintro z w2 ⟨v2, rfl, b2, n2⟩
  obtain ⟨xa, xc, rfl, hxl⟩ := b2.len
  rw [HLN.out] at hl b2 ⊢
  have BS := Lib.hid b2
  have B2 := n2.at_ B1.out
  obtain ⟨k0, k1, k2, k3⟩ : w2.cell? ⟨w.heap.size, 0, none⟩ = some (.string ⟨n.toArray⟩) ∧ w2.cell? ⟨w.heap.size, 1, none⟩ = some (.int .i64 f0) ∧ w2.cell? ⟨w.heap.size, 2, none⟩ = some (.int .i64 cn) ∧ w2.cell? ⟨w.heap.size, 3, none⟩ = some (.bool dn) := by simp [World.cell?, B2]
  have hbl := lt_of_block B2
  have N2 := Lib.hid (N1.out.trans n2)
  have B2 := Lib.hid B2
  clear n2 b2 c0 HR hxl k0 k1 k2
  go_upto_if 27 with fail
  go_cut [10, 11, 12, 13] (fun ve vf vg vv wx => ∃ a c, ve = .int .i64 er ∧ vf = .int .i64 fi ∧ vg = .int .i64 gd ∧ vv = .slice a ne c ∧ OwnE w wx vv se ∧ Nw w2 wx)
  case first =>
    cases dn
    · go_wp2_with fail
      refine (HSC.out _ _ BS.out (by first | rfl | trivial)).mono ?_
      rintro z w3 ⟨v3, rfl, o3⟩
      have o31 := o3.1.len
      rw [HNE.out] at o31
      obtain ⟨ya, yc, rfl, -⟩ := o31
      have O3 := Lib.hid (OwnE.from N2.out o3)
      have N3 := Lib.hid o3.2.1
      clear o3
      go_wp2_with fail
      go_meet
      case rel => exact ⟨ya, yc, rfl, rfl, rfl, rfl, O3.out, N3.out⟩
    · obtain ⟨hg, hc⟩ := HUN.out _ _ BS.out (by first | rfl | trivial)
      subst hg
      have HC := Lib.hid hc
      clear hc
      go_wp2_with fail
      refine HC.out.mono ?_
      rintro z w3 ⟨v3, rfl, o3⟩
      have o31 := o3.1.len
      rw [HNE.out] at o31
      obtain ⟨ya, yc, rfl, -⟩ := o31
      have O3 := Lib.hid (OwnE.from N2.out o3)
      have N3 := Lib.hid o3.2.1
      clear o3
      go_wp2_with fail
      go_meet
      case rel => exact ⟨ya, yc, rfl, rfl, rfl, rfl, O3.out, N3.out⟩
  case rest =>
    obtain ⟨ya, yc, rfl, rfl, rfl, rfl, o3, n3⟩ := hcut
    have O3 := Lib.hid o3
    have B3 := n3.at_ B2.out
    obtain ⟨k1, k2⟩ : wc.cell? ⟨w.heap.size, 1, none⟩ = some (.int .i64 f0) ∧ wc.cell? ⟨w.heap.size, 2, none⟩ = some (.int .i64 cn) := by simp [World.cell?, B3]
    have hbl3 := lt_of_block B3
    clear o3 n3 B3 hbl k3
    by_cases d1 : er = 0
    case neg =>
      have q1 : (er != 0) = true := by simpa using d1
      have ha := HALL.out
      rw [if_pos (HBad.out.2 (.inl d1))] at ha
      obtain ⟨rfl, rfl, rfl⟩ : [] = es ∧ 0 = g ∧ 14 = x := by simpa using ha
      clear ha
      go_wp2
      refine bodyPost_ret (v := .tuple #[.slice none 0 0, .int .i64 0, .int .i64 14]) (by simp [results, Tryz.results133, go_sem]) rfl ⟨_, rfl, Vec.nil, O3.out.2.1, fun g hg => by cases hg⟩
    subst d1
    by_cases d2 : fi = f0
    case neg =>
      have q1 : (fi != f0) = true := by simpa using d2
      have ha := HALL.out
      rw [if_pos (HBad.out.2 (.inr (.inl d2)))] at ha
      obtain ⟨rfl, rfl, rfl⟩ : [] = es ∧ 0 = g ∧ 14 = x := by simpa using ha
      clear ha
      go_wp2
      refine bodyPost_ret (v := .tuple #[.slice none 0 0, .int .i64 0, .int .i64 14]) (by simp [results, Tryz.results133, go_sem]) rfl ⟨_, rfl, Vec.nil, O3.out.2.1, fun g hg => by cases hg⟩
    have q2 : (fi != f0) = false := by simpa using d2
    cases op
    case true =>
      have ha := HALL.out
      rw [if_neg (fun hb => by
        rcases HBad.out.1 hb with h | h | ⟨h, -⟩
        · exact h rfl
        · exact h d2
        · cases h)] at ha
      obtain ⟨rfl, rfl, rfl⟩ : se = es ∧ gd = g ∧ 0 = x := by simpa using ha
      clear ha
      go_wp2
      refine bodyPost_ret (v := .tuple #[.slice ya ne yc, .int .i64 gd, .int .i64 0]) (by simp [results, Tryz.results133, go_sem]) rfl ⟨_, rfl, O3.out⟩
    case false =>
      by_cases d3 : gd < (ln : Int)
      case pos =>
        have q3 : decide (gd < (ln : Int)) = true := by simpa using d3
        have ha := HALL.out
        rw [if_pos (HBad.out.2 (.inr (.inr ⟨rfl, .inl d3⟩)))] at ha
        obtain ⟨rfl, rfl, rfl⟩ : [] = es ∧ 0 = g ∧ 14 = x := by simpa using ha
        clear ha
        go_wp2
        refine bodyPost_ret (v := .tuple #[.slice none 0 0, .int .i64 0, .int .i64 14]) (by simp [results, Tryz.results133, go_sem]) rfl ⟨_, rfl, Vec.nil, O3.out.2.1, fun g hg => by cases hg⟩
      have q3 : decide (gd < (ln : Int)) = false := by simpa using d3
      by_cases d4 : (ne : Int) = cn
      case neg =>
        have q4 : ((ne : Int) != cn) = true := by simpa using d4
        have ha := HALL.out
        rw [if_pos (HBad.out.2 (.inr (.inr ⟨rfl, .inr d4⟩)))] at ha
        obtain ⟨rfl, rfl, rfl⟩ : [] = es ∧ 0 = g ∧ 14 = x := by simpa using ha
        clear ha
        go_wp2
        refine bodyPost_ret (v := .tuple #[.slice none 0 0, .int .i64 0, .int .i64 14]) (by simp [results, Tryz.results133, go_sem]) rfl ⟨_, rfl, Vec.nil, O3.out.2.1, fun g hg => by cases hg⟩
      have q4 : ((ne : Int) != cn) = false := by simpa using d4
      have ha := HALL.out
      rw [if_neg (fun hb => by
        rcases HBad.out.1 hb with h | h | ⟨-, h | h⟩
        · exact h rfl
        · exact h d2
        · exact d3 h
        · exact h d4)] at ha
      obtain ⟨rfl, rfl, rfl⟩ : se = es ∧ gd = g ∧ 0 = x := by simpa using ha
      clear ha
      go_wp2
      refine bodyPost_ret (v := .tuple #[.slice ya ne yc, .int .i64 gd, .int .i64 0]) (by simp [results, Tryz.results133, go_sem]) rfl ⟨_, rfl, O3.out⟩
end
end Go.Proofs.YtkhcdbafcigeoaaGreatDoor

namespace Go.Proofs.YtkhcdbafcigeoaaGreatDoor
open Go Go.RowKit Go.Sort
set_option maxRecDepth 100000
set_option maxHeartbeats 1600000
def DenFor (U : List UInt8 → Int × List Ev × Int) (d : Dsk) : Prop := DenOk U ∨ ∀ q ∈ (listedB (d.read manifestS).1).1, q.dense = false
section
variable {X : Nat → Prop} {w0 w : World} {b : Nat} {d : Dsk} {U : List UInt8 → Int × List Ev × Int}
theorem pieceD_len' {q : Pc} (hU : q.dense = true → DenOk U) (ok : d.Ok) (op : Bool) : (pieceD U d q op).1.length ≤ 16777216 := by
  unfold pieceD
  split
  · simp
  · split
    · simp
    · have hl := readFl_len ok q.name
      unfold segR
      split
      · rename_i h; exact (hU h).len _
      · have := scanB_len (readFl d q.name).1
        simp only
        omega
theorem pcsD_cons (q : Pc) (l : List Pc) (out : List Ev) (g : Int) : pcsD U d (q :: l) out g = if (pieceD U d q (decide (l = []))).2.2 ≠ 0 then ([], 0, (pieceD U d q (decide (l = []))).2.2) else pcsD U d l (out ++ (pieceD U d q (decide (l = []))).1) (pieceD U d q (decide (l = []))).2.1 := rfl
theorem scan_ok (h : HasX X w0 w b d) (hU : DenFor U d) {es : List Ev} {ps : List Pc} {good x : Int} (hr : scanD U d = ⟨es, ps, good, x⟩) :
    Calls Tryz.prog 78 #[.pointer (some ⟨b, 0, none⟩)] w fun z w' => ∃ v p, z = .returned (.tuple #[v, p, .int .i64 good, .int .i64 x]) ∧ OwnE w w' v es ∧ OwnP w w' p ps := by
  have H := Lib.hid h
  obtain ⟨⟨mb, e1⟩, hm⟩ : ∃ y, d.read manifestS = y := ⟨_, rfl⟩
  have HM := Lib.hid (h.read manifestS hm)
  have hml := read_len h.ok manifestS
  unfold DenFor at hU
  unfold scanD at hr
  rw [hm] at hr hml hU
  simp only at hr hml hU
  clear h hm
  by_cases c13 : e1 = 13
  · subst c13
    rw [if_pos rfl] at hr
    obtain ⟨rfl, rfl, rfl, rfl⟩ : [] = es ∧ [] = ps ∧ 0 = good ∧ 0 = x := by simpa using hr
    clear hr hU
    go_enter Tryz.func78, Tryz.ntmps78
    go_wp2_with fail
    refine HM.out.mono ?_
    rintro z w1 ⟨v1, rfl, -, n1, -⟩
    have N1 := Lib.hid n1
    clear n1
    go_wp2
    refine bodyPost_ret (v := .tuple #[.slice none 0 0, .slice none 0 0, .int .i64 0, .int .i64 0]) (by simp [results, Tryz.results78, go_sem]) rfl ⟨_, _, rfl, ⟨Vec.nil, N1.out, fun g hg => by cases hg⟩, OwnP.nil N1.out⟩
  rw [if_neg c13] at hr
  by_cases c1 : e1 = 0
  case neg =>
    have q1 : (e1 == 0) = false := by simpa using c1
    have q2 : (e1 == 13) = false := by simpa using c13
    rw [if_pos c1] at hr
    obtain ⟨rfl, rfl, rfl, rfl⟩ : [] = es ∧ [] = ps ∧ 0 = good ∧ e1 = x := by simpa using hr
    clear hr hU
    go_enter Tryz.func78, Tryz.ntmps78
    go_wp2_with fail
    refine HM.out.mono ?_
    rintro z w1 ⟨v1, rfl, -, n1, -⟩
    have N1 := Lib.hid n1
    clear n1
    go_wp2
    refine bodyPost_ret (v := .tuple #[.slice none 0 0, .slice none 0 0, .int .i64 0, .int .i64 e1]) (by simp [results, Tryz.results78, go_sem]) rfl ⟨_, _, rfl, ⟨Vec.nil, N1.out, fun g hg => by cases hg⟩, OwnP.nil N1.out⟩
  subst c1
  rw [if_neg (by simp)] at hr
  obtain ⟨⟨pl, e2⟩, hp⟩ : ∃ y, listedB mb = y := ⟨_, rfl⟩
  have hrt := listedB_right (b := mb)
  rw [hp] at hr hrt hU
  simp only at hr hrt hU
  have HP := Lib.hid (fun (W : World) (v : Value) (hb : Bs W v mb) => Listed_ok hb (by omega) hp)
  clear hp c13
  by_cases c2 : e2 = 0
  case neg =>
    have q1 : (e2 != 0) = true := by simpa using c2
    rw [if_pos c2] at hr
    obtain ⟨rfl, rfl, rfl, rfl⟩ : [] = es ∧ [] = ps ∧ 0 = good ∧ 14 = x := by simpa using hr
    clear hrt hr hU
    go_enter Tryz.func78, Tryz.ntmps78
    go_wp2_with fail
    refine HM.out.mono ?_
    rintro z w1 ⟨v1, rfl, o1, n1, -⟩
    obtain ⟨xa, xc, rfl, -⟩ := o1.rd.len
    have O1 := Lib.hid o1.rd
    have N1 := Lib.hid n1
    clear n1 o1
    go_wp2_with fail
    refine (HP.out w1 _ O1.out).mono ?_
    rintro z w2 ⟨v2, rfl, o2⟩
    have N2 := Lib.hid (N1.out.trans o2.2.2.1)
    clear o2
    go_wp2
    refine bodyPost_ret (v := .tuple #[.slice none 0 0, .slice none 0 0, .int .i64 0, .int .i64 14]) (by simp [results, Tryz.results78, go_sem]) rfl ⟨_, _, rfl, ⟨Vec.nil, N2.out, fun g hg => by cases hg⟩, OwnP.nil N2.out⟩
  subst c2
  rw [if_neg (by simp)] at hr
  have hpl := (rightL_bound (hrt rfl)).2.1
  obtain ⟨np, hnp⟩ : ∃ n, pl.length = n := ⟨_, rfl⟩
  rw [hnp] at hpl
  have HNP := Lib.hid hnp
  obtain ⟨R, hR⟩ : ∃ r, pcsD U d pl [] 0 = r := ⟨_, rfl⟩
  rw [hR] at hr
  have HR := Lib.hid hR
  have HRR := Lib.hid hr
  have HU : Hid (∀ q ∈ pl, q.dense = true → DenOk U) := Lib.hid (fun q hq hd => by
    rcases hU with h | h
    · exact h
    · rw [h q hq] at hd; cases hd)
  obtain ⟨i0, hi, hz0, hz1, hz2⟩ := info_parts infoEv
  have HI := Lib.hid hi
  have HZ0 := Lib.hid hz0
  have HZ1 := Lib.hid hz1
  have HZ2 := Lib.hid hz2
  clear hi hz0 hz1 hz2 hr hR hrt hnp hU
  go_enter Tryz.func78, Tryz.ntmps78
  go_wp2_with fail
  refine HM.out.mono ?_
  rintro z w1 ⟨v1, rfl, o1, n1, -⟩
  obtain ⟨xa, xc, rfl, -⟩ := o1.rd.len
  have O1 := Lib.hid o1.rd
  have N1 := Lib.hid n1
  clear n1 o1
  go_wp2_with fail
  refine (HP.out w1 _ O1.out).mono ?_
  rintro z w2 ⟨v2, rfl, o2⟩
  have N2 := Lib.hid (N1.out.trans o2.2.2.1)
  have P2 := Lib.hid o2.pcs
  have OP2 := Lib.hid (OwnP.from N1.out o2)
  obtain ⟨pa, pc, rfl, hpc1, hpc2, -⟩ := o2.pcs.elem
  rw [HNP.out] at hpc1 P2 OP2 ⊢
  clear o2 hpc2
  go_wp2
  go_loopw [9, 10, 36] (fun s gv i wr => ∃ (k m : Nat) (out : List Ev) (g : Int), k ≤ np ∧ i = .int .i64 k ∧ gv = .int .i64 g ∧ pcsD U d (pl.drop k) out g = R ∧ Vec 5 wr s m (out.flatMap evV) ∧ out.length = m ∧ m ≤ 16777216 * k ∧ Nw w wr ∧ Nw w2 wr ∧ ∀ g, s.ownBlock = some g → w2.heap.size ≤ g) (fun _ _ i _ => np - (intOf i).toNat)
  case atStart => exact ⟨0, 0, [], 0, Nat.zero_le _, rfl, rfl, HR.out, Vec.nil, rfl, by omega, N2.out, Nw.refl _, fun g hg => by cases hg⟩
  case round =>
    obtain ⟨k, m, out, gd, hk, rfl, rfl, htf, hs, hm, hmk, hw, hw2, hfr⟩ := hrel
    obtain ⟨sa, sc, rfl, -⟩ := hs.len
    have HS := Lib.hid (And.intro hs (And.intro hw (And.intro hw2 hfr)))
    have HTF := Lib.hid htf
    have HML := Lib.hid hm
    clear hs hw hw2 hfr htf hm
    by_cases hlt : k < np
    case neg =>
      obtain rfl : k = np := by omega
      have rr := HTF.out
      rw [List.drop_of_length_le (by rw [HNP.out]; exact Nat.le_refl _)] at rr
      unfold pcsD at rr
      have r2 := HRR.out
      rw [← rr, if_neg (by simp)] at r2
      obtain ⟨rfl, rfl, rfl, rfl⟩ : out = es ∧ pl = ps ∧ gd = good ∧ 0 = x := by simpa using r2
      clear rr r2
      go_wp2
      refine bodyPost_ret (v := .tuple #[.slice sa m sc, .slice pa k pc, .int .i64 gd, .int .i64 0]) (by simp [results, Tryz.results78, go_sem]) rfl ⟨_, _, rfl, ⟨?_, HS.out.2.1, fun g hg => Nat.le_trans N2.out.size (HS.out.2.2.2 g hg)⟩, OP2.out.nw HS.out.2.2.1⟩
      rw [HML.out]; exact HS.out.1
    have hkl : k < pl.length := by rw [HNP.out]; exact hlt
    obtain ⟨g, o, hpe, hg, x0, x1, x2, x3⟩ := pcs_at P2.out HNP.out hlt
    subst hpe
    have x0 := HS.out.2.2.1.cell x0
    have x1 := HS.out.2.2.1.cell x1
    have x2 := HS.out.2.2.1.cell x2
    have x3 := HS.out.2.2.1.cell x3
    have hg := Nat.lt_of_lt_of_le hg HS.out.2.2.1.size
    have rr := HTF.out
    rw [List.drop_eq_getElem_cons hkl, pcsD_cons] at rr
    have hlast : decide (pl.drop (k + 1) = []) = ((k : Int) == (np : Int) - 1) := by
      have : (pl.drop (k + 1) = []) ↔ (k : Int) = (np : Int) - 1 := by rw [← HNP.out, List.drop_eq_nil_iff]; omega
      by_cases hc : (k : Int) = (np : Int) - 1
      · rw [decide_eq_true (this.2 hc)]; simp [hc]
      · rw [decide_eq_false (fun h => hc (this.1 h))]; symm; simpa using hc
    rw [hlast] at rr
    have hqm : pl[k] ∈ pl := List.getElem_mem hkl
    have hden := HU.out _ hqm
    generalize (pl[k] : Pc) = q at x0 x1 x2 x3 rr hden
    obtain ⟨op, hop⟩ : ∃ t : Bool, ((k : Int) == (np : Int) - 1) = t := ⟨_, rfl⟩
    rw [hop] at rr
    obtain ⟨⟨es1, g1, x4⟩, hpd⟩ : ∃ y, pieceD U d q op = y := ⟨_, rfl⟩
    have hpl2 := pieceD_len' hden H.out.ok op
    rw [hpd] at rr hpl2
    simp only at rr hpl2
    have HTF2 := Lib.hid rr
    have hsub : IntKind.i64.wrap ((np : Int) - 1) = (np : Int) - 1 := IntWalk.i64_in _ (by omega)
    have na := (Nw.refl wr).alloc (.cells #[.string ⟨q.name.toArray⟩, .int .i64 q.first, .int .i64 q.count, .bool q.dense] 39)
    have hB := heap_alloc_new wr (.cells #[.string ⟨q.name.toArray⟩, .int .i64 q.first, .int .i64 q.count, .bool q.dense] 39)
    have C := Lib.hid (RPiece_ok (H.out.nw (HS.out.2.1.trans na)) q op hden hpd)
    have y0 := cell_of hB (i := 0) rfl
    have y1 := cell_of hB (i := 1) rfl
    have y2 := cell_of hB (i := 2) rfl
    have y3 := cell_of hB (i := 3) rfl
    have NA := Lib.hid na
    have HPD := Lib.hid hpl2
    clear rr HTF hlast hqm hden hpd na hB hpl2
    go_wp2_with fail
    refine C.out.mono ?_
    rintro z w3 ⟨v3, rfl, o3⟩
    obtain ⟨ya, yc, rfl, -⟩ := o3.1.len
    obtain ⟨ne, hne⟩ : ∃ n, es1.length = n := ⟨_, rfl⟩
    have hpl2 := HPD.out
    rw [hne] at o3 hpl2 ⊢
    have HNE := Lib.hid hne
    have O3 := Lib.hid o3
    have N3 := Lib.hid (NA.out.trans o3.2.1)
    clear o3 C y0 y1 y2 y3 x0 x1 x2 x3 hg hne
    by_cases d1 : x4 = 0
    case neg =>
      have q1 : (x4 != 0) = true := by simpa using d1
      have rr := HTF2.out
      rw [if_pos d1] at rr
      have r2 := HRR.out
      rw [← rr, if_pos (by simpa using d1)] at r2
      obtain ⟨rfl, rfl, rfl, rfl⟩ : [] = es ∧ [] = ps ∧ 0 = good ∧ x4 = x := by simpa using r2
      clear rr r2
      have N4 := Lib.hid (HS.out.2.1.trans N3.out)
      go_wp2
      refine bodyPost_ret (v := .tuple #[.slice none 0 0, .slice none 0 0, .int .i64 0, .int .i64 x4]) (by simp [results, Tryz.results78, go_sem]) rfl ⟨_, _, rfl, ⟨Vec.nil, N4.out, fun g hg => by cases hg⟩, OwnP.nil N4.out⟩
    subst d1
    have hbnd : m + ne ≤ 16777216 * (k + 1) := by omega
    have V5 := Lib.hid (HS.out.1.nw N3.out)
    have X5 : Hid (SrcV 5 w3 (.slice ya ne yc) ne (es1.flatMap evV)) := Lib.hid (by have := O3.out.1.src; rwa [HNE.out] at this)
    have rr := HTF2.out
    rw [if_neg (by simp)] at rr
    have HTF4 := Lib.hid rr
    clear rr HTF2
    go_wp2_with (at_builtin; refine wpList_append_vec rfl _ _ 37 rfl 104 i0 (.agg #[.int .i64 0, .int .u8 0, .int .i64 0, .int .i64 0, .int .i64 0]) 5 40 Tryz.underlying37 HI.out HZ0.out HZ1.out HZ2.out rfl (by decide) rfl rfl V5.out X5.out ?c1 ?c2 ?c3 ?_)
    case c1 => exact evV_one es1
    case c2 => unfold maxLen; omega
    case c3 => omega
    intro v5 w5 q5 q6 q7
    obtain ⟨ta, tc, rfl, -⟩ := q5.len
    have Q := Lib.hid (And.intro q5 (And.intro q6 q7))
    clear q5 q6 q7
    go_wp2
    go_roundw
    case rel =>
      have h0 := N2.out.size
      have hnw2 : Nw w2 w5 := (HS.out.2.2.1.trans N3.out).trans' Q.out.2.1 (fun g hg hc => by have := HS.out.2.2.2 g hc; omega)
      refine ⟨k + 1, m + ne, out ++ es1, g1, by omega, by go_num, rfl, HTF4.out, by rw [List.flatMap_append]; exact Q.out.1, by rw [List.length_append, HML.out, HNE.out], hbnd, N2.out.trans hnw2, hnw2, fun g hg => ?_⟩
      rcases Q.out.2.2 with h | h
      · exact HS.out.2.2.2 g (h ▸ hg)
      · exact Nat.le_trans (HS.out.2.2.1.trans N3.out).size (h g hg)
    case measure => simp [intOf]; omega
theorem Scan_ok (h : HasX X w0 w b d) (hU : DenFor U d) {es : List Ev} {ps : List Pc} {good x : Int} (hr : scanD U d = ⟨es, ps, good, x⟩) :
    Calls Tryz.prog 21 #[.pointer (some ⟨b, 0, none⟩)] w fun z w' => ∃ v p, z = .returned (.tuple #[v, p, .int .i64 x]) ∧ OwnE w w' v es ∧ OwnP w w' p ps := by
  have C := Lib.hid (scan_ok h hU hr)
  clear h hU hr
  go_enter Tryz.func21, Tryz.ntmps21
  go_wp2_with fail
  refine C.out.mono ?_
  rintro z w1 ⟨v, p, rfl, o1, o2⟩
  have O := Lib.hid (And.intro o1 o2)
  clear o1 o2
  go_wp2
  refine bodyPost_ret (v := .tuple #[v, p, .int .i64 x]) (by simp [results, Tryz.results21, go_sem]) rfl ⟨_, _, rfl, O.out.1, O.out.2⟩
end
end Go.Proofs.YtkhcdbafcigeoaaGreatDoor

namespace Go.Proofs.YtkhcdbafcigeoaaGreatDoor
open Go Go.RowKit Go.Sort
set_option maxRecDepth 100000
set_option maxHeartbeats 800000
def Names (w : World) (m : Nat) (S : List Str) : Prop := ∃ L clock, w.heap[m]? = some (.map (ents L) clock) ∧ (∀ e ∈ L, e.val = .int .i64 1) ∧ ∀ k, k ∈ L.map En.key ↔ k ∈ S
theorem Names.nw {w w' : World} {m : Nat} {S : List Str} (h : Names w m S) (hw : Nw w w') : Names w' m S := by
  obtain ⟨L, c, h1, h2⟩ := h
  exact ⟨L, c, hw.at_ h1, h2⟩
theorem names_put {w W1 : World} {m : Nat} {S : List Str} (h : Names W1 m S) (k : Str) (hw : Nw w W1) (hm : w.heap.size ≤ m) :
    ∃ W2 : World, (Instr.mapUpdate 117 (.map (some m)) (.string ⟨k.toArray⟩) (.int .i64 1)).run Tryz.prog W1 = .ok () W2 ∧ Nw w W2 ∧ Only (fun j => j = m) W1 W2 ∧ Names W2 m (k :: S) := by
  obtain ⟨L, clock, hmap, hv, hk⟩ := h
  have ht := Tryz.underlying117
  have hs := Tryz.underlying9
  rcases split_key k L with hn | ⟨A, e, B, rfl, he, hA⟩
  · refine ⟨_, run_store_miss ht hs hmap hn _, Only.setBlk hw (fun h => by omega) _, Only.setBlk (S := fun j => j = m) (Only.refl W1) (fun _ => rfl) _, _, _, setBlk_same hmap, ?_, fun x => ?_⟩
    · intro e he
      rcases List.mem_append.1 he with he | he
      · exact hv e he
      · rw [List.mem_singleton] at he; subst he; rfl
    · simp only [List.map_append, List.mem_append, hk x, List.map_cons, List.map_nil, List.mem_cons, List.not_mem_nil, or_false]
      exact or_comm
  · refine ⟨_, run_store_hit ht hs hmap he hA _, Only.setBlk hw (fun h => by omega) _, Only.setBlk (S := fun j => j = m) (Only.refl W1) (fun _ => rfl) _, _, _, setBlk_same hmap, ?_, fun x => ?_⟩
    · intro e2 he2
      rcases List.mem_append.1 he2 with h | h
      · exact hv e2 (by simp [h])
      · rcases List.mem_cons.1 h with rfl | h
        · rfl
        · exact hv e2 (by simp [h])
    · have h1 := hk x
      simp only [List.map_append, List.map_cons, List.mem_append, List.mem_cons] at h1 ⊢
      rw [he] at h1
      constructor
      · intro h2
        rcases h2 with h2 | h2 | h2
        · exact .inr (h1.1 (.inl h2))
        · exact .inl h2
        · exact .inr (h1.1 (.inr (.inr h2)))
      · rintro (h2 | h2)
        · exact .inr (.inl h2)
        · exact h1.2 h2
theorem names_get {w : World} {m : Nat} {S : List Str} (h : Names w m S) {k : Str} (hk : k ∈ S) : (Instr.lookup 117 (.map (some m)) (.string ⟨k.toArray⟩) false).run Tryz.prog w = .ok (.int .i64 1) w := by
  obtain ⟨L, clock, hmap, hv, hkk⟩ := h
  have ht := Tryz.underlying117
  have hs := Tryz.underlying9
  rcases split_key k L with hn | ⟨A, e, B, rfl, he, hA⟩
  · exact absurd ((hkk k).2 hk) hn
  · rw [run_look_hit ht hs hmap he hA, hv e (by simp)]
end Go.Proofs.YtkhcdbafcigeoaaGreatDoor
