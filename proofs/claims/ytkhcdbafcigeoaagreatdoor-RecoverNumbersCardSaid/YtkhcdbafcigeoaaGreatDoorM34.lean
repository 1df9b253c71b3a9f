/-
  Texts merged by a program of this claim's: RecE, UnpA.
-/
import Derived.Test.YtkhcdbafcigeoaaGreatDoorM33
import Derived.Test.YtkhcdbafcigeoaaGreatDoorM8
import Derived.Test.YtkhcdbafcigeoaaGreatDoorM11
import Derived.Test.YtkhcdbafcigeoaaGreatDoorM29
import Derived.Laws.EntriesVeiled
namespace Go.Proofs.YtkhcdbafcigeoaaGreatDoor
open Go Go.RowKit Go.Sort
set_option maxRecDepth 100000
set_option maxHeartbeats 1600000
section
variable {X Y : Nat → Prop} {w0 w w' : World} {b : Nat} {d d' : Dsk} {U : List UInt8 → Int × List Ev × Int}
theorem scanD_right : (scanD U d).ps = [] ∨ rightL (scanD U d).ps = true := by
  unfold scanD
  repeat' split
  · exact .inl rfl
  · exact .inl rfl
  · exact .inl rfl
  · exact .inl rfl
  · rename_i h1 h2
    exact .inr (listedB_right (by rcases Decidable.em ((listedB (d.read manifestS).1).2 = 0) with h | h; exact h; exact absurd h h1))
theorem pcsD_len (ok : d.Ok) : ∀ (l : List Pc) (out : List Ev) (g : Int), (∀ q ∈ l, q.dense = true → DenOk U) → (pcsD U d l out g).1.length ≤ out.length + 16777216 * l.length
  | [], out, g, _ => by simp [pcsD]
  | q :: l, out, g, h => by
    have h1 := pieceD_len' (h q (by simp)) ok (decide (l = []))
    have h2 := pcsD_len ok l (out ++ (pieceD U d q (decide (l = []))).1) (pieceD U d q (decide (l = []))).2.1 fun q hq => h q (by simp [hq])
    rw [pcsD_cons]
    split
    · simp
    · rw [List.length_append] at h2
      simp only [List.length_cons]
      omega
theorem scanD_len (ok : d.Ok) (hU : DenFor U d) : (scanD U d).es.length ≤ 16777216000 := by
  have key : (listedB (d.read manifestS).1).2 = 0 → (pcsD U d (listedB (d.read manifestS).1).1 [] 0).1.length ≤ 16777216000 := fun h => by
    have h1 := pcsD_len ok (listedB (d.read manifestS).1).1 [] 0 (U := U) (fun q hq hd => by
      rcases hU with h | h
      · exact h
      · rw [h q hq] at hd; cases hd)
    have h2 := (rightL_bound (listedB_right h)).2.1
    simp only [List.length_nil] at h1
    omega
  unfold scanD
  repeat' split
  · simp
  · simp
  · simp
  · simp
  · rename_i h1 h2
    exact key (by rcases Decidable.em ((listedB (d.read manifestS).1).2 = 0) with h | h; exact h; exact absurd h h1)
theorem mendD_of : ((mendD U d).ps = [] ∧ (mendD U d).es = []) ∨ ((mendD U d).ps = (scanD U d).ps ∧ (mendD U d).es = (scanD U d).es) := by
  unfold mendD mendWith
  repeat' split
  · exact .inl ⟨rfl, rfl⟩
  · exact .inl ⟨rfl, rfl⟩
  · exact .inl ⟨rfl, rfl⟩
  · exact .inr ⟨rfl, rfl⟩
theorem Open1_ok (h : HasX X w0 w b d) {v p : Value} {l : List Pc} (hv : Pcs w p l) (hx : ∀ g, p.ownBlock = some g → X g) {size : Int} (hs : 64 ≤ size ∧ size ≤ 16777216) (hr : rightL l = true) {n : Nat} (hn : n ≤ 2305843009213693952)
    {a : Option Addr} {cap : Nat} (hva : v = .slice a n cap) {c2 c3 c7 c8 : Nat} (k2 : w.cell? ⟨c2, 0, none⟩ = some (.pointer (some ⟨b, 0, none⟩))) (k3 : w.cell? ⟨c3, 0, none⟩ = some (.int .i64 size)) (k7 : w.cell? ⟨c7, 0, none⟩ = some v) (k8 : w.cell? ⟨c8, 0, none⟩ = some p) :
    Calls Tryz.prog 81 #[.pointer (some ⟨c2, 0, none⟩), .pointer (some ⟨c3, 0, none⟩), .pointer (some ⟨c8, 0, none⟩), .pointer (some ⟨c7, 0, none⟩)] w (Created X w0 w b (resumeD d size l n).1 (resumeD d size l n).2 (onLg d size l n)) := by
  have C := Resume_ok h hv hx hs hr hn
  obtain ⟨R, hR⟩ : ∃ r, resumeD d size l n = r := ⟨_, rfl⟩
  rw [hR] at C ⊢
  have C := Lib.hid C
  clear hR
  obtain ⟨pa, pc, rfl, -, -, -⟩ := hv.elem
  subst hva
  have l2 := World.block_lt_of_cell? _ _ k2
  have l3 := World.block_lt_of_cell? _ _ k3
  have l7 := World.block_lt_of_cell? _ _ k7
  have l8 := World.block_lt_of_cell? _ _ k8
  simp only at l2 l3 l7 l8
  obtain ⟨np, hnp⟩ : ∃ k, l.length = k := ⟨_, rfl⟩
  rw [hnp] at C k8
  clear h hv hx hnp
  go_enter Tryz.func81, Tryz.ntmps81
  go_wp2_with fail
  refine C.out.mono ?_
  rintro e w1 ⟨kk, ⟨hx, p', rfl, hl⟩ | ⟨hx, rfl, hd⟩⟩
  · have T := Lib.hid (And.intro kk (And.intro hx hl))
    clear kk hl hx
    go_wp2
    refine bodyPost_ret (v := .tuple #[.pointer (some ⟨p', 0, none⟩), .int .i64 0]) (by simp [results, Tryz.results81, go_sem]) rfl ⟨T.out.1, .inl ⟨T.out.2.1, p', rfl, T.out.2.2⟩⟩
  · have T := Lib.hid (And.intro kk (And.intro hx hd))
    clear kk hd hx
    go_wp2
    refine bodyPost_ret (v := .tuple #[.pointer none, .int .i64 R.2]) (by simp [results, Tryz.results81, go_sem]) rfl ⟨T.out.1, .inr ⟨T.out.2.1, rfl, T.out.2.2⟩⟩
theorem Open2_ok (h : HasX X w0 w b d) (ht : Tab w0) {size : Int} {c2 c3 : Nat} (k2 : w.cell? ⟨c2, 0, none⟩ = some (.pointer (some ⟨b, 0, none⟩))) (k3 : w.cell? ⟨c3, 0, none⟩ = some (.int .i64 size)) :
    Calls Tryz.prog 82 #[.pointer (some ⟨c2, 0, none⟩), .pointer (some ⟨c3, 0, none⟩)] w (Created X w0 w b (createD d size).1 (createD d size).2 (newLg size)) := by
  have C := Create_ok h ht size
  obtain ⟨R, hR⟩ : ∃ r, createD d size = r := ⟨_, rfl⟩
  rw [hR] at C ⊢
  have C := Lib.hid C
  clear hR
  have l2 := World.block_lt_of_cell? _ _ k2
  have l3 := World.block_lt_of_cell? _ _ k3
  simp only at l2 l3
  clear h
  go_enter Tryz.func82, Tryz.ntmps82
  go_wp2_with fail
  refine C.out.mono ?_
  rintro e w1 ⟨kk, ⟨hx, p', rfl, hl⟩ | ⟨hx, rfl, hd⟩⟩
  · have T := Lib.hid (And.intro kk (And.intro hx hl))
    clear kk hl hx
    go_wp2
    refine bodyPost_ret (v := .tuple #[.pointer (some ⟨p', 0, none⟩), .int .i64 0]) (by simp [results, Tryz.results82, go_sem]) rfl ⟨T.out.1, .inl ⟨T.out.2.1, p', rfl, T.out.2.2⟩⟩
  · have T := Lib.hid (And.intro kk (And.intro hx hd))
    clear kk hd hx
    go_wp2
    refine bodyPost_ret (v := .tuple #[.pointer none, .int .i64 R.2]) (by simp [results, Tryz.results82, go_sem]) rfl ⟨T.out.1, .inr ⟨T.out.2.1, rfl, T.out.2.2⟩⟩
theorem HasL.less {p : Nat} {L : Lg} (h : HasL X w0 w p b d L) (hy : ∀ k, Y k → X k) : HasL Y w0 w p b d L := by
  obtain ⟨g, o, cap, h⟩ := h
  exact ⟨g, o, cap, h.mem, h.disk.weak fun k hk => hk.imp (hy k) id, h.p0, fun hc => h.p1 (hy _ hc), h.g0, h.g1.1, fun hc => h.g1.2 (hy _ hc)⟩
def Opened (X : Nat → Prop) (w0 w : World) (b : Nat) (R : OpenR) (z : Ending) (w' : World) : Prop := Kept X w w' ∧
  ((R.e = 0 ∧ ∃ p v, z = .returned (.tuple #[.pointer (some ⟨p, 0, none⟩), v, .int .i64 0]) ∧ HasL (fun k => X k ∨ v.ownBlock = some k) w0 w' p b R.d R.L ∧ Vec 5 w' v R.es.length (R.es.flatMap evV) ∧ ∀ g, v.ownBlock = some g → w.heap.size ≤ g) ∨
   (R.e ≠ 0 ∧ z = .returned (.tuple #[.pointer none, .slice none 0 0, .int .i64 R.e]) ∧ HasX X w0 w' b R.d))
theorem Open_ok (h : HasX X w0 w b d) (ht : Tab w0) (hU : DenFor U d) (size : Int) : Calls Tryz.prog 23 #[.pointer (some ⟨b, 0, none⟩), .int .i64 size] w (Opened X w0 w b (openD U d size)) := by
  have HT := Lib.hid ht
  obtain ⟨R, hR⟩ : ∃ r, openD U d size = r := ⟨_, rfl⟩
  rw [hR]
  unfold openD at hR
  have n2 := ((Nw.refl w).alloc (.cells #[.pointer (some ⟨b, 0, none⟩)] 40)).alloc (.cells #[.int .i64 size] 3)
  have b2 : ((w.alloc (.cells #[.pointer (some ⟨b, 0, none⟩)] 40)).alloc (.cells #[.int .i64 size] 3)).heap[w.heap.size]? = some (.cells #[.pointer (some ⟨b, 0, none⟩)] 40 (0, 0)) := (heap_alloc_old _ _ (by simp)).trans (heap_alloc_new w _)
  have b3 := heap_alloc_new (w.alloc (.cells #[.pointer (some ⟨b, 0, none⟩)] 40)) (.cells #[.int .i64 size] 3)
  rw [World.size_alloc] at b3
  have hsz2 : ((w.alloc (.cells #[.pointer (some ⟨b, 0, none⟩)] 40)).alloc (.cells #[.int .i64 size] 3)).heap.size = w.heap.size + 1 + 1 := by simp
  have k2 := cell_of b2 (i := 0) rfl
  have k3 := cell_of b3 (i := 0) rfl
  by_cases hs : size < 64 ∨ 16777216 < size
  case pos =>
    rw [if_pos hs] at hR
    have H2 := Lib.hid (h.nw n2)
    have N2 := Lib.hid n2
    subst hR
    by_cases hs1 : size < 64
    · have q1 : decide (size < 64) = true := by simpa using hs1
      clear h hU n2 b2 b3 hs hs1
      go_enter Tryz.func23, Tryz.ntmps23
      go_wp2
      refine bodyPost_ret (v := .tuple #[.pointer none, .slice none 0 0, .int .i64 2]) (by simp [results, Tryz.results23, go_sem]) rfl ⟨N2.out.kept, .inr ⟨by simp, rfl, H2.out⟩⟩
    · have q1 : decide (size < 64) = false := by simpa using hs1
      have q2 : decide (16777216 < size) = true := by simp; omega
      clear h hU n2 b2 b3 hs hs1
      go_enter Tryz.func23, Tryz.ntmps23
      go_wp2
      refine bodyPost_ret (v := .tuple #[.pointer none, .slice none 0 0, .int .i64 2]) (by simp [results, Tryz.results23, go_sem]) rfl ⟨N2.out.kept, .inr ⟨by simp, rfl, H2.out⟩⟩
  rw [if_neg hs] at hR
  have hsz : 64 ≤ size ∧ size ≤ 16777216 := by omega
  have q1 : decide (size < 64) = false := by simp; omega
  have q2 : decide (16777216 < size) = false := by simp; omega
  obtain ⟨⟨d4, es, ps, x4⟩, hm⟩ : ∃ r, mendD U d = r := ⟨_, rfl⟩
  have hpr : ps = [] ∨ rightL ps = true := by
    rcases mendD_of (U := U) (d := d) with ⟨h1, -⟩ | ⟨h1, -⟩
    · rw [hm] at h1; exact .inl h1
    · rw [hm] at h1
      simp only at h1
      rw [h1]; exact scanD_right
  have hel : es.length ≤ 2305843009213693952 := by
    have h2 := scanD_len h.ok hU
    rcases mendD_of (U := U) (d := d) with ⟨-, h1⟩ | ⟨-, h1⟩
    · rw [hm] at h1; simp only at h1; rw [h1]; simp
    · rw [hm] at h1; simp only at h1; rw [h1]; omega
  rw [hm] at hR
  simp only at hR
  obtain ⟨X2, hX2⟩ : ∃ Y : Nat → Prop, Y = fun k => X k ∨ k = w.heap.size ∨ k = w.heap.size + 1 := ⟨_, rfl⟩
  have h2 : HasX X2 w0 ((w.alloc (.cells #[.pointer (some ⟨b, 0, none⟩)] 40)).alloc (.cells #[.int .i64 size] 3)) b d := h.nwY n2 (fun k hk => by
    rw [hsz2]
    rw [hX2] at hk
    rcases hk with hk | rfl | rfl
    · exact .inl hk
    · exact .inr ⟨Nat.le_refl _, by omega⟩
    · exact .inr ⟨by omega, by omega⟩)
  have HM := Lib.hid (Mend_ok h2 hU hm)
  have HX2 : Hid ((∀ k, X k → X2 k) ∧ X2 w.heap.size ∧ X2 (w.heap.size + 1)) := Lib.hid (by rw [hX2]; exact ⟨fun k h => .inl h, .inr (.inl rfl), .inr (.inr rfl)⟩)
  have N2 := Lib.hid n2
  have B2 := Lib.hid b2
  have B3 := Lib.hid b3
  have HSZ := Lib.hid hsz
  have HPR := Lib.hid hpr
  have HEL := Lib.hid hel
  have HRR := Lib.hid hR
  have HB : Hid (w0.heap.size ≤ w.heap.size) := Lib.hid h.base.size
  have HXL : Hid (∀ k, X k → k < w.heap.size) := Lib.hid h.lt
  obtain ⟨ne, hne⟩ : ∃ n, es.length = n := ⟨_, rfl⟩
  obtain ⟨np, hnp⟩ : ∃ n, ps.length = n := ⟨_, rfl⟩
  have HNE := Lib.hid hne
  have HNP := Lib.hid hnp
  clear h hU n2 b2 b3 hs hsz hpr hel hR hm hne hnp h2 hX2 hsz2
  go_enter Tryz.func23, Tryz.ntmps23
  go_wp2_with fail
  refine HM.out.mono ?_
  rintro z w4 ⟨v, p, rfl, hT⟩
  have o1l := hT.evs.len
  have o2l := hT.pcs.len
  rw [HNE.out] at o1l
  rw [HNP.out] at o2l
  obtain ⟨va, vc, rfl, -⟩ := o1l
  obtain ⟨pa, pc, rfl, -⟩ := o2l
  have T := Lib.hid hT
  clear hT HM k2 k3
  have n6 := ((Nw.refl w4).alloc (.cells #[.slice va ne vc] 37)).alloc (.cells #[.slice pa np pc] 22)
  have b7 : ((w4.alloc (.cells #[.slice va ne vc] 37)).alloc (.cells #[.slice pa np pc] 22)).heap[w4.heap.size]? = some (.cells #[.slice va ne vc] 37 (0, 0)) := (heap_alloc_old _ _ (by simp)).trans (heap_alloc_new w4 _)
  have b8 := heap_alloc_new (w4.alloc (.cells #[.slice va ne vc] 37)) (.cells #[.slice pa np pc] 22)
  rw [World.size_alloc] at b8
  have hsz6 : ((w4.alloc (.cells #[.slice va ne vc] 37)).alloc (.cells #[.slice pa np pc] 22)).heap.size = w4.heap.size + 1 + 1 := by simp
  obtain ⟨Y, hY⟩ : ∃ Y : Nat → Prop, Y = fun k => (X2 k ∨ (Value.slice va ne vc).ownBlock = some k ∨ (Value.slice pa np pc).ownBlock = some k) ∨ k = w4.heap.size ∨ k = w4.heap.size + 1 := ⟨_, rfl⟩
  have h6 : HasX Y w0 ((w4.alloc (.cells #[.slice va ne vc] 37)).alloc (.cells #[.slice pa np pc] 22)) b d4 := T.out.disk.nwY n6 (fun k hk => by
    rw [hsz6]
    rw [hY] at hk
    rcases hk with hk | rfl | rfl
    · exact .inl hk
    · exact .inr ⟨Nat.le_refl _, by omega⟩
    · exact .inr ⟨by omega, by omega⟩)
  have k7 := cell_of b7 (i := 0) rfl
  have k8 := cell_of b8 (i := 0) rfl
  have k2 := cell_of ((n6.block _ (Nat.lt_of_lt_of_le (lt_of_block B2.out) T.out.kept.1) (fun hf => hf)).trans ((T.out.kept.2 _ HX2.out.2.1 (lt_of_block B2.out)).trans B2.out)) (i := 0) rfl
  have k3 := cell_of ((n6.block _ (Nat.lt_of_lt_of_le (lt_of_block B3.out) T.out.kept.1) (fun hf => hf)).trans ((T.out.kept.2 _ HX2.out.2.2 (lt_of_block B3.out)).trans B3.out)) (i := 0) rfl
  have HY : Hid ((∀ k, X k → Y k) ∧ (∀ g, (Value.slice va ne vc).ownBlock = some g → Y g) ∧ (∀ g, (Value.slice pa np pc).ownBlock = some g → Y g) ∧ Y w4.heap.size) := Lib.hid (by rw [hY]; exact ⟨fun k h => .inl (.inl (HX2.out.1 k h)), fun g h => .inl (.inr (.inl h)), fun g h => .inl (.inr (.inr h)), .inr (.inl rfl)⟩)
  have K6 : Hid (Kept X w ((w4.alloc (.cells #[.slice va ne vc] 37)).alloc (.cells #[.slice pa np pc] 22))) := Lib.hid (N2.out.kept.trans ((T.out.kept.weak HX2.out.1).trans n6.kept))
  have V6 := Lib.hid (T.out.evs.nw n6)
  have P6 : Hid (Pcs ((w4.alloc (.cells #[.slice va ne vc] 37)).alloc (.cells #[.slice pa np pc] 22)) (.slice pa np pc) ps) := Lib.hid ⟨by have := (T.out.pcs.nw n6).src; exact this, T.out.ok⟩
  have HE0 : Hid (∀ g, (Value.slice va ne vc).ownBlock = some g → w.heap.size ≤ g) := Lib.hid (fun g hg => by have h1 := T.out.e0 g hg; have h2 := N2.out.size; omega)
  have B7 := Lib.hid b7
  have H6 := Lib.hid h6
  clear n6 b7 b8 hsz6 hY h6 T
  by_cases c4 : x4 = 0
  case neg =>
    have q4 : (x4 != 0) = true := by simpa using c4
    have rr := HRR.out
    rw [if_pos c4] at rr
    subst rr
    have HC := Lib.hid c4
    clear c4 k2 k3 k7 k8
    go_wp2
    refine bodyPost_ret (v := .tuple #[.pointer none, .slice none 0 0, .int .i64 x4]) (by simp [results, Tryz.results23, go_sem]) rfl ⟨K6.out, .inr ⟨HC.out, rfl, H6.out.weak HY.out.1⟩⟩
  subst c4
  have rr := HRR.out
  rw [if_neg (by simp)] at rr
  have HR2 := Lib.hid rr
  clear rr HRR
  by_cases hp : np = 0
  case pos =>
    have hps : ps = [] := List.eq_nil_of_length_eq_zero (by rw [HNP.out]; exact hp)
    have rr := HR2.out
    rw [if_pos hps] at rr
    have C := Open2_ok H6.out HT.out k2 k3
    obtain ⟨⟨d5, x5⟩, hcr⟩ : ∃ r, createD d4 size = r := ⟨_, rfl⟩
    rw [hcr] at rr C
    simp only at rr
    have C := Lib.hid C
    have HR3 := Lib.hid rr
    subst hp
    clear rr hcr HR2 hps
    go_wp2_with fail
    refine C.out.mono ?_
    rintro e w7 ⟨kk, ⟨hx, p', rfl, hl⟩ | ⟨hx, rfl, hd⟩⟩
    · subst hx
      have L7 := Lib.hid hl
      have K7 := Lib.hid kk
      have V7 := Lib.hid (V6.out.kept kk HY.out.2.1)
      have k9 := cell_of ((kk.2 _ HY.out.2.2.2 (lt_of_block B7.out)).trans B7.out) (i := 0) rfl
      have l9 := World.block_lt_of_cell? _ _ k9
      simp only at l9
      have rr := HR3.out
      rw [if_neg (by simp)] at rr
      subst rr
      clear hl kk k2 k3 k7 k8 C
      go_upto_region 12 with fail
      go_region
      all_goals (try go_wp2)
      all_goals refine bodyPost_ret (v := .tuple #[.pointer (some ⟨p', 0, none⟩), .slice va ne vc, .int .i64 0]) (by simp [results, Tryz.results23, go_sem]) rfl ?_
      all_goals exact ⟨K6.out.trans ((K7.out.weak HY.out.1).trans (Nw.refl _).drew.kept), .inl ⟨rfl, p', _, rfl, ((L7.out.nw (Nw.refl _).drew).less (X := Y) fun k hk => hk.elim (HY.out.1 k) (HY.out.2.1 k)), V7.out.nw (Nw.refl _).drew, HE0.out⟩⟩
    · have q5 : (x5 != 0) = true := by simpa using hx
      have H7 := Lib.hid hd
      have K7 := Lib.hid kk
      have HX5 := Lib.hid hx
      have rr := HR3.out
      rw [if_pos hx] at rr
      subst rr
      clear hd kk hx k2 k3 k7 k8 C
      go_wp2
      refine bodyPost_ret (v := .tuple #[.pointer none, .slice none 0 0, .int .i64 x5]) (by simp [results, Tryz.results23, go_sem]) rfl ⟨K6.out.trans (K7.out.weak HY.out.1), .inr ⟨HX5.out, rfl, H7.out.weak HY.out.1⟩⟩
  have hpne : ps ≠ [] := fun e => hp (by have := HNP.out; rw [e] at this; simpa using this.symm)
  have hR : rightL ps = true := by
    rcases HPR.out with h | h
    · exact absurd h hpne
    · exact h
  have hpq : ((np : Int) == 0) = false := by simpa using hp
  have rr := HR2.out
  rw [if_neg hpne] at rr
  have C := Open1_ok H6.out P6.out HY.out.2.2.1 HSZ.out hR HEL.out (show Value.slice va ne vc = .slice va es.length vc by rw [HNE.out]) k2 k3 k7 k8
  obtain ⟨⟨d5, x5⟩, hcr⟩ : ∃ r, resumeD d4 size ps es.length = r := ⟨_, rfl⟩
  rw [hcr] at rr C
  simp only at rr
  have C := Lib.hid C
  have HR3 := Lib.hid rr
  clear rr hcr HR2 hpne hR hp
  go_wp2_with fail
  refine C.out.mono ?_
  rintro e w7 ⟨kk, ⟨hx, p', rfl, hl⟩ | ⟨hx, rfl, hd⟩⟩
  · subst hx
    have L7 := Lib.hid hl
    have K7 := Lib.hid kk
    have V7 := Lib.hid (V6.out.kept kk HY.out.2.1)
    have k9 := cell_of ((kk.2 _ HY.out.2.2.2 (lt_of_block B7.out)).trans B7.out) (i := 0) rfl
    have l9 := World.block_lt_of_cell? _ _ k9
    simp only at l9
    have rr := HR3.out
    rw [if_neg (by simp)] at rr
    subst rr
    clear hl kk k2 k3 k7 k8 C
    go_upto_region 12 with fail
    go_region
    all_goals (try go_wp2)
    all_goals refine bodyPost_ret (v := .tuple #[.pointer (some ⟨p', 0, none⟩), .slice va ne vc, .int .i64 0]) (by simp [results, Tryz.results23, go_sem]) rfl ?_
    all_goals exact ⟨K6.out.trans ((K7.out.weak HY.out.1).trans (Nw.refl _).drew.kept), .inl ⟨rfl, p', _, rfl, ((L7.out.nw (Nw.refl _).drew).less (X := Y) fun k hk => hk.elim (HY.out.1 k) (HY.out.2.1 k)), V7.out.nw (Nw.refl _).drew, HE0.out⟩⟩
  · have q5 : (x5 != 0) = true := by simpa using hx
    have H7 := Lib.hid hd
    have K7 := Lib.hid kk
    have HX5 := Lib.hid hx
    have rr := HR3.out
    rw [if_pos hx] at rr
    subst rr
    clear hd kk hx k2 k3 k7 k8 C
    go_wp2
    refine bodyPost_ret (v := .tuple #[.pointer none, .slice none 0 0, .int .i64 x5]) (by simp [results, Tryz.results23, go_sem]) rfl ⟨K6.out.trans (K7.out.weak HY.out.1), .inr ⟨HX5.out, rfl, H7.out.weak HY.out.1⟩⟩
end
end Go.Proofs.YtkhcdbafcigeoaaGreatDoor

namespace Go.Proofs.YtkhcdbafcigeoaaGreatDoor
open Go Go.RowKit Go.Sort
set_option maxRecDepth 100000
set_option maxHeartbeats 1600000

def pickFs : Array Nat := #[214, 215, 216, 217, 218]
def putFs : Array Nat := #[219, 220, 221, 222, 223]
section
variable {w : World} {g o : Nat} {u : Value} {v : Int}
theorem put0_ok (hg : g < w.heap.size) (h : w.cell? ⟨g, o, none⟩ = some u) (hf : w.frozen? ⟨g, o, none⟩ = false) :
    Calls Tryz.prog 219 #[.pointer (some ⟨g, o, none⟩), .int .i64 v] w fun e w' => e = .returned (.bool true) ∧ w' = w.setCell ⟨g, o, none⟩ (.int .i64 v) := by
  go_enter Tryz.func219, Tryz.ntmps219
  go_wp2
  go_ret
  exact ⟨rfl, rfl⟩
theorem put2_ok (hg : g < w.heap.size) (h : w.cell? ⟨g, o + 2, none⟩ = some u) (hf : w.frozen? ⟨g, o + 2, none⟩ = false) :
    Calls Tryz.prog 221 #[.pointer (some ⟨g, o, none⟩), .int .i64 v] w fun e w' => e = .returned (.bool true) ∧ w' = w.setCell ⟨g, o + 2, none⟩ (.int .i64 v) := by
  go_enter Tryz.func221, Tryz.ntmps221
  go_wp2
  go_ret
  exact ⟨rfl, rfl⟩
theorem put3_ok (hg : g < w.heap.size) (h : w.cell? ⟨g, o + 3, none⟩ = some u) (hf : w.frozen? ⟨g, o + 3, none⟩ = false) :
    Calls Tryz.prog 222 #[.pointer (some ⟨g, o, none⟩), .int .i64 v] w fun e w' => e = .returned (.bool true) ∧ w' = w.setCell ⟨g, o + 3, none⟩ (.int .i64 v) := by
  go_enter Tryz.func222, Tryz.ntmps222
  go_wp2
  go_ret
  exact ⟨rfl, rfl⟩
theorem put4_ok (hg : g < w.heap.size) (h : w.cell? ⟨g, o + 4, none⟩ = some u) (hf : w.frozen? ⟨g, o + 4, none⟩ = false) :
    Calls Tryz.prog 223 #[.pointer (some ⟨g, o, none⟩), .int .i64 v] w fun e w' => e = .returned (.bool true) ∧ w' = w.setCell ⟨g, o + 4, none⟩ (.int .i64 v) := by
  go_enter Tryz.func223, Tryz.ntmps223
  go_wp2
  go_ret
  exact ⟨rfl, rfl⟩
theorem put1_ok (hg : g < w.heap.size) (h : w.cell? ⟨g, o + 1, none⟩ = some u) (hf : w.frozen? ⟨g, o + 1, none⟩ = false) :
    Calls Tryz.prog 220 #[.pointer (some ⟨g, o, none⟩), .int .i64 v] w fun e w' => e = .returned (.bool (okOp v)) ∧ w' = w.setCell ⟨g, o + 1, none⟩ (.int .u8 (v % 256)) := by
  by_cases h0 : 0 ≤ v
  · by_cases h1 : v ≤ 255
    · have hm : v % 256 = v := by omega
      rw [hm]
      go_enter Tryz.func220, Tryz.ntmps220
      go_wp2
      go_ret
      exact ⟨by simp [okOp, h0, h1], rfl⟩
    · go_enter Tryz.func220, Tryz.ntmps220
      go_wp2
      go_ret
      exact ⟨by simp [okOp, h0, h1], rfl⟩
  · have h1 : v < 0 := by omega
    go_enter Tryz.func220, Tryz.ntmps220
    go_wp2
    go_ret
    exact ⟨by simp [okOp]; omega, rfl⟩
theorem columns_ok : Calls Tryz.prog 199 #[] w fun e w' => e = .returned (.tuple #[.agg (pickFs.map fun f => .func (.func f) #[] #[]), .agg (putFs.map fun f => .func (.func f) #[] #[])]) ∧ Nw w w' := by
  go_enter Tryz.func199, Tryz.ntmps199
  go_wp2
  go_region
  all_goals go_wp2
  refine bodyPost_ret (v := .tuple #[.agg (pickFs.map fun f => .func (.func f) #[] #[]), .agg (putFs.map fun f => .func (.func f) #[] #[])]) (by simp [results, Tryz.results199, go_sem, pickFs, putFs]) rfl ⟨rfl, ((((Nw.refl w).alloc _).alloc _).alloc _).alloc _ |>.drew⟩
end
end Go.Proofs.YtkhcdbafcigeoaaGreatDoor
