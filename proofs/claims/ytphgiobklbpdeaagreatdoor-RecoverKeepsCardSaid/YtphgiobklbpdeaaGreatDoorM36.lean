/-
  Texts merged by a program of this claim's: RecE, Aw6Plain.
-/
import Derived.Test.YtphgiobklbpdeaaGreatDoorM35
import Derived.Test.YtphgiobklbpdeaaGreatDoorM34
import Derived.Test.YtphgiobklbpdeaaGreatDoorM29
import Derived.Test.YtphgiobklbpdeaaGreatDoorM13
/-
  Package recover, walked: Open.
-/
namespace Go.Proofs.YtphgiobklbpdeaaGreatDoor
open Go Go.RowKit Go.Sort
set_option maxRecDepth 100000
set_option maxHeartbeats 1600000
section
variable {X Y : Nat → Prop} {w0 w w' : World} {b : Nat} {d d' : Dsk} {U : List UInt8 → Int × List Ev × Int}
theorem scanD_right : (scanD U d).ps = [] ∨ rightL (scanD U d).ps = true := by
  unfold scanD
  repeat' split
  · exact .inl rfl
  · exact .inl rfl
  · exact .inl rfl
  · exact .inl rfl
  · rename_i h1 h2
    exact .inr (listedB_right (by rcases Decidable.em ((listedB (d.read manifestS).1).2 = 0) with h | h; exact h; exact absurd h h1))
theorem pcsD_len (ok : d.Ok) : ∀ (l : List Pc) (out : List Ev) (g : Int), (∀ q ∈ l, q.dense = true → DenOk U) → (pcsD U d l out g).1.length ≤ out.length + 16777216 * l.length
  | [], out, g, _ => by simp [pcsD]
  | q :: l, out, g, h => by
    have h1 := pieceD_len' (h q (by simp)) ok (decide (l = []))
    have h2 := pcsD_len ok l (out ++ (pieceD U d q (decide (l = []))).1) (pieceD U d q (decide (l = []))).2.1 fun q hq => h q (by simp [hq])
    rw [pcsD_cons]
    split
    · simp
    · rw [List.length_append] at h2
      simp only [List.length_cons]
      omega
theorem scanD_len (ok : d.Ok) (hU : DenFor U d) : (scanD U d).es.length ≤ 16777216000 := by
  have key : (listedB (d.read manifestS).1).2 = 0 → (pcsD U d (listedB (d.read manifestS).1).1 [] 0).1.length ≤ 16777216000 := fun h => by
    have h1 := pcsD_len ok (listedB (d.read manifestS).1).1 [] 0 (U := U) (fun q hq hd => by
      rcases hU with h | h
      · exact h
      · rw [h q hq] at hd; cases hd)
    have h2 := (rightL_bound (listedB_right h)).2.1
    simp only [List.length_nil] at h1
    omega
  unfold scanD
  repeat' split
  · simp
  · simp
  · simp
  · simp
  · rename_i h1 h2
    exact key (by rcases Decidable.em ((listedB (d.read manifestS).1).2 = 0) with h | h; exact h; exact absurd h h1)
theorem mendD_of : ((mendD U d).ps = [] ∧ (mendD U d).es = []) ∨ ((mendD U d).ps = (scanD U d).ps ∧ (mendD U d).es = (scanD U d).es) := by
  unfold mendD mendWith
  repeat' split
  · exact .inl ⟨rfl, rfl⟩
  · exact .inl ⟨rfl, rfl⟩
  · exact .inl ⟨rfl, rfl⟩
  · exact .inr ⟨rfl, rfl⟩
/-- The closures of Open. -/
theorem Open1_ok (h : HasX X w0 w b d) {v p : Value} {l : List Pc} (hv : Pcs w p l) (hx : ∀ g, p.ownBlock = some g → X g) {size : Int} (hs : 64 ≤ size ∧ size ≤ 16777216) (hr : rightL l = true) {n : Nat} (hn : n ≤ 2305843009213693952)
    {a : Option Addr} {cap : Nat} (hva : v = .slice a n cap) {c2 c3 c7 c8 : Nat} (k2 : w.cell? ⟨c2, 0, none⟩ = some (.pointer (some ⟨b, 0, none⟩))) (k3 : w.cell? ⟨c3, 0, none⟩ = some (.int .i64 size)) (k7 : w.cell? ⟨c7, 0, none⟩ = some v) (k8 : w.cell? ⟨c8, 0, none⟩ = some p) :
    Calls Tryz.prog 93 #[.pointer (some ⟨c2, 0, none⟩), .pointer (some ⟨c3, 0, none⟩), .pointer (some ⟨c8, 0, none⟩), .pointer (some ⟨c7, 0, none⟩)] w (Created X w0 w b (resumeD d size l n).1 (resumeD d size l n).2 (onLg d size l n)) := by
  have C := Resume_ok h hv hx hs hr hn
  obtain ⟨R, hR⟩ : ∃ r, resumeD d size l n = r := ⟨_, rfl⟩
  rw [hR] at C ⊢
  have C := Lib.hid C
  clear hR
  obtain ⟨pa, pc, rfl, -, -, -⟩ := hv.elem
  subst hva
  have l2 := World.block_lt_of_cell? _ _ k2
  have l3 := World.block_lt_of_cell? _ _ k3
  have l7 := World.block_lt_of_cell? _ _ k7
  have l8 := World.block_lt_of_cell? _ _ k8
  simp only at l2 l3 l7 l8
  obtain ⟨np, hnp⟩ : ∃ k, l.length = k := ⟨_, rfl⟩
  rw [hnp] at C k8
  clear h hv hx hnp
  go_enter Tryz.func93, Tryz.ntmps93
  go_wp2_with fail
  refine C.out.mono ?_
  rintro e w1 ⟨kk, ⟨hx, p', rfl, hl⟩ | ⟨hx, rfl, hd⟩⟩
  · have T := Lib.hid (And.intro kk (And.intro hx hl))
    clear kk hl hx
    go_wp2
    refine bodyPost_ret (v := .tuple #[.pointer (some ⟨p', 0, none⟩), .int .i64 0]) (by simp [results, Tryz.results93, go_sem]) rfl ⟨T.out.1, .inl ⟨T.out.2.1, p', rfl, T.out.2.2⟩⟩
  · have T := Lib.hid (And.intro kk (And.intro hx hd))
    clear kk hd hx
    go_wp2
    refine bodyPost_ret (v := .tuple #[.pointer none, .int .i64 R.2]) (by simp [results, Tryz.results93, go_sem]) rfl ⟨T.out.1, .inr ⟨T.out.2.1, rfl, T.out.2.2⟩⟩
theorem Open2_ok (h : HasX X w0 w b d) (ht : Tab w0) {size : Int} {c2 c3 : Nat} (k2 : w.cell? ⟨c2, 0, none⟩ = some (.pointer (some ⟨b, 0, none⟩))) (k3 : w.cell? ⟨c3, 0, none⟩ = some (.int .i64 size)) :
    Calls Tryz.prog 95 #[.pointer (some ⟨c2, 0, none⟩), .pointer (some ⟨c3, 0, none⟩)] w (Created X w0 w b (createD d size).1 (createD d size).2 (newLg size)) := by
  have C := Create_ok h ht size
  obtain ⟨R, hR⟩ : ∃ r, createD d size = r := ⟨_, rfl⟩
  rw [hR] at C ⊢
  have C := Lib.hid C
  clear hR
  have l2 := World.block_lt_of_cell? _ _ k2
  have l3 := World.block_lt_of_cell? _ _ k3
  simp only at l2 l3
  clear h
  go_enter Tryz.func95, Tryz.ntmps95
  go_wp2_with fail
  refine C.out.mono ?_
  rintro e w1 ⟨kk, ⟨hx, p', rfl, hl⟩ | ⟨hx, rfl, hd⟩⟩
  · have T := Lib.hid (And.intro kk (And.intro hx hl))
    clear kk hl hx
    go_wp2
    refine bodyPost_ret (v := .tuple #[.pointer (some ⟨p', 0, none⟩), .int .i64 0]) (by simp [results, Tryz.results95, go_sem]) rfl ⟨T.out.1, .inl ⟨T.out.2.1, p', rfl, T.out.2.2⟩⟩
  · have T := Lib.hid (And.intro kk (And.intro hx hd))
    clear kk hd hx
    go_wp2
    refine bodyPost_ret (v := .tuple #[.pointer none, .int .i64 R.2]) (by simp [results, Tryz.results95, go_sem]) rfl ⟨T.out.1, .inr ⟨T.out.2.1, rfl, T.out.2.2⟩⟩
theorem HasL.less {p : Nat} {L : Lg} (h : HasL X w0 w p b d L) (hy : ∀ k, Y k → X k) : HasL Y w0 w p b d L := by
  obtain ⟨g, o, cap, h⟩ := h
  exact ⟨g, o, cap, h.mem, h.disk.weak fun k hk => hk.imp (hy k) id, h.p0, fun hc => h.p1 (hy _ hc), h.g0, h.g1.1, fun hc => h.g1.2 (hy _ hc)⟩
/-- What Open hands back. -/
def Opened (X : Nat → Prop) (w0 w : World) (b : Nat) (R : OpenR) (z : Ending) (w' : World) : Prop := Kept X w w' ∧
  ((R.e = 0 ∧ ∃ p v, z = .returned (.tuple #[.pointer (some ⟨p, 0, none⟩), v, .int .i64 0]) ∧ HasL (fun k => X k ∨ v.ownBlock = some k) w0 w' p b R.d R.L ∧ Vec 5 w' v R.es.length (R.es.flatMap evV) ∧ ∀ g, v.ownBlock = some g → w.heap.size ≤ g) ∨
   (R.e ≠ 0 ∧ z = .returned (.tuple #[.pointer none, .slice none 0 0, .int .i64 R.e]) ∧ HasX X w0 w' b R.d))
theorem Open_ok (h : HasX X w0 w b d) (ht : Tab w0) (hU : DenFor U d) (size : Int) : Calls Tryz.prog 46 #[.pointer (some ⟨b, 0, none⟩), .int .i64 size] w (Opened X w0 w b (openD U d size)) := by
  have HT := Lib.hid ht
  obtain ⟨R, hR⟩ : ∃ r, openD U d size = r := ⟨_, rfl⟩
  rw [hR]
  unfold openD at hR
  -- the two boxes
  have n2 := ((Nw.refl w).alloc (.cells #[.pointer (some ⟨b, 0, none⟩)] 36)).alloc (.cells #[.int .i64 size] 3)
  have b2 : ((w.alloc (.cells #[.pointer (some ⟨b, 0, none⟩)] 36)).alloc (.cells #[.int .i64 size] 3)).heap[w.heap.size]? = some (.cells #[.pointer (some ⟨b, 0, none⟩)] 36 (0, 0)) := (heap_alloc_old _ _ (by simp)).trans (heap_alloc_new w _)
  have b3 := heap_alloc_new (w.alloc (.cells #[.pointer (some ⟨b, 0, none⟩)] 36)) (.cells #[.int .i64 size] 3)
  rw [World.size_alloc] at b3
  have hsz2 : ((w.alloc (.cells #[.pointer (some ⟨b, 0, none⟩)] 36)).alloc (.cells #[.int .i64 size] 3)).heap.size = w.heap.size + 1 + 1 := by simp
  have k2 := cell_of b2 (i := 0) rfl
  have k3 := cell_of b3 (i := 0) rfl
  by_cases hs : size < 64 ∨ 16777216 < size
  case pos =>
    rw [if_pos hs] at hR
    have H2 := Lib.hid (h.nw n2)
    have N2 := Lib.hid n2
    subst hR
    by_cases hs1 : size < 64
    · have q1 : decide (size < 64) = true := by simpa using hs1
      clear h hU n2 b2 b3 hs hs1
      go_enter Tryz.func46, Tryz.ntmps46
      go_wp2
      refine bodyPost_ret (v := .tuple #[.pointer none, .slice none 0 0, .int .i64 2]) (by simp [results, Tryz.results46, go_sem]) rfl ⟨N2.out.kept, .inr ⟨by simp, rfl, H2.out⟩⟩
    · have q1 : decide (size < 64) = false := by simpa using hs1
      have q2 : decide (16777216 < size) = true := by simp; omega
      clear h hU n2 b2 b3 hs hs1
      go_enter Tryz.func46, Tryz.ntmps46
      go_wp2
      refine bodyPost_ret (v := .tuple #[.pointer none, .slice none 0 0, .int .i64 2]) (by simp [results, Tryz.results46, go_sem]) rfl ⟨N2.out.kept, .inr ⟨by simp, rfl, H2.out⟩⟩
  rw [if_neg hs] at hR
  have hsz : 64 ≤ size ∧ size ≤ 16777216 := by omega
  have q1 : decide (size < 64) = false := by simp; omega
  have q2 : decide (16777216 < size) = false := by simp; omega
  obtain ⟨⟨d4, es, ps, x4⟩, hm⟩ : ∃ r, mendD U d = r := ⟨_, rfl⟩
  have hpr : ps = [] ∨ rightL ps = true := by
    rcases mendD_of (U := U) (d := d) with ⟨h1, -⟩ | ⟨h1, -⟩
    · rw [hm] at h1; exact .inl h1
    · rw [hm] at h1
      simp only at h1
      rw [h1]; exact scanD_right
  have hel : es.length ≤ 2305843009213693952 := by
    have h2 := scanD_len h.ok hU
    rcases mendD_of (U := U) (d := d) with ⟨-, h1⟩ | ⟨-, h1⟩
    · rw [hm] at h1; simp only at h1; rw [h1]; simp
    · rw [hm] at h1; simp only at h1; rw [h1]; omega
  rw [hm] at hR
  simp only at hR
  obtain ⟨X2, hX2⟩ : ∃ Y : Nat → Prop, Y = fun k => X k ∨ k = w.heap.size ∨ k = w.heap.size + 1 := ⟨_, rfl⟩
  have h2 : HasX X2 w0 ((w.alloc (.cells #[.pointer (some ⟨b, 0, none⟩)] 36)).alloc (.cells #[.int .i64 size] 3)) b d := h.nwY n2 (fun k hk => by
    rw [hsz2]
    rw [hX2] at hk
    rcases hk with hk | rfl | rfl
    · exact .inl hk
    · exact .inr ⟨Nat.le_refl _, by omega⟩
    · exact .inr ⟨by omega, by omega⟩)
  have HM := Lib.hid (Mend_ok h2 hU hm)
  have HX2 : Hid ((∀ k, X k → X2 k) ∧ X2 w.heap.size ∧ X2 (w.heap.size + 1)) := Lib.hid (by rw [hX2]; exact ⟨fun k h => .inl h, .inr (.inl rfl), .inr (.inr rfl)⟩)
  have N2 := Lib.hid n2
  have B2 := Lib.hid b2
  have B3 := Lib.hid b3
  have HSZ := Lib.hid hsz
  have HPR := Lib.hid hpr
  have HEL := Lib.hid hel
  have HRR := Lib.hid hR
  have HB : Hid (w0.heap.size ≤ w.heap.size) := Lib.hid h.base.size
  have HXL : Hid (∀ k, X k → k < w.heap.size) := Lib.hid h.lt
  obtain ⟨ne, hne⟩ : ∃ n, es.length = n := ⟨_, rfl⟩
  obtain ⟨np, hnp⟩ : ∃ n, ps.length = n := ⟨_, rfl⟩
  have HNE := Lib.hid hne
  have HNP := Lib.hid hnp
  clear h hU n2 b2 b3 hs hsz hpr hel hR hm hne hnp h2 hX2 hsz2
  go_enter Tryz.func46, Tryz.ntmps46
  go_wp2_with fail
  refine HM.out.mono ?_
  rintro z w4 ⟨v, p, rfl, hT⟩
  have o1l := hT.evs.len
  have o2l := hT.pcs.len
  rw [HNE.out] at o1l
  rw [HNP.out] at o2l
  obtain ⟨va, vc, rfl, -⟩ := o1l
  obtain ⟨pa, pc, rfl, -⟩ := o2l
  have T := Lib.hid hT
  clear hT HM k2 k3
  have n6 := ((Nw.refl w4).alloc (.cells #[.slice va ne vc] 38)).alloc (.cells #[.slice pa np pc] 22)
  have b7 : ((w4.alloc (.cells #[.slice va ne vc] 38)).alloc (.cells #[.slice pa np pc] 22)).heap[w4.heap.size]? = some (.cells #[.slice va ne vc] 38 (0, 0)) := (heap_alloc_old _ _ (by simp)).trans (heap_alloc_new w4 _)
  have b8 := heap_alloc_new (w4.alloc (.cells #[.slice va ne vc] 38)) (.cells #[.slice pa np pc] 22)
  rw [World.size_alloc] at b8
  have hsz6 : ((w4.alloc (.cells #[.slice va ne vc] 38)).alloc (.cells #[.slice pa np pc] 22)).heap.size = w4.heap.size + 1 + 1 := by simp
  obtain ⟨Y, hY⟩ : ∃ Y : Nat → Prop, Y = fun k => (X2 k ∨ (Value.slice va ne vc).ownBlock = some k ∨ (Value.slice pa np pc).ownBlock = some k) ∨ k = w4.heap.size ∨ k = w4.heap.size + 1 := ⟨_, rfl⟩
  have h6 : HasX Y w0 ((w4.alloc (.cells #[.slice va ne vc] 38)).alloc (.cells #[.slice pa np pc] 22)) b d4 := T.out.disk.nwY n6 (fun k hk => by
    rw [hsz6]
    rw [hY] at hk
    rcases hk with hk | rfl | rfl
    · exact .inl hk
    · exact .inr ⟨Nat.le_refl _, by omega⟩
    · exact .inr ⟨by omega, by omega⟩)
  have k7 := cell_of b7 (i := 0) rfl
  have k8 := cell_of b8 (i := 0) rfl
  have k2 := cell_of ((n6.block _ (Nat.lt_of_lt_of_le (lt_of_block B2.out) T.out.kept.1) (fun hf => hf)).trans ((T.out.kept.2 _ HX2.out.2.1 (lt_of_block B2.out)).trans B2.out)) (i := 0) rfl
  have k3 := cell_of ((n6.block _ (Nat.lt_of_lt_of_le (lt_of_block B3.out) T.out.kept.1) (fun hf => hf)).trans ((T.out.kept.2 _ HX2.out.2.2 (lt_of_block B3.out)).trans B3.out)) (i := 0) rfl
  have HY : Hid ((∀ k, X k → Y k) ∧ (∀ g, (Value.slice va ne vc).ownBlock = some g → Y g) ∧ (∀ g, (Value.slice pa np pc).ownBlock = some g → Y g) ∧ Y w4.heap.size) := Lib.hid (by rw [hY]; exact ⟨fun k h => .inl (.inl (HX2.out.1 k h)), fun g h => .inl (.inr (.inl h)), fun g h => .inl (.inr (.inr h)), .inr (.inl rfl)⟩)
  have K6 : Hid (Kept X w ((w4.alloc (.cells #[.slice va ne vc] 38)).alloc (.cells #[.slice pa np pc] 22))) := Lib.hid (N2.out.kept.trans ((T.out.kept.weak HX2.out.1).trans n6.kept))
  have V6 := Lib.hid (T.out.evs.nw n6)
  have P6 : Hid (Pcs ((w4.alloc (.cells #[.slice va ne vc] 38)).alloc (.cells #[.slice pa np pc] 22)) (.slice pa np pc) ps) := Lib.hid ⟨by have := (T.out.pcs.nw n6).src; exact this, T.out.ok⟩
  have HE0 : Hid (∀ g, (Value.slice va ne vc).ownBlock = some g → w.heap.size ≤ g) := Lib.hid (fun g hg => by have h1 := T.out.e0 g hg; have h2 := N2.out.size; omega)
  have B7 := Lib.hid b7
  have H6 := Lib.hid h6
  clear n6 b7 b8 hsz6 hY h6 T
  by_cases c4 : x4 = 0
  case neg =>
    have q4 : (x4 != 0) = true := by simpa using c4
    have rr := HRR.out
    rw [if_pos c4] at rr
    subst rr
    have HC := Lib.hid c4
    clear c4 k2 k3 k7 k8
    go_wp2
    refine bodyPost_ret (v := .tuple #[.pointer none, .slice none 0 0, .int .i64 x4]) (by simp [results, Tryz.results46, go_sem]) rfl ⟨K6.out, .inr ⟨HC.out, rfl, H6.out.weak HY.out.1⟩⟩
  subst c4
  have rr := HRR.out
  rw [if_neg (by simp)] at rr
  have HR2 := Lib.hid rr
  clear rr HRR
  by_cases hp : np = 0
  case pos =>
    have hps : ps = [] := List.eq_nil_of_length_eq_zero (by rw [HNP.out]; exact hp)
    have rr := HR2.out
    rw [if_pos hps] at rr
    have C := Open2_ok H6.out HT.out k2 k3
    obtain ⟨⟨d5, x5⟩, hcr⟩ : ∃ r, createD d4 size = r := ⟨_, rfl⟩
    rw [hcr] at rr C
    simp only at rr
    have C := Lib.hid C
    have HR3 := Lib.hid rr
    subst hp
    clear rr hcr HR2 hps
    go_wp2_with fail
    refine C.out.mono ?_
    rintro e w7 ⟨kk, ⟨hx, p', rfl, hl⟩ | ⟨hx, rfl, hd⟩⟩
    · subst hx
      have L7 := Lib.hid hl
      have K7 := Lib.hid kk
      have V7 := Lib.hid (V6.out.kept kk HY.out.2.1)
      have k9 := cell_of ((kk.2 _ HY.out.2.2.2 (lt_of_block B7.out)).trans B7.out) (i := 0) rfl
      have l9 := World.block_lt_of_cell? _ _ k9
      simp only at l9
      have rr := HR3.out
      rw [if_neg (by simp)] at rr
      subst rr
      clear hl kk k2 k3 k7 k8 C
      go_upto_region 12 with fail
      go_region
      all_goals (try go_wp2)
      all_goals refine bodyPost_ret (v := .tuple #[.pointer (some ⟨p', 0, none⟩), .slice va ne vc, .int .i64 0]) (by simp [results, Tryz.results46, go_sem]) rfl ?_
      all_goals exact ⟨K6.out.trans ((K7.out.weak HY.out.1).trans (Nw.refl _).drew.kept), .inl ⟨rfl, p', _, rfl, ((L7.out.nw (Nw.refl _).drew).less (X := Y) fun k hk => hk.elim (HY.out.1 k) (HY.out.2.1 k)), V7.out.nw (Nw.refl _).drew, HE0.out⟩⟩
    · have q5 : (x5 != 0) = true := by simpa using hx
      have H7 := Lib.hid hd
      have K7 := Lib.hid kk
      have HX5 := Lib.hid hx
      have rr := HR3.out
      rw [if_pos hx] at rr
      subst rr
      clear hd kk hx k2 k3 k7 k8 C
      go_wp2
      refine bodyPost_ret (v := .tuple #[.pointer none, .slice none 0 0, .int .i64 x5]) (by simp [results, Tryz.results46, go_sem]) rfl ⟨K6.out.trans (K7.out.weak HY.out.1), .inr ⟨HX5.out, rfl, H7.out.weak HY.out.1⟩⟩
  have hpne : ps ≠ [] := fun e => hp (by have := HNP.out; rw [e] at this; simpa using this.symm)
  have hR : rightL ps = true := by
    rcases HPR.out with h | h
    · exact absurd h hpne
    · exact h
  have hpq : ((np : Int) == 0) = false := by simpa using hp
  have rr := HR2.out
  rw [if_neg hpne] at rr
  have C := Open1_ok H6.out P6.out HY.out.2.2.1 HSZ.out hR HEL.out (show Value.slice va ne vc = .slice va es.length vc by rw [HNE.out]) k2 k3 k7 k8
  obtain ⟨⟨d5, x5⟩, hcr⟩ : ∃ r, resumeD d4 size ps es.length = r := ⟨_, rfl⟩
  rw [hcr] at rr C
  simp only at rr
  have C := Lib.hid C
  have HR3 := Lib.hid rr
  clear rr hcr HR2 hpne hR hp
  go_wp2_with fail
  refine C.out.mono ?_
  rintro e w7 ⟨kk, ⟨hx, p', rfl, hl⟩ | ⟨hx, rfl, hd⟩⟩
  · subst hx
    have L7 := Lib.hid hl
    have K7 := Lib.hid kk
    have V7 := Lib.hid (V6.out.kept kk HY.out.2.1)
    have k9 := cell_of ((kk.2 _ HY.out.2.2.2 (lt_of_block B7.out)).trans B7.out) (i := 0) rfl
    have l9 := World.block_lt_of_cell? _ _ k9
    simp only at l9
    have rr := HR3.out
    rw [if_neg (by simp)] at rr
    subst rr
    clear hl kk k2 k3 k7 k8 C
    go_upto_region 12 with fail
    go_region
    all_goals (try go_wp2)
    all_goals refine bodyPost_ret (v := .tuple #[.pointer (some ⟨p', 0, none⟩), .slice va ne vc, .int .i64 0]) (by simp [results, Tryz.results46, go_sem]) rfl ?_
    all_goals exact ⟨K6.out.trans ((K7.out.weak HY.out.1).trans (Nw.refl _).drew.kept), .inl ⟨rfl, p', _, rfl, ((L7.out.nw (Nw.refl _).drew).less (X := Y) fun k hk => hk.elim (HY.out.1 k) (HY.out.2.1 k)), V7.out.nw (Nw.refl _).drew, HE0.out⟩⟩
  · have q5 : (x5 != 0) = true := by simpa using hx
    have H7 := Lib.hid hd
    have K7 := Lib.hid kk
    have HX5 := Lib.hid hx
    have rr := HR3.out
    rw [if_pos hx] at rr
    subst rr
    clear hd kk hx k2 k3 k7 k8 C
    go_wp2
    refine bodyPost_ret (v := .tuple #[.pointer none, .slice none 0 0, .int .i64 x5]) (by simp [results, Tryz.results46, go_sem]) rfl ⟨K6.out.trans (K7.out.weak HY.out.1), .inr ⟨HX5.out, rfl, H7.out.weak HY.out.1⟩⟩
end
end Go.Proofs.YtphgiobklbpdeaaGreatDoor

/-
  The chapter's examples on recovery, in plain words.
-/
namespace Go.Proofs.YtphgiobklbpdeaaGreatDoor
open Go
def evA (n : Int) : Ev := ⟨0, 0, 0, n, 0⟩
theorem intB2 : intB 2 = [4] := by unfold intB zig; rw [if_pos (by omega), uintB_small (by omega)]; rfl
theorem intB3 : intB 3 = [6] := by unfold intB zig; rw [if_pos (by omega), uintB_small (by omega)]; rfl
theorem frmA {n : Int} (h : n = 1 ∨ n = 2 ∨ n = 3) : (frmB [evA n]).length = 11 := by
  have w2 : w64 2 = 2 := by decide
  have w3 : w64 3 = 3 := by decide
  rcases h with rfl | rfl | rfl
  · exact frm_of (by simp [putE, evA, Ev.zero, w64_0, w64_1, intB0, intB1])
  · exact frm_of (by simp [putE, evA, Ev.zero, w64_0, w2, intB0, intB2])
  · exact frm_of (by simp [putE, evA, Ev.zero, w64_0, w3, intB0, intB3])
theorem evA_ok {n : Int} (h : in64 n) : (evA n).Ok := ⟨by unfold in64 evA; simp, by unfold in64 evA; simp, h, by unfold in64 evA; simp⟩
def f2 (a b : DFile) : List (Str × DFile) := [(segName 0, a), (manifestS, b)]
def manF : DFile := ⟨manifestB [pc0], (manifestB [pc0]).length⟩
theorem seg_man : ¬ segName 0 = manifestS := by rw [seg0_eq]; decide
theorem f2_set (a b c : DFile) : setF (f2 a b) (segName 0) c = f2 c b := by simp [f2, setF]
theorem f2_setM (a b c : DFile) : setF (f2 a b) manifestS c = f2 a c := by simp [f2, setF, seg_man]
theorem f2_file (a b : DFile) : fileOf (f2 a b) (segName 0) = a := by simp [f2, fileOf, getF]
theorem f2_man (a b : DFile) : fileOf (f2 a b) manifestS = b := by simp [f2, fileOf, getF, seg_man]
theorem right0 : RightP [] pc0 := ⟨by simp, rfl, segName_ok (by decide), by simp, rfl, rfl, rfl⟩
theorem man_len : (manifestB [pc0]).length ≤ 71 := by
  have := manifestB_le (l := [pc0]) ((rightL_iff [] _).2 right0)
  simpa using this
structure Sx (d : Dsk) (L : Lg) (fs : List (List Ev)) (m : Nat) : Prop where
  inv : LInv d L [] pc0
  most : d.most = 1000
  files : d.files = f2 ⟨segB 0 fs, (segB 0 (fs.take m)).length⟩ manF
  bytes : L.bytes = 9 + 11 * fs.length
  n : L.n = fs.length
  len : (segB 0 fs).length = 9 + 11 * fs.length
  size : L.size = 64
theorem Sx.new : ∃ d, createD (newDsk 1000) 64 = (d, 0) ∧ Sx d (newLg 64) [] 0 := by
  obtain ⟨F, h1, h2, h3, h4⟩ := create_calm' 1000 (by omega) (size := 64) (by omega) (by omega)
  exact ⟨_, h1, ⟨h2, rfl, by rw [h4]; simp [f2, segB, manF, newLg, pc0], by simp [newLg, head0], rfl, by simp [segB, head0], rfl⟩⟩
section
variable {d : Dsk} {L : Lg} {fs : List (List Ev)} {m : Nat}
theorem Sx.used (h : Sx d L fs m) : usedF d.files ≤ 80 + 11 * fs.length := by
  have := man_len
  have h2 := h.len
  rw [h.files]
  simp [usedF, f2, manF]
  omega
theorem Sx.add (h : Sx d L fs m) (hm : m ≤ fs.length) (hk : fs.length < 5) {e : Ev} (he : (frmB [e]).length = 11) : ∃ d' L', L.add d [e] = ⟨d', L', 0⟩ ∧ Sx d' L' (fs ++ [[e]]) m := by
  have hu := h.used
  obtain ⟨p1, p2, p3⟩ := put_calm h.inv [e] (by rw [he, h.most]; omega)
  refine ⟨_, _, (add_stay h.inv (by simp) (by simp) (fun hc => ?_)).trans p1, p2, h.most, ?_, ?_, ?_, ?_, h.size⟩
  · have h1 := h.bytes
    have h2 := h.size
    omega
  · simp only
    rw [h.files, show pc0.name = segName 0 from rfl, f2_file, f2_set]
    simp only
    rw [List.take_append_of_le_length hm]
    simp [segB]
  · simp only; rw [h.bytes, he, List.length_append]; simp; omega
  · simp [h.n]
  · rw [show segB 0 (fs ++ [[e]]) = segB 0 fs ++ frmB [e] by simp [segB], List.length_append, h.len, he, List.length_append]; simp; omega
theorem Sx.sync (h : Sx d L fs m) : ∃ d' L', L.sync d = ⟨d', L', 0⟩ ∧ Sx d' L' fs fs.length := by
  obtain ⟨p1, p2, p3⟩ := lsync_calm h.inv
  refine ⟨_, _, p1, p2, h.most, ?_, h.bytes, h.n, h.len, h.size⟩
  simp only
  rw [h.files, show pc0.name = segName 0 from rfl, f2_file, f2_set, List.take_length]
theorem Sx.list (h : Sx d L fs m) : d.list = [manifestS, [115, 48]] := by
  rw [list_eq, h.files]
  simp only [namesF, f2, List.map_cons, List.map_nil, seg0_eq]
  decide
end
/-- The disk behind the crash, with a stray file. -/
def xF (e1 e2 e3 : Ev) : List (Str × DFile) := f2 ⟨segB 0 [[e1], [e2]] ++ (frmB [e3]).take 10, 41⟩ manF ++ [([120], ⟨[], 0⟩)]
theorem f2_leaves {a : DFile} {b : DFile} {j k : Int} : crashF [manifestS, segName 0] [j, k] (f2 a b) = f2 (leaves a k) (leaves b j) := by
  simp [crashF, f2_setM, f2_set, f2_file, f2_man]
section
variable {d : Dsk} {L : Lg} {e1 e2 e3 : Ev}
theorem Sx.crash (h : Sx d L [[e1], [e2], [e3]] 2) (h3 : (frmB [e3]).length = 11) : (d.crash [0, 10]).files = f2 ⟨segB 0 [[e1], [e2]] ++ (frmB [e3]).take 10, 41⟩ manF ∧ (segB 0 [[e1], [e2]]).length = 31 := by
  have hl := h.len
  have hs : segB 0 [[e1], [e2], [e3]] = segB 0 [[e1], [e2]] ++ frmB [e3] := by simp [segB]
  have h31 : (segB 0 [[e1], [e2]]).length = 31 := by rw [hs, List.length_append, h3] at hl; simp at hl; omega
  refine ⟨?_, h31⟩
  unfold Dsk.crash
  simp only
  rw [h.list, h.files, ← seg0_eq, f2_leaves]
  have l1 : leaves ⟨segB 0 [[e1], [e2], [e3]], (segB 0 ([[e1], [e2], [e3]].take 2)).length⟩ 10 = ⟨segB 0 [[e1], [e2]] ++ (frmB [e3]).take 10, 41⟩ := by
    unfold leaves
    rw [show ([[e1], [e2], [e3]] : List (List Ev)).take 2 = [[e1], [e2]] from rfl]
    simp only
    rw [hs, h31, List.length_append, h31, h3]
    simp only [show 31 + min (10 : Int).toNat (31 + 11 - 31) = 31 + 10 from rfl]
    rw [← h31, List.take_length_add_append, h31]
  rw [l1]
  congr 1
  exact leaves_self _ rfl
end
section
variable {U : List UInt8 → Int × List Ev × Int} {d : Dsk} {e1 e2 e3 : Ev}
theorem x_tin (h : d.files = xF e1 e2 e3) (h31 : (segB 0 [[e1], [e2]]).length = 31) (h3 : (frmB [e3]).length = 11) (o1 : e1.Ok) (o2 : e2.Ok) (o3 : e3.Ok) : TIn (WholeU U) d.files [pc0] [] pc0 [] [[e1], [e2]] ((frmB [e3]).take 10) 2 := by
  have hx : ¬ segName 0 = [120] := by rw [seg0_eq]; decide
  have hy : ¬ manifestS = [120] := by decide
  rw [h]
  refine ⟨?_, rfl, right0, ?_, rfl, ⟨41, ?_, ?_⟩, by simp, ?_, ?_, rfl, ?_⟩
  · simp [xF, f2, namesF, seg_man, hx, hy]
  · simp [xF, f2, fileOf, getF, seg_man, manF]
  · simp [xF, f2, fileOf, getF, pc0]
  · rw [show ([[e1], [e2]] : List (List Ev)).take 2 = [[e1], [e2]] from rfl, show pc0.first.toNat = 0 from rfl, h31]; omega
  · intro f hf
    simp only [List.mem_cons, List.not_mem_nil, or_false] at hf
    rcases hf with rfl | rfl
    · exact ⟨by simp, by simp, fun e he => by rw [List.mem_singleton] at he; subst he; exact o1⟩
    · exact ⟨by simp, by simp, fun e he => by rw [List.mem_singleton] at he; subst he; exact o2⟩
  · exact .inr ⟨[e3], 10, ⟨by simp, by simp, fun e he => by rw [List.mem_singleton] at he; subst he; exact o3⟩, by rw [h3]; omega, rfl⟩
  · intro k hk hm
    simp only [List.map_cons, List.map_nil, List.mem_singleton] at hm
    have := segName_inj hm
    subst this
    exact absurd hk (by decide)
theorem x_list (h : d.files = xF e1 e2 e3) : d.list = [manifestS, [115, 48], [120]] := by
  rw [list_eq, h]
  simp only [namesF, xF, f2, List.map_cons, List.map_nil, List.cons_append, List.nil_append, seg0_eq]
  decide
theorem x_mend (hc : Calm d) (h : d.files = xF e1 e2 e3) (h31 : (segB 0 [[e1], [e2]]).length = 31) (h3 : (frmB [e3]).length = 11) (o1 : e1.Ok) (o2 : e2.Ok) (o3 : e3.Ok) :
    scanD U d = ⟨[e1, e2], [pc0], 31, 0⟩ ∧ mendD U d = ⟨{ d with files := f2 ⟨segB 0 [[e1], [e2]], 31⟩ manF }, [e1, e2], [pc0], 0⟩ := by
  have hx : ¬ segName 0 = [120] := by rw [seg0_eq]; decide
  have hy : ¬ manifestS = [120] := by decide
  have hs : scanD U d = ⟨[e1, e2], [pc0], 31, 0⟩ := by
    rw [(x_tin h h31 h3 o1 o2 o3).scan hc.up, show pc0.first.toNat = 0 from rfl, h31]
    simp
  refine ⟨hs, ?_⟩
  have h10 : ((frmB [e3]).take 10).length = 10 := by rw [List.length_take, h3]; rfl
  have hf : fileOf d.files (segName 0) = ⟨segB 0 [[e1], [e2]] ++ (frmB [e3]).take 10, 41⟩ := by rw [h]; simp [xF, f2, fileOf, getF]
  have hg : getF d.files (segName 0) = some ⟨segB 0 [[e1], [e2]] ++ (frmB [e3]).take 10, 41⟩ := by rw [h]; simp [xF, f2, getF]
  have hset : setF d.files (segName 0) ⟨segB 0 [[e1], [e2]], 31⟩ = f2 ⟨segB 0 [[e1], [e2]], 31⟩ manF ++ [([120], ⟨[], 0⟩)] := by rw [h]; simp [xF, f2, setF]
  have hcut : cutD d [pc0] 31 = ({ d with files := f2 ⟨segB 0 [[e1], [e2]], 31⟩ manF ++ [([120], ⟨[], 0⟩)] }, 0) := by
    unfold cutD
    rw [show (lastP [pc0]).name = segName 0 from rfl, hf]
    simp only
    rw [if_pos ⟨by simp, by rw [List.length_append, h31, h10]; omega⟩]
    unfold Dsk.cut Dsk.mayCut
    rw [hg]
    simp only
    rw [if_neg (by rw [List.length_append, h31, h10]; omega), op_calm hc, hf]
    simp only
    rw [show (31 : Int).toNat = 31 from rfl, List.take_append_of_le_length (by omega), List.take_of_length_le (by omega), hset]
  have hc2 : Calm { d with files := f2 ⟨segB 0 [[e1], [e2]], 31⟩ manF ++ [([120], (⟨[], 0⟩ : DFile))] } := hc.same _ (by simp [f2, namesF, seg_man, hx, hy])
  have hl : ({ d with files := f2 ⟨segB 0 [[e1], [e2]], 31⟩ manF ++ [([120], (⟨[], 0⟩ : DFile))] } : Dsk).list = [manifestS, segName 0, [120]] := by
    rw [list_eq]
    simp only [namesF, f2, List.map_cons, List.map_nil, List.cons_append, List.nil_append, seg0_eq]
    decide
  have hrem : ({ d with files := f2 ⟨segB 0 [[e1], [e2]], 31⟩ manF ++ [([120], (⟨[], 0⟩ : DFile))] } : Dsk).remove [120] = ({ d with files := f2 ⟨segB 0 [[e1], [e2]], 31⟩ manF }, 0) := by
    rw [remove_calm hc2 (by simp [f2, namesF])]
    simp [f2, delF, hx, hy]
  unfold mendD mendWith
  rw [hs]
  simp only
  rw [hcut]
  simp only
  rw [if_neg (by simp), if_neg (by simp), hl]
  have hst : staysOf [pc0] = [manifestS, segName 0] := rfl
  rw [hst]
  have hrm : rmAll [manifestS, segName 0] [manifestS, segName 0, [120]] ({ d with files := f2 ⟨segB 0 [[e1], [e2]], 31⟩ manF ++ [([120], (⟨[], 0⟩ : DFile))] } : Dsk) = ({ d with files := f2 ⟨segB 0 [[e1], [e2]], 31⟩ manF }, 0) := by
    unfold rmAll
    rw [if_pos (by simp)]
    unfold rmAll
    rw [if_pos (by simp)]
    unfold rmAll
    rw [if_neg (by simp only [List.mem_cons, List.not_mem_nil, or_false, not_or]; exact ⟨Ne.symm hy, Ne.symm hx⟩), hrem, if_neg (by simp)]
    rfl
  rw [hrm]
  simp
end
/-- No manifest. -/
theorem bad_scan {U : List UInt8 → Int × List Ev × Int} : ∃ d, (newDsk 100).append manifestS [119, 104, 97, 116] = (d, 0) ∧ scanD U d = ⟨[], [], 0, 14⟩ ∧ (listedB (d.read manifestS).1).1 = [] := by
  have hc : Calm (newDsk 100) := ⟨rfl, rfl, by simp [newDsk, namesF]⟩
  refine ⟨_, append_calm hc (by decide) (by simp [newDsk, usedF]) (by simp [newDsk]), ?_⟩
  have hr : ({ newDsk 100 with files := setF (newDsk 100).files manifestS ⟨(fileOf (newDsk 100).files manifestS).bytes ++ [119, 104, 97, 116], (fileOf (newDsk 100).files manifestS).synced⟩ } : Dsk).read manifestS = ([119, 104, 97, 116], 0) := by rfl
  have hl : (listedB [119, 104, 97, 116]).2 = 12 := by rfl
  have hl1 : (listedB [119, 104, 97, 116]).1 = [] := by rfl
  refine ⟨?_, by rw [hr]; exact hl1⟩
  unfold scanD
  rw [hr]
  simp only
  rw [hl]
  simp
end Go.Proofs.YtphgiobklbpdeaaGreatDoor
