/-
  Texts merged by a program of this claim's: RecE, KeepUse2, UpPlain.
-/
import Derived.Test.YtjapijndljknnaaGreatDoorM38
import Derived.Test.YtjapijndljknnaaGreatDoorM31
import Derived.Test.YtjapijndljknnaaGreatDoorM37
import Derived.Test.YtjapijndljknnaaGreatDoorM32
/-
  Package recover, walked: Open.
-/
namespace Go.Proofs.YtjapijndljknnaaGreatDoor
open Go Go.RowKit Go.Sort
set_option maxRecDepth 100000
set_option maxHeartbeats 1600000
section
variable {X Y : Nat → Prop} {w0 w w' : World} {b : Nat} {d d' : Dsk} {U : List UInt8 → Int × List Ev × Int}
theorem scanD_right : (scanD U d).ps = [] ∨ rightL (scanD U d).ps = true := by
  unfold scanD
  repeat' split
  · exact .inl rfl
  · exact .inl rfl
  · exact .inl rfl
  · exact .inl rfl
  · rename_i h1 h2
    exact .inr (listedB_right (by rcases Decidable.em ((listedB (d.read manifestS).1).2 = 0) with h | h; exact h; exact absurd h h1))
theorem pcsD_len (ok : d.Ok) : ∀ (l : List Pc) (out : List Ev) (g : Int), (∀ q ∈ l, q.dense = true → DenOk U) → (pcsD U d l out g).1.length ≤ out.length + 16777216 * l.length
  | [], out, g, _ => by simp [pcsD]
  | q :: l, out, g, h => by
    have h1 := pieceD_len' (h q (by simp)) ok (decide (l = []))
    have h2 := pcsD_len ok l (out ++ (pieceD U d q (decide (l = []))).1) (pieceD U d q (decide (l = []))).2.1 fun q hq => h q (by simp [hq])
    rw [pcsD_cons]
    split
    · simp
    · rw [List.length_append] at h2
      simp only [List.length_cons]
      omega
theorem scanD_len (ok : d.Ok) (hU : DenFor U d) : (scanD U d).es.length ≤ 16777216000 := by
  have key : (listedB (d.read manifestS).1).2 = 0 → (pcsD U d (listedB (d.read manifestS).1).1 [] 0).1.length ≤ 16777216000 := fun h => by
    have h1 := pcsD_len ok (listedB (d.read manifestS).1).1 [] 0 (U := U) (fun q hq hd => by
      rcases hU with h | h
      · exact h
      · rw [h q hq] at hd; cases hd)
    have h2 := (rightL_bound (listedB_right h)).2.1
    simp only [List.length_nil] at h1
    omega
  unfold scanD
  repeat' split
  · simp
  · simp
  · simp
  · simp
  · rename_i h1 h2
    exact key (by rcases Decidable.em ((listedB (d.read manifestS).1).2 = 0) with h | h; exact h; exact absurd h h1)
theorem mendD_of : ((mendD U d).ps = [] ∧ (mendD U d).es = []) ∨ ((mendD U d).ps = (scanD U d).ps ∧ (mendD U d).es = (scanD U d).es) := by
  unfold mendD mendWith
  repeat' split
  · exact .inl ⟨rfl, rfl⟩
  · exact .inl ⟨rfl, rfl⟩
  · exact .inl ⟨rfl, rfl⟩
  · exact .inr ⟨rfl, rfl⟩
/-- The closures of Open. -/
theorem Open1_ok (h : HasX X w0 w b d) {v p : Value} {l : List Pc} (hv : Pcs w p l) (hx : ∀ g, p.ownBlock = some g → X g) {size : Int} (hs : 64 ≤ size ∧ size ≤ 16777216) (hr : rightL l = true) {n : Nat} (hn : n ≤ 2305843009213693952)
    {a : Option Addr} {cap : Nat} (hva : v = .slice a n cap) {c2 c3 c7 c8 : Nat} (k2 : w.cell? ⟨c2, 0, none⟩ = some (.pointer (some ⟨b, 0, none⟩))) (k3 : w.cell? ⟨c3, 0, none⟩ = some (.int .i64 size)) (k7 : w.cell? ⟨c7, 0, none⟩ = some v) (k8 : w.cell? ⟨c8, 0, none⟩ = some p) :
    Calls Tryz.prog 105 #[.pointer (some ⟨c2, 0, none⟩), .pointer (some ⟨c3, 0, none⟩), .pointer (some ⟨c8, 0, none⟩), .pointer (some ⟨c7, 0, none⟩)] w (Created X w0 w b (resumeD d size l n).1 (resumeD d size l n).2 (onLg d size l n)) := by
  have C := Resume_ok h hv hx hs hr hn
  obtain ⟨R, hR⟩ : ∃ r, resumeD d size l n = r := ⟨_, rfl⟩
  rw [hR] at C ⊢
  have C := Lib.hid C
  clear hR
  obtain ⟨pa, pc, rfl, -, -, -⟩ := hv.elem
  subst hva
  have l2 := World.block_lt_of_cell? _ _ k2
  have l3 := World.block_lt_of_cell? _ _ k3
  have l7 := World.block_lt_of_cell? _ _ k7
  have l8 := World.block_lt_of_cell? _ _ k8
  simp only at l2 l3 l7 l8
  obtain ⟨np, hnp⟩ : ∃ k, l.length = k := ⟨_, rfl⟩
  rw [hnp] at C k8
  clear h hv hx hnp
  go_enter Tryz.func105, Tryz.ntmps105
  go_wp2_with fail
  refine C.out.mono ?_
  rintro e w1 ⟨kk, ⟨hx, p', rfl, hl⟩ | ⟨hx, rfl, hd⟩⟩
  · have T := Lib.hid (And.intro kk (And.intro hx hl))
    clear kk hl hx
    go_wp2
    refine bodyPost_ret (v := .tuple #[.pointer (some ⟨p', 0, none⟩), .int .i64 0]) (by simp [results, Tryz.results105, go_sem]) rfl ⟨T.out.1, .inl ⟨T.out.2.1, p', rfl, T.out.2.2⟩⟩
  · have T := Lib.hid (And.intro kk (And.intro hx hd))
    clear kk hd hx
    go_wp2
    refine bodyPost_ret (v := .tuple #[.pointer none, .int .i64 R.2]) (by simp [results, Tryz.results105, go_sem]) rfl ⟨T.out.1, .inr ⟨T.out.2.1, rfl, T.out.2.2⟩⟩
theorem Open2_ok (h : HasX X w0 w b d) (ht : Tab w0) {size : Int} {c2 c3 : Nat} (k2 : w.cell? ⟨c2, 0, none⟩ = some (.pointer (some ⟨b, 0, none⟩))) (k3 : w.cell? ⟨c3, 0, none⟩ = some (.int .i64 size)) :
    Calls Tryz.prog 106 #[.pointer (some ⟨c2, 0, none⟩), .pointer (some ⟨c3, 0, none⟩)] w (Created X w0 w b (createD d size).1 (createD d size).2 (newLg size)) := by
  have C := Create_ok h ht size
  obtain ⟨R, hR⟩ : ∃ r, createD d size = r := ⟨_, rfl⟩
  rw [hR] at C ⊢
  have C := Lib.hid C
  clear hR
  have l2 := World.block_lt_of_cell? _ _ k2
  have l3 := World.block_lt_of_cell? _ _ k3
  simp only at l2 l3
  clear h
  go_enter Tryz.func106, Tryz.ntmps106
  go_wp2_with fail
  refine C.out.mono ?_
  rintro e w1 ⟨kk, ⟨hx, p', rfl, hl⟩ | ⟨hx, rfl, hd⟩⟩
  · have T := Lib.hid (And.intro kk (And.intro hx hl))
    clear kk hl hx
    go_wp2
    refine bodyPost_ret (v := .tuple #[.pointer (some ⟨p', 0, none⟩), .int .i64 0]) (by simp [results, Tryz.results106, go_sem]) rfl ⟨T.out.1, .inl ⟨T.out.2.1, p', rfl, T.out.2.2⟩⟩
  · have T := Lib.hid (And.intro kk (And.intro hx hd))
    clear kk hd hx
    go_wp2
    refine bodyPost_ret (v := .tuple #[.pointer none, .int .i64 R.2]) (by simp [results, Tryz.results106, go_sem]) rfl ⟨T.out.1, .inr ⟨T.out.2.1, rfl, T.out.2.2⟩⟩
theorem HasL.less {p : Nat} {L : Lg} (h : HasL X w0 w p b d L) (hy : ∀ k, Y k → X k) : HasL Y w0 w p b d L := by
  obtain ⟨g, o, cap, h⟩ := h
  exact ⟨g, o, cap, h.mem, h.disk.weak fun k hk => hk.imp (hy k) id, h.p0, fun hc => h.p1 (hy _ hc), h.g0, h.g1.1, fun hc => h.g1.2 (hy _ hc)⟩
/-- What Open hands back. -/
def Opened (X : Nat → Prop) (w0 w : World) (b : Nat) (R : OpenR) (z : Ending) (w' : World) : Prop := Kept X w w' ∧
  ((R.e = 0 ∧ ∃ p v, z = .returned (.tuple #[.pointer (some ⟨p, 0, none⟩), v, .int .i64 0]) ∧ HasL (fun k => X k ∨ v.ownBlock = some k) w0 w' p b R.d R.L ∧ Vec 5 w' v R.es.length (R.es.flatMap evV) ∧ ∀ g, v.ownBlock = some g → w.heap.size ≤ g) ∨
   (R.e ≠ 0 ∧ z = .returned (.tuple #[.pointer none, .slice none 0 0, .int .i64 R.e]) ∧ HasX X w0 w' b R.d))
theorem Open_ok (h : HasX X w0 w b d) (ht : Tab w0) (hU : DenFor U d) (size : Int) : Calls Tryz.prog 50 #[.pointer (some ⟨b, 0, none⟩), .int .i64 size] w (Opened X w0 w b (openD U d size)) := by
  have HT := Lib.hid ht
  obtain ⟨R, hR⟩ : ∃ r, openD U d size = r := ⟨_, rfl⟩
  rw [hR]
  unfold openD at hR
  -- the two boxes
  have n2 := ((Nw.refl w).alloc (.cells #[.pointer (some ⟨b, 0, none⟩)] 23)).alloc (.cells #[.int .i64 size] 3)
  have b2 : ((w.alloc (.cells #[.pointer (some ⟨b, 0, none⟩)] 23)).alloc (.cells #[.int .i64 size] 3)).heap[w.heap.size]? = some (.cells #[.pointer (some ⟨b, 0, none⟩)] 23 (0, 0)) := (heap_alloc_old _ _ (by simp)).trans (heap_alloc_new w _)
  have b3 := heap_alloc_new (w.alloc (.cells #[.pointer (some ⟨b, 0, none⟩)] 23)) (.cells #[.int .i64 size] 3)
  rw [World.size_alloc] at b3
  have hsz2 : ((w.alloc (.cells #[.pointer (some ⟨b, 0, none⟩)] 23)).alloc (.cells #[.int .i64 size] 3)).heap.size = w.heap.size + 1 + 1 := by simp
  have k2 := cell_of b2 (i := 0) rfl
  have k3 := cell_of b3 (i := 0) rfl
  by_cases hs : size < 64 ∨ 16777216 < size
  case pos =>
    rw [if_pos hs] at hR
    have H2 := Lib.hid (h.nw n2)
    have N2 := Lib.hid n2
    subst hR
    by_cases hs1 : size < 64
    · have q1 : decide (size < 64) = true := by simpa using hs1
      clear h hU n2 b2 b3 hs hs1
      go_enter Tryz.func50, Tryz.ntmps50
      go_wp2
      refine bodyPost_ret (v := .tuple #[.pointer none, .slice none 0 0, .int .i64 2]) (by simp [results, Tryz.results50, go_sem]) rfl ⟨N2.out.kept, .inr ⟨by simp, rfl, H2.out⟩⟩
    · have q1 : decide (size < 64) = false := by simpa using hs1
      have q2 : decide (16777216 < size) = true := by simp; omega
      clear h hU n2 b2 b3 hs hs1
      go_enter Tryz.func50, Tryz.ntmps50
      go_wp2
      refine bodyPost_ret (v := .tuple #[.pointer none, .slice none 0 0, .int .i64 2]) (by simp [results, Tryz.results50, go_sem]) rfl ⟨N2.out.kept, .inr ⟨by simp, rfl, H2.out⟩⟩
  rw [if_neg hs] at hR
  have hsz : 64 ≤ size ∧ size ≤ 16777216 := by omega
  have q1 : decide (size < 64) = false := by simp; omega
  have q2 : decide (16777216 < size) = false := by simp; omega
  obtain ⟨⟨d4, es, ps, x4⟩, hm⟩ : ∃ r, mendD U d = r := ⟨_, rfl⟩
  have hpr : ps = [] ∨ rightL ps = true := by
    rcases mendD_of (U := U) (d := d) with ⟨h1, -⟩ | ⟨h1, -⟩
    · rw [hm] at h1; exact .inl h1
    · rw [hm] at h1
      simp only at h1
      rw [h1]; exact scanD_right
  have hel : es.length ≤ 2305843009213693952 := by
    have h2 := scanD_len h.ok hU
    rcases mendD_of (U := U) (d := d) with ⟨-, h1⟩ | ⟨-, h1⟩
    · rw [hm] at h1; simp only at h1; rw [h1]; simp
    · rw [hm] at h1; simp only at h1; rw [h1]; omega
  rw [hm] at hR
  simp only at hR
  obtain ⟨X2, hX2⟩ : ∃ Y : Nat → Prop, Y = fun k => X k ∨ k = w.heap.size ∨ k = w.heap.size + 1 := ⟨_, rfl⟩
  have h2 : HasX X2 w0 ((w.alloc (.cells #[.pointer (some ⟨b, 0, none⟩)] 23)).alloc (.cells #[.int .i64 size] 3)) b d := h.nwY n2 (fun k hk => by
    rw [hsz2]
    rw [hX2] at hk
    rcases hk with hk | rfl | rfl
    · exact .inl hk
    · exact .inr ⟨Nat.le_refl _, by omega⟩
    · exact .inr ⟨by omega, by omega⟩)
  have HM := Lib.hid (Mend_ok h2 hU hm)
  have HX2 : Hid ((∀ k, X k → X2 k) ∧ X2 w.heap.size ∧ X2 (w.heap.size + 1)) := Lib.hid (by rw [hX2]; exact ⟨fun k h => .inl h, .inr (.inl rfl), .inr (.inr rfl)⟩)
  have N2 := Lib.hid n2
  have B2 := Lib.hid b2
  have B3 := Lib.hid b3
  have HSZ := Lib.hid hsz
  have HPR := Lib.hid hpr
  have HEL := Lib.hid hel
  have HRR := Lib.hid hR
  have HB : Hid (w0.heap.size ≤ w.heap.size) := Lib.hid h.base.size
  have HXL : Hid (∀ k, X k → k < w.heap.size) := Lib.hid h.lt
  obtain ⟨ne, hne⟩ : ∃ n, es.length = n := ⟨_, rfl⟩
  obtain ⟨np, hnp⟩ : ∃ n, ps.length = n := ⟨_, rfl⟩
  have HNE := Lib.hid hne
  have HNP := Lib.hid hnp
  clear h hU n2 b2 b3 hs hsz hpr hel hR hm hne hnp h2 hX2 hsz2
  go_enter Tryz.func50, Tryz.ntmps50
  go_wp2_with fail
  refine HM.out.mono ?_
  rintro z w4 ⟨v, p, rfl, hT⟩
  have o1l := hT.evs.len
  have o2l := hT.pcs.len
  rw [HNE.out] at o1l
  rw [HNP.out] at o2l
  obtain ⟨va, vc, rfl, -⟩ := o1l
  obtain ⟨pa, pc, rfl, -⟩ := o2l
  have T := Lib.hid hT
  clear hT HM k2 k3
  have n6 := ((Nw.refl w4).alloc (.cells #[.slice va ne vc] 25)).alloc (.cells #[.slice pa np pc] 28)
  have b7 : ((w4.alloc (.cells #[.slice va ne vc] 25)).alloc (.cells #[.slice pa np pc] 28)).heap[w4.heap.size]? = some (.cells #[.slice va ne vc] 25 (0, 0)) := (heap_alloc_old _ _ (by simp)).trans (heap_alloc_new w4 _)
  have b8 := heap_alloc_new (w4.alloc (.cells #[.slice va ne vc] 25)) (.cells #[.slice pa np pc] 28)
  rw [World.size_alloc] at b8
  have hsz6 : ((w4.alloc (.cells #[.slice va ne vc] 25)).alloc (.cells #[.slice pa np pc] 28)).heap.size = w4.heap.size + 1 + 1 := by simp
  obtain ⟨Y, hY⟩ : ∃ Y : Nat → Prop, Y = fun k => (X2 k ∨ (Value.slice va ne vc).ownBlock = some k ∨ (Value.slice pa np pc).ownBlock = some k) ∨ k = w4.heap.size ∨ k = w4.heap.size + 1 := ⟨_, rfl⟩
  have h6 : HasX Y w0 ((w4.alloc (.cells #[.slice va ne vc] 25)).alloc (.cells #[.slice pa np pc] 28)) b d4 := T.out.disk.nwY n6 (fun k hk => by
    rw [hsz6]
    rw [hY] at hk
    rcases hk with hk | rfl | rfl
    · exact .inl hk
    · exact .inr ⟨Nat.le_refl _, by omega⟩
    · exact .inr ⟨by omega, by omega⟩)
  have k7 := cell_of b7 (i := 0) rfl
  have k8 := cell_of b8 (i := 0) rfl
  have k2 := cell_of ((n6.block _ (Nat.lt_of_lt_of_le (lt_of_block B2.out) T.out.kept.1) (fun hf => hf)).trans ((T.out.kept.2 _ HX2.out.2.1 (lt_of_block B2.out)).trans B2.out)) (i := 0) rfl
  have k3 := cell_of ((n6.block _ (Nat.lt_of_lt_of_le (lt_of_block B3.out) T.out.kept.1) (fun hf => hf)).trans ((T.out.kept.2 _ HX2.out.2.2 (lt_of_block B3.out)).trans B3.out)) (i := 0) rfl
  have HY : Hid ((∀ k, X k → Y k) ∧ (∀ g, (Value.slice va ne vc).ownBlock = some g → Y g) ∧ (∀ g, (Value.slice pa np pc).ownBlock = some g → Y g) ∧ Y w4.heap.size) := Lib.hid (by rw [hY]; exact ⟨fun k h => .inl (.inl (HX2.out.1 k h)), fun g h => .inl (.inr (.inl h)), fun g h => .inl (.inr (.inr h)), .inr (.inl rfl)⟩)
  have K6 : Hid (Kept X w ((w4.alloc (.cells #[.slice va ne vc] 25)).alloc (.cells #[.slice pa np pc] 28))) := Lib.hid (N2.out.kept.trans ((T.out.kept.weak HX2.out.1).trans n6.kept))
  have V6 := Lib.hid (T.out.evs.nw n6)
  have P6 : Hid (Pcs ((w4.alloc (.cells #[.slice va ne vc] 25)).alloc (.cells #[.slice pa np pc] 28)) (.slice pa np pc) ps) := Lib.hid ⟨by have := (T.out.pcs.nw n6).src; exact this, T.out.ok⟩
  have HE0 : Hid (∀ g, (Value.slice va ne vc).ownBlock = some g → w.heap.size ≤ g) := Lib.hid (fun g hg => by have h1 := T.out.e0 g hg; have h2 := N2.out.size; omega)
  have B7 := Lib.hid b7
  have H6 := Lib.hid h6
  clear n6 b7 b8 hsz6 hY h6 T
  by_cases c4 : x4 = 0
  case neg =>
    have q4 : (x4 != 0) = true := by simpa using c4
    have rr := HRR.out
    rw [if_pos c4] at rr
    subst rr
    have HC := Lib.hid c4
    clear c4 k2 k3 k7 k8
    go_wp2
    refine bodyPost_ret (v := .tuple #[.pointer none, .slice none 0 0, .int .i64 x4]) (by simp [results, Tryz.results50, go_sem]) rfl ⟨K6.out, .inr ⟨HC.out, rfl, H6.out.weak HY.out.1⟩⟩
  subst c4
  have rr := HRR.out
  rw [if_neg (by simp)] at rr
  have HR2 := Lib.hid rr
  clear rr HRR
  by_cases hp : np = 0
  case pos =>
    have hps : ps = [] := List.eq_nil_of_length_eq_zero (by rw [HNP.out]; exact hp)
    have rr := HR2.out
    rw [if_pos hps] at rr
    have C := Open2_ok H6.out HT.out k2 k3
    obtain ⟨⟨d5, x5⟩, hcr⟩ : ∃ r, createD d4 size = r := ⟨_, rfl⟩
    rw [hcr] at rr C
    simp only at rr
    have C := Lib.hid C
    have HR3 := Lib.hid rr
    subst hp
    clear rr hcr HR2 hps
    go_wp2_with fail
    refine C.out.mono ?_
    rintro e w7 ⟨kk, ⟨hx, p', rfl, hl⟩ | ⟨hx, rfl, hd⟩⟩
    · subst hx
      have L7 := Lib.hid hl
      have K7 := Lib.hid kk
      have V7 := Lib.hid (V6.out.kept kk HY.out.2.1)
      have k9 := cell_of ((kk.2 _ HY.out.2.2.2 (lt_of_block B7.out)).trans B7.out) (i := 0) rfl
      have l9 := World.block_lt_of_cell? _ _ k9
      simp only at l9
      have rr := HR3.out
      rw [if_neg (by simp)] at rr
      subst rr
      clear hl kk k2 k3 k7 k8 C
      go_upto_region 12 with fail
      go_region
      all_goals (try go_wp2)
      all_goals refine bodyPost_ret (v := .tuple #[.pointer (some ⟨p', 0, none⟩), .slice va ne vc, .int .i64 0]) (by simp [results, Tryz.results50, go_sem]) rfl ?_
      all_goals exact ⟨K6.out.trans ((K7.out.weak HY.out.1).trans (Nw.refl _).drew.kept), .inl ⟨rfl, p', _, rfl, ((L7.out.nw (Nw.refl _).drew).less (X := Y) fun k hk => hk.elim (HY.out.1 k) (HY.out.2.1 k)), V7.out.nw (Nw.refl _).drew, HE0.out⟩⟩
    · have q5 : (x5 != 0) = true := by simpa using hx
      have H7 := Lib.hid hd
      have K7 := Lib.hid kk
      have HX5 := Lib.hid hx
      have rr := HR3.out
      rw [if_pos hx] at rr
      subst rr
      clear hd kk hx k2 k3 k7 k8 C
      go_wp2
      refine bodyPost_ret (v := .tuple #[.pointer none, .slice none 0 0, .int .i64 x5]) (by simp [results, Tryz.results50, go_sem]) rfl ⟨K6.out.trans (K7.out.weak HY.out.1), .inr ⟨HX5.out, rfl, H7.out.weak HY.out.1⟩⟩
  have hpne : ps ≠ [] := fun e => hp (by have := HNP.out; rw [e] at this; simpa using this.symm)
  have hR : rightL ps = true := by
    rcases HPR.out with h | h
    · exact absurd h hpne
    · exact h
  have hpq : ((np : Int) == 0) = false := by simpa using hp
  have rr := HR2.out
  rw [if_neg hpne] at rr
  have C := Open1_ok H6.out P6.out HY.out.2.2.1 HSZ.out hR HEL.out (show Value.slice va ne vc = .slice va es.length vc by rw [HNE.out]) k2 k3 k7 k8
  obtain ⟨⟨d5, x5⟩, hcr⟩ : ∃ r, resumeD d4 size ps es.length = r := ⟨_, rfl⟩
  rw [hcr] at rr C
  simp only at rr
  have C := Lib.hid C
  have HR3 := Lib.hid rr
  clear rr hcr HR2 hpne hR hp
  go_wp2_with fail
  refine C.out.mono ?_
  rintro e w7 ⟨kk, ⟨hx, p', rfl, hl⟩ | ⟨hx, rfl, hd⟩⟩
  · subst hx
    have L7 := Lib.hid hl
    have K7 := Lib.hid kk
    have V7 := Lib.hid (V6.out.kept kk HY.out.2.1)
    have k9 := cell_of ((kk.2 _ HY.out.2.2.2 (lt_of_block B7.out)).trans B7.out) (i := 0) rfl
    have l9 := World.block_lt_of_cell? _ _ k9
    simp only at l9
    have rr := HR3.out
    rw [if_neg (by simp)] at rr
    subst rr
    clear hl kk k2 k3 k7 k8 C
    go_upto_region 12 with fail
    go_region
    all_goals (try go_wp2)
    all_goals refine bodyPost_ret (v := .tuple #[.pointer (some ⟨p', 0, none⟩), .slice va ne vc, .int .i64 0]) (by simp [results, Tryz.results50, go_sem]) rfl ?_
    all_goals exact ⟨K6.out.trans ((K7.out.weak HY.out.1).trans (Nw.refl _).drew.kept), .inl ⟨rfl, p', _, rfl, ((L7.out.nw (Nw.refl _).drew).less (X := Y) fun k hk => hk.elim (HY.out.1 k) (HY.out.2.1 k)), V7.out.nw (Nw.refl _).drew, HE0.out⟩⟩
  · have q5 : (x5 != 0) = true := by simpa using hx
    have H7 := Lib.hid hd
    have K7 := Lib.hid kk
    have HX5 := Lib.hid hx
    have rr := HR3.out
    rw [if_pos hx] at rr
    subst rr
    clear hd kk hx k2 k3 k7 k8 C
    go_wp2
    refine bodyPost_ret (v := .tuple #[.pointer none, .slice none 0 0, .int .i64 x5]) (by simp [results, Tryz.results50, go_sem]) rfl ⟨K6.out.trans (K7.out.weak HY.out.1), .inr ⟨HX5.out, rfl, H7.out.weak HY.out.1⟩⟩
end
end Go.Proofs.YtjapijndljknnaaGreatDoor

/-
  A log that was opened anew, on any disk, behind frames: what its calls ask; plain words for RecoverKeeps.
-/
namespace Go.Proofs.YtjapijndljknnaaGreatDoor
open Go Go.RowKit Go.Sort
set_option maxRecDepth 100000
structure Rk (z : Int) (c : Nat) (L : Lg) : Prop where
  bytes : L.bytes ≤ 16777234 + c * 1239
  size : L.size = z
section
variable {z : Int} {c : Nat} {L : Lg} {d : Dsk} {es all told : List Ev} {Wh : Pc → List UInt8 → List Ev → Prop} {F : List (Str × DFile)}
theorem KInv.facts (h : KInv Wh F L all) : L.n = all.length ∧ L.l.length ≤ 100 ∧ 0 ≤ (lastP L.l).first ∧ L.l ≠ [] := by
  obtain ⟨A, p, old, fs, m, h⟩ := h
  have hr := (rightL_iff A p).2 h.right
  have h2 := (rightL_bound hr).2.1
  have h3 := right_bound h.right p (by simp)
  refine ⟨h.n, by rw [h.l]; exact h2, by rw [h.last]; exact h3.1, by rw [h.l]; simp⟩
theorem another_size (L : Lg) (d : Dsk) : (L.another d).L.size = L.size := by
  unfold Lg.another
  repeat' split
  all_goals rfl
theorem Rk.add (h : Rk z c L) (hn : L.n < 2 ^ 64) (h2 : es.length ≤ 30) : Rk z (c + 1) (L.add d es).L := by
  have hf := frm_le h2
  have hb := h.bytes
  have hr : (L.roomed d).L.bytes ≤ 16777234 + c * 1239 ∧ (L.roomed d).L.size = z := by
    unfold Lg.roomed
    split
    · have h1 := (another_small L d).2
      have h3 := headB_len hn
      exact ⟨by omega, (another_size L d).trans h.size⟩
    · exact ⟨hb, h.size⟩
  unfold Lg.add
  repeat' split
  · exact ⟨by simp only; omega, h.size⟩
  · exact ⟨by simp only; omega, h.size⟩
  · exact ⟨by simp only; omega, h.size⟩
  · exact ⟨by simp only; omega, hr.2⟩
  · unfold Lg.put
    split
    · exact ⟨by simp only; omega, hr.2⟩
    · exact ⟨by simp only; omega, hr.2⟩
theorem Rk.sync (h : Rk z c L) : Rk z c (L.sync d).L := by
  unfold Lg.sync
  repeat' split
  · exact h
  · exact ⟨h.bytes, h.size⟩
  · exact ⟨h.bytes, h.size⟩
theorem Rk.mono {c' : Nat} (h : Rk z c L) (hc : c ≤ c') : Rk z c' L := ⟨by have := h.bytes; have := Nat.mul_le_mul_right 1239 hc; omega, h.size⟩
variable {X : Nat → Prop} {w0 w : World} {p b : Nat}
theorem Rk.call (h : HasL X w0 w p b d L) (hk : KInv Wh d.files L all) (hr : Rk z c L) (hz : in64 z) (hc : c ≤ 1000) (ha : all.length ≤ 1000000) (ht : Tab w0) {v : Value} (hv : Evs w v es) :
    Calls Tryz.prog 31 #[.pointer (some ⟨p, 0, none⟩), v] w (DidL X w0 w p b (L.add d es).d (L.add d es).L (.int .i64 (L.add d es).e)) := by
  obtain ⟨f1, f2, f3, -⟩ := hk.facts
  have hb := hr.bytes
  exact LAppend_ok h ht ⟨by omega, by omega⟩ f3 (by omega) (by rw [hr.size]; exact hz) hv h.pok
end
section
variable {U : List UInt8 → Int × List Ev × Int} {d : Dsk} {size : Int} {told all : List Ev} {s : Nat}
theorem file_le (ok : d.Ok) (n : Str) : (fileOf d.files n).bytes.length ≤ 16777216 := by
  unfold fileOf
  cases hg : getF d.files n with
  | none => simp
  | some f => exact bytes_le ok hg
theorem open_rk (ok : (openD U d size).d.Ok) (h0 : (openD U d size).e = 0) : (openD U d size).L.bytes ≤ 16777234 := by
  have h9 : (headB 0).length ≤ 18 := headB_len (by decide)
  unfold openD at ok h0 ⊢
  split
  · simp only [newLg]; omega
  rename_i c1
  rw [if_neg c1] at ok h0
  split
  · simp only [newLg]; omega
  rename_i c2
  rw [if_neg c2] at ok h0
  split
  · split
    · simp only [newLg]; omega
    · simp only [newLg]; omega
  rename_i c3
  rw [if_neg c3] at ok h0
  split
  · simp only [newLg]; omega
  rename_i c4
  rw [if_neg c4] at ok h0
  simp only at ok
  have hz : (resumeD (mendD U d).d size (mendD U d).ps (mendD U d).es.length).2 = 0 := by
    rcases Decidable.em ((resumeD (mendD U d).d size (mendD U d).ps (mendD U d).es.length).2 = 0) with h | h
    · exact h
    · exact absurd h c4
  simp only [onLg]
  generalize (mendD U d).d = d2 at *
  unfold resumeD at ok hz
  split at hz
  · exact absurd hz (by simp)
  rename_i g1
  rw [if_neg g1] at ok
  split at hz
  · rename_i g2; exact absurd hz g2
  rename_i g2
  rw [if_neg g2] at ok
  obtain ⟨⟨d3, y⟩, hy⟩ : ∃ r, d2.sync (lastP (mendD U d).ps).name = r := ⟨_, rfl⟩
  rw [hy] at ok hz
  unfold Dsk.sync at hy
  rcases op_cases hy with ⟨-, hf, -⟩ | ⟨hne, -, -⟩
  · have := file_le ok (lastP (mendD U d).ps).name
    rw [hf, fileOf_setF, if_pos rfl] at this
    simp only at this
    omega
  · exact absurd hz hne
/-- A log that goes on: what holds of it. -/
theorem Rt.opened (hc : Calm d) (hm : d.most = 1048576) (h : Rt (WholeU U0) d.files told s) (hs : 64 ≤ size) (hs2 : size ≤ 16777216) (ht : told.length ≤ 1000000) (ok : (openD U0 d size).d.Ok) :
    (openD U0 d size).e = 0 ∧ (openD U0 d size).es = told ∧ KInv (WholeU U0) (openD U0 d size).d.files (openD U0 d size).L told ∧ (openD U0 d size).L.acked = told.length ∧ Rk size 0 (openD U0 d size).L ∧ Calm (openD U0 d size).d ∧ (openD U0 d size).d.most = 1048576 := by
  obtain ⟨a1, a2, a3⟩ := h.openCalm hc (by omega) hs hs2 (by omega)
  obtain ⟨b1, b2, b3, b4, -⟩ := (h.open_ (size := size)).1 a1
  exact ⟨a1, b1, b2, b3, ⟨by have := open_rk ok a1; omega, b4⟩, a2, by rw [a3]; exact hm⟩
/-- A crash: a beginning is left, with all that must be there. -/
theorem Rt.crashed (ok : d.Ok) (hn : (namesF d.files).Nodup) (h : Rt (WholeU U0) d.files told s) (ks : List Int) : ∃ i, s ≤ i ∧ i ≤ told.length ∧ Calm (d.crash ks) ∧ (d.crash ks).most = d.most ∧ Rt (WholeU U0) (d.crash ks).files (told.take i) i := by
  obtain ⟨i, i1, i2, i3⟩ := h.cr (crash_cr ok ks)
  exact ⟨i, i1, i2, crash_calm hn ks, rfl, i3⟩
/-- Another opening, whether it fails or not. -/
theorem Rt.again (h : Rt (WholeU U0) d.files told s) : Rt (WholeU U0) (openD U0 d size).d.files told s := by
  have hle := h.le
  obtain ⟨o1, o2⟩ := h.open_ (size := size)
  rcases Decidable.em ((openD U0 d size).e = 0) with he | he
  · obtain ⟨-, k, ka, -⟩ := o1 he
    exact k.rt.low (by rw [ka]; exact hle)
  · exact o2 he
theorem rt_new (m : Int) : Rt (WholeU U0) (newDsk m).files [] 0 := .inl ⟨⟨by simp [newDsk, namesF], by simp [newDsk, namesF]⟩, rfl, rfl⟩
theorem op_most (d : Dsk) (may : Int) (act : List (Str × DFile) → List (Str × DFile)) : (d.op may act).1.most = d.most := by
  unfold Dsk.op
  repeat' split
  all_goals rfl
theorem fresh_most (d : Dsk) (n : Str) (b : List UInt8) : (d.fresh n b).1.most = d.most := by
  have h1 : ∀ d : Dsk, (d.gone n).1.most = d.most := fun d => op_most d _ _
  have h2 : ∀ d : Dsk, (d.append n b).1.most = d.most := fun d => op_most d _ _
  have h3 : ∀ d : Dsk, (d.sync n).1.most = d.most := fun d => op_most d _ _
  unfold Dsk.fresh andThen
  repeat' split
  all_goals first | (rw [h3, h2, h1]) | (rw [h2, h1]) | (rw [h1])
theorem install_most (d : Dsk) (l : List Pc) : (d.install l).1.most = d.most := by
  unfold Dsk.install andThen
  repeat' split
  · exact (op_most _ _ _).trans (fresh_most _ _ _)
  · exact fresh_most _ _ _
  · rfl
theorem another_most (L : Lg) (d : Dsk) : (L.another d).d.most = d.most := by
  have h1 : ∀ (d : Dsk) (n : Str), (d.sync n).1.most = d.most := fun d n => op_most d _ _
  have h2 : ∀ (d : Dsk) (n : Nat), (d.begun n).1.most = d.most := fun d n => fresh_most d _ _
  unfold Lg.another
  repeat' split
  all_goals first | rfl | exact (install_most _ _).trans ((h2 _ _).trans (h1 _ _)) | exact (h2 _ _).trans (h1 _ _) | exact h1 _ _
theorem add_most (L : Lg) (d : Dsk) (es : List Ev) : (L.add d es).d.most = d.most := by
  have hr : (L.roomed d).d.most = d.most := by
    unfold Lg.roomed
    split
    · exact another_most L d
    · rfl
  unfold Lg.add
  repeat' split
  · rfl
  · rfl
  · rfl
  · exact hr
  · unfold Lg.put
    split
    · exact (op_most _ _ _).trans hr
    · exact (op_most _ _ _).trans hr
theorem sync_most (L : Lg) (d : Dsk) : (L.sync d).d.most = d.most := by
  unfold Lg.sync
  repeat' split
  · rfl
  · exact op_most _ _ _
  · exact op_most _ _ _
theorem createD_most (d : Dsk) (size : Int) : (createD d size).1.most = d.most := by
  unfold createD
  repeat' split
  · rfl
  · rfl
  · rfl
  · exact fresh_most _ _ _
  · exact (install_most _ _).trans (fresh_most _ _ _)
theorem rmAll_most (stays : List Str) : ∀ (l : List Str) (d : Dsk), (rmAll stays l d).1.most = d.most
  | [], d => rfl
  | n :: l, d => by
    unfold rmAll
    repeat' split
    · exact rmAll_most stays l d
    · exact op_most _ _ _
    · exact (rmAll_most stays l _).trans (op_most _ _ _)
theorem mendD_most (U : List UInt8 → Int × List Ev × Int) (d : Dsk) : (mendD U d).d.most = d.most := by
  have hc : ∀ (ps : List Pc) (g : Int), (cutD d ps g).1.most = d.most := fun ps g => by
    unfold cutD
    split
    · exact op_most _ _ _
    · rfl
  unfold mendD mendWith
  repeat' split
  · rfl
  · exact hc _ _
  · exact (rmAll_most _ _ _).trans (hc _ _)
  · exact (rmAll_most _ _ _).trans (hc _ _)
theorem openD_most (U : List UInt8 → Int × List Ev × Int) (d : Dsk) (size : Int) : (openD U d size).d.most = d.most := by
  have hr : ∀ (d : Dsk) (l : List Pc) (n : Int), (resumeD d size l n).1.most = d.most := fun d l n => by
    unfold resumeD
    repeat' split
    · rfl
    · rfl
    · exact op_most _ _ _
  unfold openD
  repeat' split
  · rfl
  · exact mendD_most U d
  · exact (createD_most _ _).trans (mendD_most U d)
  · exact (createD_most _ _).trans (mendD_most U d)
  · exact (hr _ _ _).trans (mendD_most U d)
  · exact (hr _ _ _).trans (mendD_most U d)
end
end Go.Proofs.YtjapijndljknnaaGreatDoor

/-
  A disk without an arm stays up, whatever is done to it; plain words.
-/
namespace Go.Proofs.YtjapijndljknnaaGreatDoor
open Go
def Dsk.Up (d : Dsk) : Prop := d.down = false ∧ d.arm = -1
theorem op_up {d : Dsk} (h : d.Up) (may : Int) (act : List (Str × DFile) → List (Str × DFile)) : (d.op may act).1.Up := by
  obtain ⟨h1, h2⟩ := h
  unfold Dsk.op
  rw [h1, h2]
  simp only [Bool.false_eq_true, if_false]
  split
  · exact ⟨h1, h2⟩
  · rw [if_neg (by decide)]
    exact ⟨rfl, rfl⟩
theorem gone_up {d : Dsk} (h : d.Up) (n : Str) : (d.gone n).1.Up := op_up h _ _
theorem append_up {d : Dsk} (h : d.Up) (n : Str) (b : List UInt8) : (d.append n b).1.Up := op_up h _ _
theorem sync_up {d : Dsk} (h : d.Up) (n : Str) : (d.sync n).1.Up := op_up h _ _
theorem remove_up {d : Dsk} (h : d.Up) (n : Str) : (d.remove n).1.Up := op_up h _ _
theorem fresh_up {d : Dsk} (h : d.Up) (n : Str) (b : List UInt8) : (d.fresh n b).1.Up := by
  unfold Dsk.fresh andThen
  repeat' split
  all_goals first | exact sync_up (append_up (gone_up h n) n b) n | exact append_up (gone_up h n) n b | exact gone_up h n
theorem install_up {d : Dsk} (h : d.Up) (l : List Pc) : (d.install l).1.Up := by
  unfold Dsk.install andThen
  repeat' split
  · exact op_up (fresh_up h _ _) _ _
  · exact fresh_up h _ _
  · exact h
theorem another_up {d : Dsk} (h : d.Up) (L : Lg) : (L.another d).d.Up := by
  have h1 : (d.sync (lastP L.l).name).1.Up := sync_up h _
  have h2 : ((d.sync (lastP L.l).name).1.begun L.n).1.Up := fresh_up h1 _ _
  unfold Lg.another
  repeat' split
  all_goals first | exact h | exact h1 | exact h2 | exact install_up h2 _
theorem add_up {d : Dsk} (h : d.Up) (L : Lg) (es : List Ev) : (L.add d es).d.Up := by
  have hr : (L.roomed d).d.Up := by
    unfold Lg.roomed
    split
    · exact another_up h L
    · exact h
  unfold Lg.add
  repeat' split
  · exact h
  · exact h
  · exact h
  · exact hr
  · unfold Lg.put
    split
    · exact append_up hr _ _
    · exact append_up hr _ _
theorem another_over (L : Lg) (d : Dsk) : (L.another d).L.over = L.over := by
  unfold Lg.another
  repeat' split
  all_goals rfl
theorem add_over {L : Lg} {d : Dsk} {es : List Ev} (h : (L.add d es).e = 0) : (L.add d es).L.over = false := by
  have hr : (L.roomed d).L.over = L.over := by
    unfold Lg.roomed
    split
    · exact another_over L d
    · rfl
  unfold Lg.add at h ⊢
  by_cases h0 : L.over = true
  · rw [if_pos h0] at h; simp at h
  rw [if_neg h0] at h ⊢
  by_cases h1 : es.length = 0
  · rw [if_pos h1] at h; simp at h
  rw [if_neg h1] at h ⊢
  by_cases h2 : 4096 < es.length
  · rw [if_pos h2] at h; simp at h
  rw [if_neg h2] at h ⊢
  by_cases h3 : (L.roomed d).e ≠ 0
  · rw [if_pos h3] at h; exact absurd h h3
  rw [if_neg h3] at h ⊢
  unfold Lg.put at h ⊢
  by_cases h4 : ((L.roomed d).d.append (lastP (L.roomed d).L.l).name (frmB es)).2 ≠ 0
  · rw [if_pos h4] at h; exact absurd h h4
  rw [if_neg h4]
  simp only
  rw [hr]
  simpa using h0
theorem swap_up {d : Dsk} (h : d.Up) (L : Lg) (ps : List Pc) : (L.swap d ps).d.Up := by
  unfold Lg.swap
  repeat' split
  all_goals first | exact h | exact install_up h _
theorem rmEach_up : ∀ (A : List Pc) {d : Dsk}, d.Up → (rmEach A d).1.Up
  | [], _, h => h
  | q :: A, d, h => by
    unfold rmEach
    split
    · exact remove_up h _
    · exact rmEach_up A (remove_up h _)
theorem comp_up {d : Dsk} (h : d.Up) (all : List Ev) (L : Lg) : (compD all L d).d.Up := by
  unfold compD
  repeat' split
  all_goals first | exact h | exact fresh_up h _ _ | exact swap_up (fresh_up h _ _) _ _ | exact rmEach_up _ (swap_up (fresh_up h _ _) _ _)
theorem KInv.imp {Wh Wh' : Pc → List UInt8 → List Ev → Prop} {F : List (Str × DFile)} {L : Lg} {all : List Ev} (hi : ∀ q b es, Wh q b es → Wh' q b es) (h : KInv Wh F L all) : KInv Wh' F L all := by
  obtain ⟨A, p, old, fs, m, h⟩ := h
  exact ⟨A, p, old, fs, m, h.nd, h.l, h.right, h.man, sealedF_imp hi h.old_, h.open_, h.m_, h.fr, h.first, h.all_, h.n, h.acked, h.free, h.pname⟩
end Go.Proofs.YtjapijndljknnaaGreatDoor
