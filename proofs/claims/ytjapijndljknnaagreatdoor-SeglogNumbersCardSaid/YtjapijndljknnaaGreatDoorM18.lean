/-
  Texts merged by a program of this claim's: SwapA, Sames.
-/
import Derived.Test.YtjapijndljknnaaGreatDoorLogIS
import Derived.Test.YtjapijndljknnaaGreatDoorM14
import Derived.Test.YtjapijndljknnaaGreatDoorM12
import Derived.Laws.StructEq
/-
  seglog.Log.Swap, walked.
-/
namespace Go.Proofs.YtjapijndljknnaaGreatDoor
open Go Go.RowKit Go.Sort
set_option maxRecDepth 100000
set_option maxHeartbeats 1600000
section
variable {X : Nat → Prop} {w0 w : World} {p b : Nat} {d : Dsk} {L : Lg}
theorem Swap_ok (h : HasL X w0 w p b d L) {v : Value} {ps : List Pc} (hv : Pcs w v ps) (hl : ps.length ≤ 1000) :
    Calls Tryz.prog 33 #[.pointer (some ⟨p, 0, none⟩), v] w (DidL X w0 w p b (L.swap d ps).d (L.swap d ps).L (.int .i64 (L.swap d ps).e)) := by
  obtain ⟨g, o, cap, h⟩ := h
  have H := Lib.hid h
  obtain ⟨va, vc, rfl, -⟩ := hv.src.len
  cases hov : L.over
  case true =>
    have E : Hid (L.swap d ps = ⟨d, L, 16⟩) := Lib.hid (by unfold Lg.swap; rw [hov]; rfl)
    have HU := Lib.hid (lup_ok h.mem)
    rw [hov] at HU
    rw [E.out]
    clear h hov E hv
    go_enter Tryz.func33, Tryz.ntmps33
    go_wp2_with fail
    refine HU.out.mono ?_
    rintro e w1 ⟨rfl, rfl⟩
    go_wp2
    go_ret
    exact ⟨rfl, ⟨g, o, cap, H.out⟩, Kept.refl _⟩
  obtain ⟨l2, hl2⟩ : ∃ r, ps ++ [lastP L.l] = r := ⟨_, rfl⟩
  obtain ⟨r, hr⟩ : ∃ r, d.install l2 = r := ⟨_, rfl⟩
  have E1 : Hid (rightL l2 = false → L.swap d ps = ⟨d, L, 14⟩) := Lib.hid (fun hx => by unfold Lg.swap; rw [hov, hl2, if_neg (by simp), if_pos hx])
  have E2 : Hid (rightL l2 = true → r.2 ≠ 0 → L.swap d ps = ⟨r.1, { L with over := true }, r.2⟩) := Lib.hid (fun hx hy => by unfold Lg.swap; rw [hov, hl2, hr, if_neg (by simp), if_neg (by simp [hx]), if_pos hy])
  have E3 : Hid (rightL l2 = true → r.2 = 0 → L.swap d ps = ⟨r.1, { L with l := l2 }, 0⟩) := Lib.hid (fun hx hy => by unfold Lg.swap; rw [hov, hl2, hr, if_neg (by simp), if_neg (by simp [hx]), if_neg (by simp [hy])])
  have HR := Lib.hid hr
  have HL2 := Lib.hid hl2
  have HU := Lib.hid (lup_ok h.mem)
  rw [hov] at HU
  have HOV := Lib.hid hov
  have HV := Lib.hid hv
  have HO : Hid (∀ W, Nw w W → Calls Tryz.prog 89 #[.pointer (some ⟨p, 0, none⟩)] W fun e w' => e = .returned (.pointer (some ⟨g, o + (L.l.length - 1) * 4, none⟩)) ∧ Nw W w') := Lib.hid (fun W hW => lopen_ok (H.out.nw hW).mem)
  obtain ⟨i0, hi, hz0, hz1, hz2⟩ := info_parts infoPc
  have HI := Lib.hid hi
  have HZ0 := Lib.hid hz0
  have HZ1 := Lib.hid hz1
  have HZ2 := Lib.hid hz2
  obtain ⟨n, hn⟩ : ∃ n, ps.length = n := ⟨_, rfl⟩
  have HN := Lib.hid hn
  rw [hn] at hl
  obtain ⟨m4, hm4⟩ : ∃ q, o + (L.l.length - 1) * 4 = q := ⟨_, rfl⟩
  rw [hm4] at HO
  have HC : Hid (∀ W, Nw w W → W.cell? ⟨g, m4, none⟩ = some (.string ⟨(lastP L.l).name.toArray⟩) ∧ W.cell? ⟨g, m4 + 1, none⟩ = some (.int .i64 (lastP L.l).first) ∧ W.cell? ⟨g, m4 + 2, none⟩ = some (.int .i64 (lastP L.l).count) ∧ W.cell? ⟨g, m4 + 3, none⟩ = some (.bool (lastP L.l).dense) ∧ g < W.heap.size) := Lib.hid (fun W hW => by
    obtain ⟨a1, a2, a3, a4, a5, -⟩ := (H.out.nw hW).mem.last
    rw [hm4] at a1 a2 a3 a4
    exact ⟨a1, a2, a3, a4, a5⟩)
  have HQ : Hid ((lastP L.l).Ok) := Lib.hid (by
    have := lastP_at h.mem.some_
    rw [← this]
    exact h.mem.pcs.ok _ (List.getElem_mem _))
  clear h hov hr hl2 hv hn hm4 hi hz0 hz1 hz2
  generalize lastP L.l = q at HC HL2 HQ
  go_enter Tryz.func33, Tryz.ntmps33
  go_wp2_with fail
  refine HU.out.mono ?_
  rintro e w1 ⟨rfl, rfl⟩
  rw [HN.out]
  go_wp2_with fail
  have CL := Lib.hid (PClone_ok HV.out (by rw [HN.out]; omega))
  rw [HN.out] at CL
  refine CL.out.mono ?_
  rintro e w1 ⟨v1, rfl, q1, q2, q3⟩
  rw [HN.out] at q1
  obtain ⟨xa, xc, rfl, -⟩ := q1.len
  have N1 := Lib.hid q2
  have V1 := Lib.hid q1
  have F1 : Hid (∀ j, (Value.slice xa n xc).ownBlock = some j → w.heap.size ≤ j) := Lib.hid q3
  clear q1 q2 q3 CL
  go_wp2_with fail
  refine (HO.out _ N1.out).mono ?_
  rintro e w2 ⟨rfl, n2⟩
  have N2 := Lib.hid (N1.out.trans n2)
  have V2 := Lib.hid (V1.out.nw n2)
  clear n2 V1
  obtain ⟨a1, a2, a3, a4, a5⟩ := HC.out _ N2.out
  have SL := src_lit w2 32 (0, 0) 4 1 1 ([.string ⟨q.name.toArray⟩, .int .i64 q.first, .int .i64 q.count, .bool q.dense] : List Value) rfl (by omega) (by decide)
  have SL := Lib.hid SL
  have NA : Hid (Nw w2 (w2.alloc (.cells #[.string ⟨q.name.toArray⟩, .int .i64 q.first, .int .i64 q.count, .bool q.dense] 32 (0, 0)))) := Lib.hid ((Nw.refl _).alloc _)
  go_wp2_with (at_builtin; refine wpList_append_vec rfl _ _ 28 rfl 32 i0 (.agg #[.string ⟨#[]⟩, .int .i64 0, .int .i64 0, .bool false]) 4 40 Tryz.underlying28 HI.out HZ0.out HZ1.out HZ2.out rfl (by decide) rfl rfl (V2.out.nw NA.out) SL.out ?c1 ?c2 ?c3 ?_)
  case c1 =>
    intro u hu
    simp only [List.mem_cons, List.not_mem_nil, or_false] at hu
    rcases hu with rfl | rfl | rfl | rfl <;> rfl
  case c2 => unfold maxLen; omega
  case c3 => omega
  intro v6 w6 q1 q2 q3
  obtain ⟨g6, o6, c6, rfl⟩ : ∃ g6 o6 c6, v6 = .slice (some ⟨g6, o6, none⟩) (n + 1) c6 := by
    obtain ⟨-, ⟨-, hz⟩ | ⟨g6, o6, c6, hv, -⟩⟩ := q1
    · omega
    · exact ⟨g6, o6, c6, hv⟩
  have P6 : Hid (Vec 4 w6 (.slice (some ⟨g6, o6, none⟩) (n + 1) c6) (n + 1) (l2.flatMap pcV) ∧ Nw w w6 ∧ w.heap.size ≤ g6) := Lib.hid (by
    refine ⟨?_, (N2.out.trans NA.out).trans' q2 (fun k hk hc => by have := F1.out k hc; omega), ?_⟩
    · rw [← HL2.out, List.flatMap_append]; exact q1
    · rcases q3 with h | h
      · exact F1.out g6 (by have h' : some g6 = (Value.slice xa n xc).ownBlock := h; exact h'.symm)
      · have h1 := h g6 rfl
        have h2 := N2.out.size
        omega)
  clear q1 q2 q3 V2 SL N2 NA N1 F1 a1 a2 a3 a4 a5
  have HN2 : Hid (l2.length = n + 1) := Lib.hid (by rw [← HL2.out, List.length_append, HN.out]; rfl)
  have PC6 : Hid (Pcs w6 (.slice (some ⟨g6, o6, none⟩) (n + 1) c6) l2) := Lib.hid ⟨by rw [HN2.out]; exact P6.out.1.src, fun x hx => by
    rw [← HL2.out] at hx
    rcases List.mem_append.1 hx with hx | hx
    · exact HV.out.ok x hx
    · rw [List.mem_singleton.1 hx]; exact HQ.out⟩
  clear HV
  go_wp2_with fail
  refine (Right_ok PC6.out).mono ?_
  rintro e w7 ⟨rfl, n7⟩
  have N7 := Lib.hid (P6.out.2.1.trans n7)
  have PC7 := Lib.hid (PC6.out.nw n7)
  have V7 := Lib.hid (P6.out.1.nw n7)
  have H7 := Lib.hid (H.out.nw N7.out)
  clear n7 PC6
  cases hrt : rightL l2
  case false =>
    have E := Lib.hid (E1.out hrt)
    go_wp2
    go_ret
    rw [E.out]
    exact ⟨rfl, ⟨g, o, cap, H7.out⟩, N7.out.kept⟩
  obtain ⟨c0, -⟩ := H7.out.mem.cells
  have hp7 := lt_of_block H7.out.mem.blk
  obtain ⟨Y, hY⟩ : ∃ Y : Nat → Prop, Y = fun k => (X k ∨ k = p ∨ k = g) ∨ w.heap.size ≤ k ∧ k < w7.heap.size := ⟨_, rfl⟩
  have D8 : Hid (HasX Y w0 w7 b d) := Lib.hid (H.out.disk.nwY N7.out (fun k hk => by rw [hY] at hk; exact hk))
  have HY := Lib.hid hY
  clear hY
  go_wp2_with fail
  refine (Install_ok D8.out PC7.out).mono ?_
  rintro e w9 ⟨rfl, q1, q2⟩
  have hr3 : d.install l2 = r := HR.out
  rw [hr3] at q1 ⊢
  have D9 := Lib.hid q1
  have K9 := Lib.hid q2
  have H9 := Lib.hid ((H7.out).disk' (q1.weak fun k hk => by rw [HY.out]; exact .inl hk) (q2.weak fun k hk => by rw [HY.out]; exact .inl hk))
  have KX9 : Hid (Kept X w w9) := Lib.hid (N7.out.kept.trans (q2.weak fun k hk => by rw [HY.out]; exact .inl (.inl hk)))
  clear q1 q2 hr3 c0
  by_cases hx3 : r.2 = 0
  case neg =>
    have E := Lib.hid (E2.out hrt hx3)
    have hbq : (r.2 != 0) = true := by simpa using hx3
    have ht : decide (r.2 ≠ 0) = true := by simpa using hx3
    have CE := Lib.hid (lends_ok H9.out r.2)
    rw [ht] at CE
    go_wp2_with fail
    refine CE.out.mono ?_
    rintro e w10 ⟨rfl, h10, k10⟩
    go_wp2
    go_ret
    rw [E.out]
    exact ⟨rfl, h10, KX9.out.trans k10⟩
  have E := Lib.hid (E3.out hrt hx3)
  have hbq : (r.2 != 0) = false := by simpa using hx3
  clear hx3
  obtain ⟨-, -, z2, -, -, -, -, zf⟩ := H9.out.mem.cells
  have zf2 := zf 2
  have hp9 := lt_of_block H9.out.mem.blk
  clear zf
  go_wp2
  go_ret
  rw [E.out]
  have hb1 := heap_setCell_at H9.out.mem.blk 2 (.slice (some ⟨g6, o6, none⟩) (n + 1) c6)
  have hon : Only (fun k => k = p) w9 (w9.setCell ⟨p, 2, none⟩ (.slice (some ⟨g6, o6, none⟩) (n + 1) c6)) :=
    Only.setCell (S := fun k => k = p) (p := ⟨p, 2, none⟩) (Only.refl w9) (fun _ => rfl) _
  have hgY : Y g6 := by rw [HY.out]; exact .inr ⟨P6.out.2.2, V7.out.lt g6 rfl⟩
  have hpY : Y p := by rw [HY.out]; exact .inl (.inr (.inl rfl))
  have hgp : g6 ≠ p := by have := lt_of_block H.out.mem.blk; have := P6.out.2.2; omega
  have hw40 := H.out.disk.base.size
  refine ⟨rfl, ⟨g6, o6, c6, ⟨⟨?_, ?_, ?_⟩, ?_, H.out.p0, H.out.p1, by have := P6.out.2.2; omega, hgp, fun hx => by have := H.out.disk.lt _ (.inl hx); have := P6.out.2.2; omega⟩⟩, KX9.out.trans ⟨hon.size, fun k hk hlt => hon.block k hlt (fun e => H.out.p1 (e ▸ hk))⟩⟩
  · rw [hb1]
    simp only [HN2.out]
    rfl
  · have hpc := PC7.out
    refine ⟨?_, hpc.ok⟩
    have hs := hpc.src
    simp only [HN2.out] at hs ⊢
    obtain ⟨e, ⟨a, hv, hz⟩ | ⟨g', o', cap', hv, h1, h2, h3, h4⟩⟩ := hs
    · cases hv
    · injection hv with ea eb ec
      injection ea with ea
      injection ea with e1 e2
      subst e1 e2 ec
      exact ⟨e, .inr ⟨g6, o6, c6, rfl, h1, h2, Nat.lt_of_lt_of_le (Nat.lt_of_lt_of_le h3 K9.out.1) hon.size, fun j hj => hon.cell (K9.out.cell (h4 j hj) hgY) hgp⟩⟩
  · intro hnil
    have := HN2.out
    rw [show l2 = [] from hnil] at this
    simp at this
  · exact D9.out.put hon (fun k hk _ => by subst hk; exact ⟨hpY, H.out.p0⟩) (fun k hk => by
      rcases hk with hk | rfl | rfl
      · exact .inl (by rw [HY.out]; exact .inl (.inl hk))
      · exact .inl hpY
      · exact .inl hgY)
end
end Go.Proofs.YtjapijndljknnaaGreatDoor

/-
  The statements' comparisons of lists that are the same: SamePieces, SameEvents.
-/
namespace Go.Proofs.YtjapijndljknnaaGreatDoor
open Go Go.RowKit Go.Sort
set_option maxRecDepth 100000
set_option maxHeartbeats 1600000

theorem neq_pc (q : Pc) (w : World) : (binOp .neq 32 (.agg #[.string ⟨q.name.toArray⟩, .int .i64 q.first, .int .i64 q.count, .bool q.dense]) (.agg #[.string ⟨q.name.toArray⟩, .int .i64 q.first, .int .i64 q.count, .bool q.dense])).run Tryz.prog w = .ok (.bool false) w := by
  have hS : Tryz.prog.underlying 32 = some (.struct (Tryz.prog.fieldsOf 32)) := by kernel_rfl
  have hp : Tryz.prog.stoodInHeld 32 = false := by kernel_rfl
  have u1 := Tryz.underlying9
  have u2 := Tryz.underlying3
  have u3 := Tryz.underlying4
  rw [run_neq_struct, show (10000 : Nat) = 9999 + 1 from rfl, run_equalIn_agg w 9999 32 _ _ hS hp]
  simp only [Program.fieldsOf, Tryz.underlying32]
  go_simp
theorem SamePieces_ok {w : World} {v u : Value} {l : List Pc} (h : Pcs w v l) (h' : Pcs w u l) :
    Calls Tryz.prog 17 #[v, u] w fun e w' => e = .returned (.bool true) ∧ Nw w w' := by
  obtain ⟨la, lc, rfl, hl1, hl2, hle⟩ := h.elem
  obtain ⟨ka, kc, rfl, -, -, hke⟩ := h'.elem
  have HL := Lib.hid hle
  have HK := Lib.hid hke
  obtain ⟨n, hn⟩ : ∃ n, l.length = n := ⟨_, rfl⟩
  have HN := Lib.hid hn
  have hn63 : n ≤ 9223372036854775807 := by unfold maxLen at hl2; omega
  rw [hn]
  have hgd : Tryz.prog.eqGuardType Tryz.prog.depth 32 = false := by kernel_rfl
  clear h h' hle hke hl1 hl2 hn
  go_enter Tryz.func17, Tryz.ntmps17
  go_wp2
  go_loopw [5] (fun i wr => ∃ k : Nat, k ≤ n ∧ i = .int .i64 k ∧ Nw w wr) (fun i _ => n - (intOf i).toNat)
  case atStart => exact ⟨0, Nat.zero_le _, rfl, Nw.refl _⟩
  case round =>
    obtain ⟨k, hk, rfl, hwr⟩ := hrel
    have HW := Lib.hid hwr
    clear hwr
    by_cases hlt : k < n
    · have hkl : k < l.length := by rw [HN.out]; exact hlt
      obtain ⟨g, o, rfl, hg, c0, c1, c2, c3⟩ := HL.out k hkl
      obtain ⟨g2, o2, rfl, hg2, d0, d1, d2, d3⟩ := HK.out k hkl
      generalize l[k] = q at c0 c1 c2 c3 d0 d1 d2 d3
      have heq := neq_pc q
      have c0 := HW.out.cell c0
      have c1 := HW.out.cell c1
      have c2 := HW.out.cell c2
      have c3 := HW.out.cell c3
      have d0 := HW.out.cell d0
      have d1 := HW.out.cell d1
      have d2 := HW.out.cell d2
      have d3 := HW.out.cell d3
      have hg := Nat.lt_of_lt_of_le hg HW.out.size
      have hg2 := Nat.lt_of_lt_of_le hg2 HW.out.size
      clear hkl
      go_upto_region 6 with fail
      have c0 := cellG c0
      have c1 := cellG c1
      have c2 := cellG c2
      have c3 := cellG c3
      have d0 := cellG d0
      have d1 := cellG d1
      have d2 := cellG d2
      have d3 := cellG d3
      refine wp_region_quiet_below (by kernel_rfl) (by kernel_rfl) ?_
      repeat (first | go_big_quiet_step (fail) | quiet_step (fail))
      refine wpQuiet_nil ?_
      intro w2 hw2
      have hw2 := Lib.hid (Nw.of_regrown hw2)
      clear c0 c1 c2 c3 d0 d1 d2 d3 heq
      go_wp2
      go_roundw
      case rel => exact ⟨k + 1, by omega, by go_num, HW.out.trans hw2.out⟩
      case measure => simp [intOf]; omega
    · go_wp2
      go_ret
      exact ⟨rfl, HW.out⟩
end Go.Proofs.YtjapijndljknnaaGreatDoor
