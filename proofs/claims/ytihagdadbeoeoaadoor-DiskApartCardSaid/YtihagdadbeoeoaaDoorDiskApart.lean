/-
  amanuensislaw02.DiskApart: what is done to other files changes nothing of a file.
-/
import Derived.Test.YtihagdadbeoeoaaDoorPlayed
import Derived.Test.YtihagdadbeoeoaaDoorFacts
import Derived.Test.YtihagdadbeoeoaaDoorAwake
import Derived.Test.YtihagdadbeoeoaaDoorClose
namespace Go.Proofs.YtihagdadbeoeoaaDoor.DiskApart
open Go Go.RowKit Go.Sort
set_option maxRecDepth 100000
set_option maxHeartbeats 1600000

theorem getF_delF {L : List (Str × DFile)} {a n : Str} (h : a ≠ n) : getF (delF L a) n = getF L n := by
  induction L with
  | nil => rfl
  | cons x L ih =>
    obtain ⟨k, g⟩ := x
    by_cases hk : k = a
    · subst hk; simp [delF, getF, h]
    · by_cases hm : k = n
      · simp [delF, getF, hm, Ne.symm h]
      · simp [delF, getF, hk, hm, ih]
theorem op_calm {d d' : Dsk} {may : Int} {act : List (Str × DFile) → List (Str × DFile)} {y : Int} (h : d.op may act = (d', y)) (hd : d.down = false) (ha : d.arm = -1) :
    d'.down = false ∧ d'.arm = -1 ∧ (d'.files = d.files ∨ d'.files = act d.files) := by
  unfold Dsk.op at h
  rw [hd, ha] at h
  simp only [Bool.false_eq_true, if_false] at h
  split at h
  · obtain ⟨rfl, -⟩ := Prod.mk.inj h; exact ⟨hd, ha, .inl rfl⟩
  · rw [if_neg (by decide)] at h
    obtain ⟨rfl, -⟩ := Prod.mk.inj h; exact ⟨rfl, rfl, .inr rfl⟩
theorem does_calm {d d' : Dsk} {o : OpR} {y : Int} (h : d.does o = (d', y)) (hd : d.down = false) (ha : d.arm = -1) (h9 : o.kind ≠ 9) (h10 : o.kind ≠ 10) :
    d'.down = false ∧ d'.arm = -1 ∧ ∀ n, o.name ≠ n → (o.kind = 6 → o.tgt ≠ n) → getF d'.files n = getF d.files n := by
  have key : ∀ {may : Int} {act : List (Str × DFile) → List (Str × DFile)}, d.op may act = (d', y) → (∀ n, o.name ≠ n → (o.kind = 6 → o.tgt ≠ n) → getF (act d.files) n = getF d.files n) →
      d'.down = false ∧ d'.arm = -1 ∧ ∀ n, o.name ≠ n → (o.kind = 6 → o.tgt ≠ n) → getF d'.files n = getF d.files n := by
    intro may act h1 h2
    obtain ⟨e1, e2, e3⟩ := op_calm h1 hd ha
    refine ⟨e1, e2, fun n hn ht => ?_⟩
    rcases e3 with e3 | e3
    · rw [e3]
    · rw [e3]; exact h2 n hn ht
  unfold Dsk.does at h
  by_cases k1 : o.kind = 1 ∨ o.kind = 2 ∨ o.kind = 3
  · rw [if_pos k1] at h
    exact key h fun n hn _ => by rw [getF_setF, if_neg hn]
  rw [if_neg k1] at h
  by_cases k2 : o.kind = 4 ∨ o.kind = 5
  · rw [if_pos k2] at h
    exact key h fun n hn _ => by rw [getF_setF, if_neg hn]
  rw [if_neg k2] at h
  by_cases k3 : o.kind = 6
  · rw [if_pos k3] at h
    exact key h fun n hn ht => by rw [getF_setF, if_neg (ht k3), getF_delF hn]
  rw [if_neg k3] at h
  by_cases k4 : o.kind = 7
  · rw [if_pos k4] at h
    exact key h fun n hn _ => by rw [getF_delF hn]
  rw [if_neg k4] at h
  by_cases k5 : o.kind = 8
  · rw [if_pos k5] at h
    exact key h fun n hn _ => by rw [getF_setF, if_neg hn]
  rw [if_neg k5, if_neg h9, if_neg h10] at h
  obtain ⟨rfl, -⟩ := Prod.mk.inj h
  exact ⟨hd, ha, fun _ _ _ => rfl⟩

/-- Whether a call names the file. -/
def names (o : OpR) (n : Str) : Bool := o.name == n || (o.kind == 6 && o.tgt == n)

theorem walk (w : World) (v0 : Value) (ops : List OpR) (h0 : RdK 6 (isOp w) w v0 ops) :
    Calls Tryd.prog 8 #[v0] w fun e w' => e = .returned (.bool true) ∧ Nw w w' := by
  obtain ⟨sa, cap, rfl, hc1, hc2, hel⟩ := h0.len
  have HE := Lib.hid hel
  clear h0 hel
  unfold maxLen at hc2
  have AW := Lib.hid (fun w => awake_ok w)
  go_enter Tryd.func8, Tryd.ntmps8
  go_wp2_with fail
  refine (HasX.new 1000 _ (by omega) (by omega)).mono ?_
  rintro e w1 ⟨a, rfl, H1⟩
  have H1 := Lib.hid H1
  go_wp2
  go_loopw [5] (fun i wr => ∃ (k : Nat) (D : Dsk), k ≤ ops.length ∧ k ≤ 50 ∧ i = .int .i64 k ∧ HasX (fun _ => False) w wr a D ∧ D.down = false ∧ D.arm = -1) (fun i _ => ops.length - (intOf i).toNat)
  case atStart => exact ⟨0, _, Nat.zero_le _, by omega, rfl, H1.out, rfl, rfl⟩
  case round =>
    obtain ⟨k, D, hk, hk5, rfl, hT, hdn, har⟩ := hrel
    have HT := Lib.hid hT
    have HD := Lib.hid hdn
    have HA := Lib.hid har
    clear hT hdn har
    by_cases hlt : k < ops.length
    · by_cases hlt5 : k < 50
      · obtain ⟨g, o, rfl, hg, cs, hcl, hcc, hop⟩ := HE.out k hlt
        generalize ops[k] = x at *
        obtain ⟨vb, vk, hop⟩ := hop
        obtain ⟨ba, bc, hvb, -⟩ := hop.bs.len
        obtain ⟨ka, kc, hvk, -⟩ := hop.ks.len
        subst hvb hvk
        have HO := Lib.hid hop
        obtain ⟨c0, c1, c2, c3, c4, c5⟩ := op_cells hop (fun j hj => HT.out.base.cell (hcc j hj))
        clear hcc hop
        go_wp2_with fail
        have T2 : Hid (HasX (fun k => k = wr.heap.size) w _ a D) := Lib.hid (HT.out.nwY (Y := fun k => k = wr.heap.size) ((Nw.refl wr).alloc (.cells #[.int .i64 x.kind, .int .i64 x.n, .string ⟨x.name.toArray⟩, .string ⟨x.tgt.toArray⟩, .slice ba x.b.length bc, .slice ka x.keeps.length kc] 57)) (fun k hk => .inr ⟨Nat.le_of_eq hk.symm, by subst hk; simp⟩))
        refine (small_op HO.out).mono ?_
        rintro e w3 ⟨rfl, n3⟩
        have hbox : w3.heap[wr.heap.size]? = some (.cells #[.int .i64 x.kind, .int .i64 x.n, .string ⟨x.name.toArray⟩, .string ⟨x.tgt.toArray⟩, .slice ba x.b.length bc, .slice ka x.keeps.length kc] 57) := n3.at_ (heap_alloc_new wr _)
        have HB := Lib.hid hbox
        have T3 := Lib.hid (T2.out.nw n3)
        obtain ⟨bx, hbx⟩ : ∃ bx, wr.heap.size = bx := ⟨_, rfl⟩
        have d0 : w3.cell? ⟨wr.heap.size, 0, none⟩ = some (.int .i64 x.kind) := by simp [World.cell?, hbox]
        have d2 : w3.cell? ⟨wr.heap.size, 2, none⟩ = some (.string ⟨x.name.toArray⟩) := by simp [World.cell?, hbox]
        have d3 : w3.cell? ⟨wr.heap.size, 3, none⟩ = some (.string ⟨x.tgt.toArray⟩) := by simp [World.cell?, hbox]
        clear n3 c0 c1 c2 c3 c4 c5 hbox hbx
        cases hsm : x.small
        case false =>
          clear hsm
          go_wp2
          go_roundw
          case rel => exact ⟨k + 1, D, by omega, by omega, by go_num, T3.out.weak (fun _ hf => hf.elim), HD.out, HA.out⟩
          case measure => simp [intOf]; omega
        have HSM := Lib.hid hsm
        clear hsm
        by_cases h9 : x.kind = 9
        · have f9 : (x.kind == 9) = true := by simpa using h9
          clear h9
          go_wp2
          go_roundw
          case rel => exact ⟨k + 1, D, by omega, by omega, by go_num, T3.out.weak (fun _ hf => hf.elim), HD.out, HA.out⟩
          case measure => simp [intOf]; omega
        have f9 : (x.kind == 9) = false := by simpa using h9
        by_cases h10 : x.kind = 10
        · have f10 : (x.kind == 10) = true := by simpa using h10
          clear h9 h10
          go_wp2
          go_roundw
          case rel => exact ⟨k + 1, D, by omega, by omega, by go_num, T3.out.weak (fun _ hf => hf.elim), HD.out, HA.out⟩
          case measure => simp [intOf]; omega
        have f10 : (x.kind == 10) = false := by simpa using h10
        obtain ⟨D', y, hr⟩ : ∃ D' y, D.does x = (D', y) := ⟨_, _, rfl⟩
        have hcalm := does_calm hr HD.out HA.out h9 h10
        obtain ⟨l, z, hrd⟩ : ∃ l z, D.read [97] = (l, z) := ⟨_, _, rfl⟩
        have HR := Lib.hid hr
        have HCALM := Lib.hid hcalm
        have HRD := Lib.hid hrd
        clear hr hcalm hrd h9 h10
        go_wp2_with fail
        refine (T3.out.read [97] HRD.out).mono ?_
        rintro e w4 ⟨v4, rfl, o4, n4, g4⟩
        have O4 := Lib.hid o4
        have hlt4 : wr.heap.size < w3.heap.size := lt_of_block HB.out
        have T4 : Hid (HasX (fun k => k = wr.heap.size ∨ v4.ownBlock = some k) w w4 a D) := Lib.hid (T3.out.nwY n4 (fun k hk => hk.imp id (fun hk => ⟨g4 k hk, o4.lt k hk⟩)))
        have B4 := Lib.hid (n4.at_ HB.out)
        clear d0 d2 d3 o4 n4 g4 hlt4
        obtain ⟨sy, hsy⟩ : ∃ sy, (fileOf D.files [97]).synced = sy := ⟨_, rfl⟩
        have HSY := Lib.hid hsy
        clear hsy
        go_wp2_with fail
        refine (T4.out.synced [97] HSY.out).mono ?_
        rintro e w5 ⟨rfl, n5⟩
        have B5 := Lib.hid (n5.at_ B4.out)
        have T5 := Lib.hid (T4.out.nw n5)
        have O5 := Lib.hid (O4.out.kept (X := fun k => v4.ownBlock = some k) n5.kept (fun g hg => hg))
        clear n5 T4 O4 B4 T3 HB
        have hb5 := B5.out
        have d0 : w5.cell? ⟨wr.heap.size, 0, none⟩ = some (.int .i64 x.kind) := by simp [World.cell?, hb5]
        have d1 : w5.cell? ⟨wr.heap.size, 1, none⟩ = some (.int .i64 x.n) := by simp [World.cell?, hb5]
        have d2 : w5.cell? ⟨wr.heap.size, 2, none⟩ = some (.string ⟨x.name.toArray⟩) := by simp [World.cell?, hb5]
        have d3 : w5.cell? ⟨wr.heap.size, 3, none⟩ = some (.string ⟨x.tgt.toArray⟩) := by simp [World.cell?, hb5]
        have d4 : w5.cell? ⟨wr.heap.size, 4, none⟩ = some (.slice ba x.b.length bc) := by simp [World.cell?, hb5]
        have d5 : w5.cell? ⟨wr.heap.size, 5, none⟩ = some (.slice ka x.keeps.length kc) := by simp [World.cell?, hb5]
        clear hb5
        go_wp2_with fail
        refine (does_op T5.out HO.out HSM.out HR.out).mono ?_
        rintro e w6 ⟨rfl, T6, K6⟩
        have hb6 := (K6.2 _ (.inl rfl) (lt_of_block B5.out)).trans B5.out
        have O6 := Lib.hid (O5.out.kept K6 (fun g hg => .inr hg))
        have T6 := Lib.hid T6
        have B6 := Lib.hid hb6
        clear d0 d1 d2 d3 d4 d5 T5 O5 B5 K6 hb6
        by_cases hn : x.name = [97]
        · skip
          obtain ⟨l', z', hrd'⟩ : ∃ l z, D'.read [97] = (l, z) := ⟨_, _, rfl⟩
          have HRD' := Lib.hid hrd'
          clear hrd'
          go_wp2_with fail
          refine (T6.out.read [97] HRD'.out).mono ?_
          rintro e w7 ⟨v7, rfl, -, n7, -⟩
          have hb7 := n7.at_ B6.out
          have T7 := Lib.hid (T6.out.nw n7)
          have d0 : w7.cell? ⟨wr.heap.size, 0, none⟩ = some (.int .i64 x.kind) := by simp [World.cell?, hb7]
          have d2 : w7.cell? ⟨wr.heap.size, 2, none⟩ = some (.string ⟨x.name.toArray⟩) := by simp [World.cell?, hb7]
          have d3 : w7.cell? ⟨wr.heap.size, 3, none⟩ = some (.string ⟨x.tgt.toArray⟩) := by simp [World.cell?, hb7]
          clear n7 hb7 T6 O6 B6
          have fN : (x.name == [97]) = true := by simp [hn]
          clear hn
          go_wp2
          go_roundw
          case rel => exact ⟨k + 1, D', by omega, by omega, by go_num, T7.out.weak (fun _ hf => hf.elim), HCALM.out.1, HCALM.out.2.1⟩
          case measure => simp [intOf]; omega
        by_cases h6 : x.kind = 6
        · by_cases ht : x.tgt = [97]
          · skip
            obtain ⟨l', z', hrd'⟩ : ∃ l z, D'.read [97] = (l, z) := ⟨_, _, rfl⟩
            have HRD' := Lib.hid hrd'
            clear hrd'
            go_wp2_with fail
            refine (T6.out.read [97] HRD'.out).mono ?_
            rintro e w7 ⟨v7, rfl, -, n7, -⟩
            have hb7 := n7.at_ B6.out
            have T7 := Lib.hid (T6.out.nw n7)
            have d0 : w7.cell? ⟨wr.heap.size, 0, none⟩ = some (.int .i64 x.kind) := by simp [World.cell?, hb7]
            have d2 : w7.cell? ⟨wr.heap.size, 2, none⟩ = some (.string ⟨x.name.toArray⟩) := by simp [World.cell?, hb7]
            have d3 : w7.cell? ⟨wr.heap.size, 3, none⟩ = some (.string ⟨x.tgt.toArray⟩) := by simp [World.cell?, hb7]
            clear n7 hb7 T6 O6 B6
            have fN : (x.name == [97]) = false := by simp [hn]
            have f6 : (x.kind == 6) = true := by simp [h6]
            have f6' : (x.kind != 6) = false := by simp [h6]
            have fT : (x.tgt == [97]) = true := by simp [ht]
            clear hn h6 ht
            go_wp2
            go_roundw
            case rel => exact ⟨k + 1, D', by omega, by omega, by go_num, T7.out.weak (fun _ hf => hf.elim), HCALM.out.1, HCALM.out.2.1⟩
            case measure => simp [intOf]; omega
          · skip
            have e1 : D'.read [97] = (l, z) := by
              rw [← HRD.out]; unfold Dsk.read; rw [HCALM.out.1, HD.out, HCALM.out.2.2 [97] hn (fun _ => ht)]
            have e2 : (fileOf D'.files [97]).synced = sy := by
              rw [← HSY.out]; unfold fileOf; rw [HCALM.out.2.2 [97] hn (fun _ => ht)]
            have E1 := Lib.hid e1
            have E2 := Lib.hid e2
            clear e1 e2
            go_wp2_with fail
            refine (T6.out.read [97] E1.out).mono ?_
            rintro e w7 ⟨v7, rfl, o7, n7, -⟩
            have hb7 := n7.at_ B6.out
            have T7 := Lib.hid (T6.out.nw n7)
            have O7 := Lib.hid o7
            have O67 := Lib.hid (O6.out.rd.nw n7)
            have d0 : w7.cell? ⟨wr.heap.size, 0, none⟩ = some (.int .i64 x.kind) := by simp [World.cell?, hb7]
            have d2 : w7.cell? ⟨wr.heap.size, 2, none⟩ = some (.string ⟨x.name.toArray⟩) := by simp [World.cell?, hb7]
            have d3 : w7.cell? ⟨wr.heap.size, 3, none⟩ = some (.string ⟨x.tgt.toArray⟩) := by simp [World.cell?, hb7]
            clear n7 hb7 o7 T6 O6 B6
            have fN : (x.name == [97]) = false := by simp [hn]
            have f6 : (x.kind == 6) = true := by simp [h6]
            have f6' : (x.kind != 6) = false := by simp [h6]
            have fT : (x.tgt == [97]) = false := by simp [ht]
            clear hn h6 ht
            go_wp2_with fail
            refine (T7.out.synced [97] E2.out).mono ?_
            rintro e w8 ⟨rfl, n8⟩
            have T8 := Lib.hid (T7.out.nw n8)
            have R1 := Lib.hid (O67.out.nw n8)
            have R2 := Lib.hid (O7.out.rd.nw n8)
            clear n8 T7 O67 O7 d0 d2 d3
            go_wp2_with fail
            refine (SameBytes_ok R1.out R2.out).mono ?_
            rintro e w9 ⟨rfl, rfl⟩
            rw [show (l == l) = true by simp]
            go_wp2
            go_roundw
            case rel => exact ⟨k + 1, D', by omega, by omega, by go_num, T8.out.weak (fun _ hf => hf.elim), HCALM.out.1, HCALM.out.2.1⟩
            case measure => simp [intOf]; omega
        · skip
          have e1 : D'.read [97] = (l, z) := by
            rw [← HRD.out]; unfold Dsk.read; rw [HCALM.out.1, HD.out, HCALM.out.2.2 [97] hn (fun h => absurd h h6)]
          have e2 : (fileOf D'.files [97]).synced = sy := by
            rw [← HSY.out]; unfold fileOf; rw [HCALM.out.2.2 [97] hn (fun h => absurd h h6)]
          have E1 := Lib.hid e1
          have E2 := Lib.hid e2
          clear e1 e2
          go_wp2_with fail
          refine (T6.out.read [97] E1.out).mono ?_
          rintro e w7 ⟨v7, rfl, o7, n7, -⟩
          have hb7 := n7.at_ B6.out
          have T7 := Lib.hid (T6.out.nw n7)
          have O7 := Lib.hid o7
          have O67 := Lib.hid (O6.out.rd.nw n7)
          have d0 : w7.cell? ⟨wr.heap.size, 0, none⟩ = some (.int .i64 x.kind) := by simp [World.cell?, hb7]
          have d2 : w7.cell? ⟨wr.heap.size, 2, none⟩ = some (.string ⟨x.name.toArray⟩) := by simp [World.cell?, hb7]
          have d3 : w7.cell? ⟨wr.heap.size, 3, none⟩ = some (.string ⟨x.tgt.toArray⟩) := by simp [World.cell?, hb7]
          clear n7 hb7 o7 T6 O6 B6
          have fN : (x.name == [97]) = false := by simp [hn]
          have f6 : (x.kind == 6) = false := by simp [h6]
          have f6' : (x.kind != 6) = true := by simp [h6]
          clear hn h6
          go_wp2_with fail
          refine (T7.out.synced [97] E2.out).mono ?_
          rintro e w8 ⟨rfl, n8⟩
          have T8 := Lib.hid (T7.out.nw n8)
          have R1 := Lib.hid (O67.out.nw n8)
          have R2 := Lib.hid (O7.out.rd.nw n8)
          clear n8 T7 O67 O7 d0 d2 d3
          go_wp2_with fail
          refine (SameBytes_ok R1.out R2.out).mono ?_
          rintro e w9 ⟨rfl, rfl⟩
          rw [show (l == l) = true by simp]
          go_wp2
          go_roundw
          case rel => exact ⟨k + 1, D', by omega, by omega, by go_num, T8.out.weak (fun _ hf => hf.elim), HCALM.out.1, HCALM.out.2.1⟩
          case measure => simp [intOf]; omega
      · have f1 : decide ((k : Int) < 50) = false := by simp; omega
        go_wp2_with fail
        refine (AW.out _).mono ?_
        rintro e w6 ⟨rfl, n6⟩
        have N6 := Lib.hid n6
        clear n6
        go_wp2
        go_ret
        exact ⟨rfl, HT.out.base.trans N6.out⟩
    · go_wp2_with fail
      refine (AW.out _).mono ?_
      rintro e w6 ⟨rfl, n6⟩
      have N6 := Lib.hid n6
      clear n6
      go_wp2
      go_ret
      exact ⟨rfl, HT.out.base.trans N6.out⟩
end Go.Proofs.YtihagdadbeoeoaaDoor.DiskApart
