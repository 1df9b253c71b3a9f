/-
  Crash.
-/
import Derived.Test.YtihagdadbeoeoaaDoorDiskP
namespace Go.Proofs.YtihagdadbeoeoaaDoor
open Go Go.RowKit Go.Sort
set_option maxRecDepth 100000
set_option maxHeartbeats 1600000

/-! ### Plain -/
theorem namesF_setF {L : List (Str × DFile)} {n : Str} {f : DFile} (h : n ∈ namesF L) : namesF (setF L n f) = namesF L := by
  rcases split_name n L with hn | ⟨A, g, B, rfl, hA⟩
  · exact absurd h hn
  · rw [setF_hit hA]; simp [namesF]
theorem crashF_snoc (n : Str) : ∀ (A : List Str) (ks : List Int) (L : List (Str × DFile)), crashF (A ++ [n]) ks L = setF (crashF A ks L) n (leaves (fileOf (crashF A ks L) n) (ks.getD A.length 0))
  | [], ks, L => by cases ks <;> simp [crashF]
  | a :: A, ks, L => by
    simp only [List.cons_append, crashF]
    rw [crashF_snoc n A ks.tail]
    cases ks <;> simp
theorem namesF_crashF : ∀ (A : List Str) (ks : List Int) (L : List (Str × DFile)), (∀ n ∈ A, n ∈ namesF L) → namesF (crashF A ks L) = namesF L
  | [], _, _, _ => rfl
  | a :: A, ks, L, h => by
    simp only [crashF]
    have h1 : namesF (setF L a (leaves (fileOf L a) (ks.headD 0))) = namesF L := namesF_setF (h a (by simp))
    rw [namesF_crashF A ks.tail _ (fun n hn => by rw [h1]; exact h n (by simp [hn])), h1]


/-- A disk whose files have been turned, from world to world. -/
theorem DiskTo.step {S : Nat → Prop} {w w1 w2 : World} {b : Nat} {d' : Dsk} {S1 : Nat → Prop} (ho : Only S w w1) (hn : ∀ k, S1 k → S k ∨ w.heap.size ≤ k) (h : DiskTo S1 w1 w2 b d') : DiskTo S w w2 b d' := by
  obtain ⟨S2, h1, h2, h3⟩ := h
  refine ⟨S2, h1, ho.trans' h2 (fun k hk hs => ?_), fun k hk => ?_⟩
  · rcases hn k hs with h | h
    · exact h
    · omega
  · rcases h3 k hk with h | h
    · exact hn k h
    · exact .inr (Nat.le_trans ho.size h)

theorem Crash_ok {w : World} {b : Nat} {d : Dsk} {S : Nat → Prop} (h : DiskIn w b d S) (v : Value) (ks : List Int) (hs : Rd i64v w v ks) (hsep : ks ≠ [] → ∀ g, v.ownBlock = some g → ¬ S g) :
    Calls Tryd.prog 21 #[.pointer (some ⟨b, 0, none⟩), v] w (TurnsU S w b (d.crash ks)) := by
  have hL := Lib.hid (List_ok h)
  obtain ⟨m, c0⟩ : ∃ m, w.cell? ⟨b, 0, none⟩ = some (.map (some m)) := by
    obtain ⟨m, fs, hD, -⟩ := h
    exact ⟨m, (hdr_cells hD.hdr).1⟩
  have hlen : d.list.length ≤ 200 := by
    have := h.ok.few
    have hp : d.list.Perm (namesF d.files) := List.mergeSort_perm _ _
    rw [hp.length_eq]; simpa [namesF] using this
  have hin : ∀ n ∈ d.list, n ∈ namesF d.files := fun n hn => (List.mergeSort_perm _ _).mem_iff.1 hn
  obtain ⟨ka, kc, rfl, hkl, hkm, hkel⟩ := hs.elems
  have H := Lib.hid h
  have HS := Lib.hid hs
  have HIN := Lib.hid hin
  have HSEP := Lib.hid hsep
  have HKE := Lib.hid hkel
  clear h hs hin hsep hkel
  unfold maxLen at hkm
  go_enter Tryd.func21, Tryd.ntmps21
  go_wp2_with (first | (go_at_call 49; refine (none_ok _ b m c0).mono ?_; rintro e w' ⟨rfl, rfl⟩) | (go_at_call 26; refine hL.out.mono ?_))
  rintro e w1 ⟨v1, rfl, hss, hw1, hfresh⟩
  obtain ⟨sa, cap, rfl, h1, h2, hel⟩ := hss.elems
  have HE := Lib.hid hel
  have HW1 := Lib.hid hw1
  have HF := Lib.hid hfresh
  clear hss hel hw1 hfresh c0
  go_wp2
  go_loopw [13] (fun i wr => ∃ k : Nat, k ≤ d.list.length ∧ i = .int .i64 k ∧ DiskTo S w1 wr b { d with files := crashF (d.list.take k) ks d.files }) (fun i _ => d.list.length - (intOf i).toNat)
  case atStart => exact ⟨0, Nat.zero_le _, rfl, DiskTo.refl (H.out.nw HW1.out) (Nw.refl _)⟩
  case round =>
    obtain ⟨k, hk, rfl, hto⟩ := hrel
    by_cases hlt : k < d.list.length
    · obtain ⟨g, o, rfl, hg, hc⟩ := HE.out k hlt
      have hfr : ¬ S g := H.out.out (HF.out g rfl)
      obtain ⟨S', hD', ho', hn'⟩ := hto
      have hc1 := ho'.cell hc hfr
      have hth : ({ d with files := crashF (d.list.take k) ks d.files } : Dsk).there d.list[k] = 0 := by
        have e : namesF (crashF (d.list.take k) ks d.files) = namesF d.files := namesF_crashF _ _ _ (fun n hn => HIN.out n (List.take_subset _ _ hn))
        simp only [Dsk.there, e]
        rw [if_pos (HIN.out _ (List.getElem_mem hlt))]
      have hsnoc : crashF (d.list.take (k + 1)) ks d.files = setF (crashF (d.list.take k) ks d.files) d.list[k] (leaves (fileOf (crashF (d.list.take k) ks d.files) d.list[k]) (ks.getD k 0)) := by
        rw [List.take_succ_eq_append_getElem hlt, crashF_snoc, List.length_take, Nat.min_eq_left hk]
      generalize hn0 : d.list[k] = n at *
      generalize hF0 : crashF (d.list.take k) ks d.files = F at *
      obtain ⟨m', fs', hDA, hSA⟩ := hD'
      obtain ⟨c0, -, -, -, -⟩ := hdr_cells hDA.hdr
      obtain ⟨clock, hmap, -⟩ := hDA.map
      obtain ⟨A, f, B, rfl, hfn, hnA, hp, hfo, hmem⟩ := there_split hDA hth
      have hfo' : fileOf F n = f.file := hfo
      have hlk := look_file hmap n
      rw [hp] at hlk
      have hf := hDA.mem
      obtain ⟨fa, fc, hsl⟩ := slice_form hf.own
      have hsy : f.file.synced ≤ f.file.bytes.length := hDA.ok.synced (n, f.file) (by rw [hmem]; simp)
      have hby : f.file.bytes.length ≤ 16777216 := by
        have h1 := hDA.ok.used
        have h2 := hDA.ok.most1
        rw [hmem, usedF_mid] at h1; omega
      have f0 : wr.cell? ⟨f.fb, 0, none⟩ = some (.slice fa f.file.bytes.length fc) := by rw [← hsl]; simp [World.cell?, hf.blk]
      have f1 : wr.cell? ⟨f.fb, 1, none⟩ = some (.int .i64 f.file.synced) := by simp [World.cell?, hf.blk]
      have HLT : Hid (∀ (j : Nat), j ≤ f.file.bytes.length → ∀ w2, Nw wr w2 → Calls Tryd.prog 59 #[.pointer (some ⟨f.fb, 0, none⟩), .int .i64 j] w2 fun e w' => e = .returned (.tuple #[]) ∧ DiskTo S' wr w' b { d with files := setF F n ⟨f.file.bytes.take j, j⟩ }) :=
        fun j hj w2 hw2 => left_turn hDA hSA hw2 hfn hnA j hj
      have HSN := Lib.hid hsnoc
      have HFO := Lib.hid hfo'
      have HO' := Lib.hid ho'
      have HN' := Lib.hid hn'
      have HKC : Hid (∀ hk2 : k < ks.length, ∃ g2 o2, ka = some ⟨g2, o2, none⟩ ∧ wr.cell? ⟨g2, o2 + k, none⟩ = some (.int .i64 ks[k])) := fun hk2 => by
        obtain ⟨g2, o2, hka, -, hcc⟩ := HKE.out k hk2
        exact ⟨g2, o2, hka, ho'.cell (HW1.out.cell hcc) (HSEP.out (fun e => by rw [e] at hk2; exact absurd hk2 (by simp)) g2 (by rw [hka]; rfl))⟩
      generalize hY : f.file.synced = y at *
      generalize hL0 : f.file.bytes.length = Ln at *
      have HY := Lib.hid hY
      have HLn := Lib.hid hL0
      clear hc hfr hth hsnoc hn0 hF0 hDA hSA hmap hfn hnA hp hfo hfo' hmem hf hsl ho' hn' hY hL0
      have fin : ∀ (j : Nat) (w2 : World), j = y + min (ks.getD k 0).toNat (Ln - y) → DiskTo S' wr w2 b { d with files := setF F n ⟨f.file.bytes.take j, j⟩ } → DiskTo S w1 w2 b { d with files := crashF (d.list.take (k + 1)) ks d.files } := by
        intro j w2 hj hto2
        have e : setF F n ⟨f.file.bytes.take j, j⟩ = crashF (d.list.take (k + 1)) ks d.files := by
          rw [HSN.out, HFO.out]; simp only [leaves, HY.out, HLn.out, hj]
        rw [e] at hto2
        exact DiskTo.step HO'.out HN'.out hto2
      have FIN := Lib.hid fin
      clear fin
      by_cases hkk : k < ks.length
      · obtain ⟨g2, o2, rfl, hkc⟩ := HKC.out hkk
        have hget : ks.getD k 0 = ks[k] := by simp [hkk]
        generalize hq : ks[k] = q at *
        have HQ := Lib.hid hget
        clear hget hq
        go_wp2
        have d4 := cellG f0
        have d5 := cellG f1
        clear f0 f1 hlk c0 hc1
        have hw1' : IntKind.i64.wrap ((Ln : Int) - (y : Int)) = (Ln : Int) - (y : Int) := IntWalk.i64_in _ (by omega)
        refine wp_region_tail_below 18 (by kernel_rfl) (by kernel_rfl) ?_
        simp only [List.take_succ_cons, List.take_zero, List.drop_succ_cons, List.drop_zero]
        repeat (first | go_big_quiet_step (fail) | quiet_step (fail))
        refine wpQuiet_nil ?_
        intro w2 hw2
        have hw2 := Nw.of_regrown hw2
        have HL1 := HLT.out (y + min q.toNat (Ln - y)) (by omega) w2 hw2
        have e1 : ((y + min q.toNat (Ln - y) : Nat) : Int) = (y : Int) + min (max q 0) ((Ln : Int) - (y : Int)) := by omega
        rw [e1] at HL1
        clear e1 hw1' hkc
        have HL2 := Lib.hid HL1
        clear d4 d5 hw2 HL1
        go_wp2_with (go_at_call 59; refine HL2.out.mono ?_; rintro e w3 ⟨rfl, hto2⟩)
        have hto3 := Lib.hid (FIN.out (y + min q.toNat (Ln - y)) w3 (by rw [HQ.out]) hto2)
        clear hto2
        go_roundw
        case rel => exact ⟨k + 1, by omega, by go_num, hto3.out⟩
        case measure => simp [intOf]; omega
      · have HQ : Hid (ks.getD k 0 = 0) := by show ks.getD k 0 = 0; simp [List.getD, List.getElem?_eq_none (Nat.le_of_not_lt hkk)]
        go_wp2
        have d4 := cellG f0
        have d5 := cellG f1
        clear f0 f1 hlk c0 hc1
        have hw1' : IntKind.i64.wrap ((Ln : Int) - (y : Int)) = (Ln : Int) - (y : Int) := IntWalk.i64_in _ (by omega)
        refine wp_region_tail_below 18 (by kernel_rfl) (by kernel_rfl) ?_
        simp only [List.take_succ_cons, List.take_zero, List.drop_succ_cons, List.drop_zero]
        repeat (first | go_big_quiet_step (fail) | quiet_step (fail))
        refine wpQuiet_nil ?_
        intro w2 hw2
        have hw2 := Nw.of_regrown hw2
        have HL1 := HLT.out (y + min (0 : Int).toNat (Ln - y)) (by omega) w2 hw2
        have e1 : ((y + min (0 : Int).toNat (Ln - y) : Nat) : Int) = (y : Int) + min 0 ((Ln : Int) - (y : Int)) := by omega
        rw [e1] at HL1
        clear e1 hw1'
        have HL2 := Lib.hid HL1
        clear d4 d5 hw2 HL1
        go_wp2_with (go_at_call 59; refine HL2.out.mono ?_; rintro e w3 ⟨rfl, hto2⟩)
        have hto3 := Lib.hid (FIN.out (y + min (0 : Int).toNat (Ln - y)) w3 (by rw [HQ.out]) hto2)
        clear hto2
        go_roundw
        case rel => exact ⟨k + 1, by omega, by go_num, hto3.out⟩
        case measure => simp [intOf]; omega
    · have hkl : k = d.list.length := by omega
      have e4 : crashF (d.list.take k) ks d.files = crashF d.list ks d.files := by rw [hkl, List.take_length]
      rw [e4] at hto
      obtain ⟨S', hD', ho', hn'⟩ := hto
      obtain ⟨m', c0, c1, c2, c3, cf⟩ : ∃ m', wr.cell? ⟨b, 0, none⟩ = some (.map (some m')) ∧ wr.cell? ⟨b, 1, none⟩ = some (.int .i64 d.most) ∧ wr.cell? ⟨b, 2, none⟩ = some (.int .i64 d.arm) ∧ wr.cell? ⟨b, 3, none⟩ = some (.bool d.down) ∧ ∀ i, wr.frozen? ⟨b, i, none⟩ = false := by
        obtain ⟨m, fs, hD, -⟩ := hD'
        exact ⟨m, hdr_cells hD.hdr⟩
      have HD' := Lib.hid hD'
      have HO' := Lib.hid ho'
      have HN' := Lib.hid hn'
      clear hD' ho' hn' hkl e4 c1 c0
      go_wp2
      refine bodyPost_end (results_none rfl _ _ _) rfl ⟨rfl, ?_⟩
      have hok := HD'.out.ok
      have hok' : (d.crash ks).Ok := ⟨hok.most0, hok.most1, by simp [Dsk.crash], by simp [Dsk.crash], hok.names, hok.named, hok.few, hok.used, hok.synced⟩
      refine DiskTo.trans HW1.out.only ?_
      have hbS : S b := H.out.own_b
      refine ⟨S', HD'.out.head (d' := d.crash ks) (fun m0 hm0 => ?_) (fun j hj _ => ?_) rfl hok', (HO'.out.setCell (fun _ => hbS) _).setCell (fun _ => hbS) _, HN'.out⟩
      · rw [heap_setCell_at (heap_setCell_at hm0 3 _) 2 _]; rfl
      · rw [Below.heap_setCell _ _ _ _ hj, Below.heap_setCell _ _ _ _ hj]
end Go.Proofs.YtihagdadbeoeoaaDoor
