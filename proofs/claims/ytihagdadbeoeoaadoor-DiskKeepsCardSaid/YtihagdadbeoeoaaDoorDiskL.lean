/-
  Cut: what it does.
-/
import Derived.Test.YtihagdadbeoeoaaDoorDiskK
namespace Go.Proofs.YtihagdadbeoeoaaDoor
open Go Go.RowKit Go.Sort
set_option maxRecDepth 100000
set_option maxHeartbeats 800000

theorem left_ok {w : World} {fb L c k : Nat} {fa : Option Addr} {y : Int} (hb : w.heap[fb]? = some (.cells #[.slice fa L c, .int .i64 y] 90 (0, 0))) (hk : k ≤ L) (hL : L ≤ c) (_hc : c ≤ 9223372036854775807) (_hn : fa = none → c = 0) :
    Calls Tryd.prog 59 #[.pointer (some ⟨fb, 0, none⟩), .int .i64 k] w fun e w' => e = .returned (.tuple #[]) ∧ w' = (w.setCell ⟨fb, 0, none⟩ (.slice fa k k)).setCell ⟨fb, 1, none⟩ (.int .i64 k) := by
  have q0 : w.cell? ⟨fb, 0, none⟩ = some (.slice fa L c) := by simp [World.cell?, hb]
  have q1 : w.cell? ⟨fb, 1, none⟩ = some (.int .i64 y) := by simp [World.cell?, hb]
  have q2 : ∀ i, w.frozen? ⟨fb, i, none⟩ = false := by simp [World.frozen?, hb]
  have hkc : k ≤ c := by omega
  clear hb
  go_enter Tryd.func59, Tryd.ntmps59
  go_wp2
  exact bodyPost_end (results_none rfl _ _ _) rfl ⟨rfl, rfl⟩

theorem left_row {w : World} {v : Value} {l : List UInt8} {e : TypeId} {fa : Option Addr} {c : Nat} (h : RowF u8 e w v l) (hv : v = .slice fa l.length c) (k : Nat) (hk : k ≤ l.length) :
    RowF u8 e w (.slice fa k k) (l.take k) ∧ (Value.slice fa k k).ownBlock = v.ownBlock ∧ l.length ≤ c ∧ c ≤ maxLen ∧ (fa = none → c = 0) := by
  rcases h with ⟨rfl, rfl⟩ | ⟨g, cap, cur, rfl, h1, h2, h3, h4, h5⟩
  · cases hv
    have : k = 0 := by simpa using hk
    subst this
    exact ⟨RowF.nil, rfl, by simp, by simp, fun _ => rfl⟩
  · cases hv
    refine ⟨.inr ⟨g, k, cur, by rw [List.length_take, Nat.min_eq_left hk], h1, by rw [List.length_take]; omega, by omega, by omega, ?_⟩, rfl, h2, h4, fun h => by cases h⟩
    rw [List.length_take, Nat.min_eq_left hk, List.map_take, ← h5, List.take_take, Nat.min_eq_left hk]

/-- A file is left with its first bytes: from memory to memory. -/
theorem left_turn {w w1 : World} {b m : Nat} {d : Dsk} {A B : List FE} {f : FE} {S : Nat → Prop} {n : Str} (hD : DiskAt w b m d (A ++ f :: B)) (hS : ∀ k, S k ↔ k ∈ dskBlocks b m (A ++ f :: B)) (hw1 : Nw w w1)
    (hfn : f.name = n) (hnA : n ∉ A.map FE.name) (k : Nat) (hk : k ≤ f.file.bytes.length) :
    Calls Tryd.prog 59 #[.pointer (some ⟨f.fb, 0, none⟩), .int .i64 k] w1 fun e w' => e = .returned (.tuple #[]) ∧ DiskTo S w w' b { d with files := setF d.files n ⟨f.file.bytes.take k, k⟩ } := by
  have hf := hD.mem
  obtain ⟨fa, fc, hsl⟩ := slice_form hf.own
  have hf1 : FE.At w1 f := hf.keep fun g hg => hw1.block g (by
    simp only [FE.blocks, List.mem_cons, Option.mem_toList] at hg
    rcases hg with rfl | hg
    · exact lt_of_block hf.blk
    · exact hf.own.lt g hg) (fun hf => hf)
  obtain ⟨hr, hob, h1, h2, h3⟩ := left_row hf1.own hsl k hk
  have hb1 := hf1.blk
  rw [hsl] at hb1
  refine (left_ok hb1 hk h1 (by unfold maxLen at h2; omega) h3).mono ?_
  rintro e w' ⟨he, rfl⟩
  refine ⟨he, turn_file hD hS hw1 hfn hnA ⟨f.file.bytes.take k, k⟩ (.slice fa k k) ?_ ?_ ⟨?_, ?_⟩ (.inl hob) (by show k ≤ (f.file.bytes.take k).length; rw [List.length_take]; omega) (by show (f.file.bytes.take k).length ≤ _; rw [List.length_take]; omega)⟩
  · intro j hj hjn
    simp only [FE.blocks, List.mem_cons, not_or] at hjn
    rw [Below.heap_setCell _ _ _ _ hjn.1, Below.heap_setCell _ _ _ _ hjn.1]
  · exact ((Only.refl w1).setCell (fun _ => by simp [FE.blocks]) _).setCell (fun _ => by simp [FE.blocks]) _
  · rw [heap_setCell_at (heap_setCell_at hb1 0 _) 1 _]; simp
  · refine RowF.keep hr fun g hg => ?_
    have hne : g ≠ f.fb := fun e => (own_ne hD).2.2 (by rw [← hob, hg, e])
    rw [Below.heap_setCell _ _ _ _ hne, Below.heap_setCell _ _ _ _ hne]

theorem Cut2_ok {w : World} {b : Nat} {d : Dsk} {S : Nat → Prop} (h : DiskIn w b d S) (n : Str) (k : Int) (pn pd pk : Nat)
    (hn : w.cell? ⟨pn, 0, none⟩ = some (.string ⟨n.toArray⟩)) (hd : w.cell? ⟨pd, 0, none⟩ = some (.pointer (some ⟨b, 0, none⟩))) (hkc : w.cell? ⟨pk, 0, none⟩ = some (.int .i64 k)) (hm : d.mayCut n k = 0) :
    Calls Tryd.prog 73 #[.pointer (some ⟨pd, 0, none⟩), .pointer (some ⟨pn, 0, none⟩), .pointer (some ⟨pk, 0, none⟩)] w fun e w' =>
      e = .returned (.tuple #[]) ∧ DiskTo S w w' b { d with files := setF d.files n ⟨(fileOf d.files n).bytes.take k.toNat, k.toNat⟩ } := by
  have hth : d.there n = 0 ∧ 0 ≤ k ∧ k ≤ (fileOf d.files n).bytes.length := by
    unfold Dsk.mayCut at hm
    cases hg : getF d.files n with
    | none => rw [hg] at hm; simp at hm
    | some f =>
      rw [hg] at hm
      have h2 : ¬ (k < 0 ∨ (f.bytes.length : Int) < k) := fun hc => by simp only [if_pos hc] at hm; exact absurd hm (by decide)
      refine ⟨?_, by omega, by simp only [fileOf, hg, Option.getD_some]; omega⟩
      by_cases hmem : n ∈ namesF d.files
      · simp [Dsk.there, hmem]
      · rw [getF_miss hmem] at hg; cases hg
  obtain ⟨hth, hk0, hk1⟩ := hth
  obtain ⟨k, rfl⟩ := Int.eq_ofNat_of_zero_le hk0
  rw [Int.toNat_natCast]
  obtain ⟨m, fs, hD, hS⟩ := h
  obtain ⟨c0, c1, -, -, -⟩ := hdr_cells hD.hdr
  obtain ⟨clock, hmap, hclk⟩ := hD.map
  obtain ⟨A, f, B, rfl, hfn, hnA, hp, hfo, -⟩ := there_split hD hth
  rw [hfo] at hk1 ⊢
  have hk2 : k ≤ f.file.bytes.length := by omega
  have d0 := cellG hn
  have d1 := cellG hd
  have d2 := cellG hkc
  have d3 := cellG c0
  have hlk : ∀ p : Regrown, (Instr.lookup 67 (.map (some m)) (.string ⟨n.toArray⟩) false).run Tryd.prog (grow (redrawn w p.d) p.os) = .ok (.pointer (some ⟨f.fb, 0, none⟩)) (grow (redrawn w p.d) p.os) := fun p => by
    rw [← hp]; exact look_file ((Nw.of_regrown ⟨p, rfl⟩ : Nw w _).at_ hmap) n
  have HL : Hid (∀ w1, Nw w w1 → Calls Tryd.prog 59 #[.pointer (some ⟨f.fb, 0, none⟩), .int .i64 k] w1 fun e w' => e = .returned (.tuple #[]) ∧ DiskTo S w w' b { d with files := setF d.files n ⟨f.file.bytes.take k, k⟩ }) :=
    fun w1 hw1 => left_turn hD hS hw1 hfn hnA k hk2
  clear hD hS hfn hnA hp hfo hmap hclk hn hd hkc c0 c1 hth hm hk0 hk1 hk2
  go_enter Tryd.func73, Tryd.ntmps73
  refine wp_region_tail_below 7 (by kernel_rfl) (by kernel_rfl) ?_
  simp only [List.take_succ_cons, List.take_zero, List.drop_succ_cons, List.drop_zero]
  repeat (first | go_big_quiet_step (fail) | quiet_step (fail))
  refine wpQuiet_nil ?_
  intro w1 hw1
  have hw1 := Nw.of_regrown hw1
  clear hlk d0 d1 d2 d3
  go_wp2_with (go_at_call 59; refine (HL.out w1 hw1).mono ?_; rintro e w' ⟨rfl, hto⟩)
  exact bodyPost_end (results_none rfl _ _ _) rfl ⟨rfl, hto⟩
end Go.Proofs.YtihagdadbeoeoaaDoor
