/-
  The disk's small functions, walked.
-/
import Derived.Test.YtihagdadbeoeoaaDoorChecked
import Derived.Test.YtihagdadbeoeoaaDoorDisk
import Derived.WalkSpells
namespace Go.Proofs.YtihagdadbeoeoaaDoor
open Go Go.RowKit
set_option maxRecDepth 100000
set_option maxHeartbeats 400000

theorem ret1 {k : IntKind} {a b : Int} (h : a = b) : Ending.returned (.int k a) = .returned (.int k b) := by rw [h]
theorem retB {a b : Bool} (h : a = b) : Ending.returned (.bool a) = .returned (.bool b) := by rw [h]

theorem eqlMap (w : World) (r : Option Nat) : (binOp .eql 67 (.map r) (.map none)).run Tryd.prog w = .ok (.bool r.isNone) w :=
  Go.run_eql_map_nil w _ _ _ r Tryd.underlying67

/-- The cells of the head. -/
theorem hdr_cells {w : World} {b m : Nat} {d : Dsk} (h : w.heap[b]? = some (.cells #[.map (some m), .int .i64 d.most, .int .i64 d.arm, .bool d.down] 69 (0, 0))) :
    w.cell? ⟨b, 0, none⟩ = some (.map (some m)) ∧ w.cell? ⟨b, 1, none⟩ = some (.int .i64 d.most) ∧ w.cell? ⟨b, 2, none⟩ = some (.int .i64 d.arm) ∧ w.cell? ⟨b, 3, none⟩ = some (.bool d.down) ∧
    ∀ i, w.frozen? ⟨b, i, none⟩ = false := by
  simp [World.cell?, World.frozen?, h]

theorem none_nil (w : World) : Calls Tryd.prog 49 #[.pointer none] w fun e w' => e = .returned (.bool true) ∧ w = w' := by
  go_enter Tryd.func49, Tryd.ntmps49
  go_wp2
  go_ret
  exact ⟨rfl, rfl⟩
theorem none_zero (w : World) (b : Nat) (h0 : w.cell? ⟨b, 0, none⟩ = some (.map none)) : Calls Tryd.prog 49 #[.pointer (some ⟨b, 0, none⟩)] w fun e w' => e = .returned (.bool true) ∧ w = w' := by
  have q := eqlMap w none
  go_enter Tryd.func49, Tryd.ntmps49
  go_wp2
  go_ret
  exact ⟨rfl, rfl⟩
theorem none_ok (w : World) (b m : Nat) (h0 : w.cell? ⟨b, 0, none⟩ = some (.map (some m))) : Calls Tryd.prog 49 #[.pointer (some ⟨b, 0, none⟩)] w fun e w' => e = .returned (.bool false) ∧ w = w' := by
  have q := eqlMap w (some m)
  go_enter Tryd.func49, Tryd.ntmps49
  go_wp2
  go_ret
  exact ⟨rfl, rfl⟩

theorem up_ok (w : World) (b m : Nat) (dn : Bool) (h0 : w.cell? ⟨b, 0, none⟩ = some (.map (some m))) (h3 : w.cell? ⟨b, 3, none⟩ = some (.bool dn)) :
    Calls Tryd.prog 60 #[.pointer (some ⟨b, 0, none⟩)] w fun e w' => e = .returned (.int .i64 (if dn then 15 else 0)) ∧ w = w' := by
  cases dn
  all_goals
    go_enter Tryd.func60, Tryd.ntmps60
    go_wp2_with (go_at_call 49; refine (none_ok _ b m h0).mono ?_; rintro e w' ⟨rfl, rfl⟩)
    go_ret
    exact ⟨rfl, rfl⟩
theorem up_nil (w : World) : Calls Tryd.prog 60 #[.pointer none] w fun e w' => e = .returned (.int .i64 1) ∧ w = w' := by
  go_enter Tryd.func60, Tryd.ntmps60
  go_wp2_with (go_at_call 49; refine (none_nil _).mono ?_; rintro e w' ⟨rfl, rfl⟩)
  go_ret
  exact ⟨rfl, rfl⟩
theorem up_zero (w : World) (b : Nat) (h0 : w.cell? ⟨b, 0, none⟩ = some (.map none)) : Calls Tryd.prog 60 #[.pointer (some ⟨b, 0, none⟩)] w fun e w' => e = .returned (.int .i64 1) ∧ w = w' := by
  go_enter Tryd.func60, Tryd.ntmps60
  go_wp2_with (go_at_call 49; refine (none_zero _ b h0).mono ?_; rintro e w' ⟨rfl, rfl⟩)
  go_ret
  exact ⟨rfl, rfl⟩

theorem Down_ok {w : World} {b : Nat} {d : Dsk} {S : Nat → Prop} (h : DiskIn w b d S) :
    Calls Tryd.prog 20 #[.pointer (some ⟨b, 0, none⟩)] w fun e w' => e = .returned (.bool d.down) ∧ w = w' := by
  obtain ⟨m, fs, hD, -⟩ := h
  obtain ⟨c0, c1, c2, c3, -⟩ := hdr_cells hD.hdr
  clear hD
  go_enter Tryd.func20, Tryd.ntmps20
  go_wp2_with (go_at_call 49; refine (none_ok _ b m c0).mono ?_; rintro e w' ⟨rfl, rfl⟩)
  go_ret
  exact ⟨rfl, rfl⟩

/-- The lookup of a name. -/
def ptrOf (fs : List FE) (n : Str) : Option Addr := (fs.find? (·.name == n)).map fun f => ⟨f.fb, 0, none⟩

theorem zeroPtr (w : World) : (zeroValue 87).run Tryd.prog w = .ok (.pointer none) w := by kernel_rfl

theorem look_file {w : World} {m clock : Nat} {fs : List FE} (hb : w.heap[m]? = some (.map (ents (fs.map FE.en)) clock)) (n : Str) :
    (Instr.lookup 67 (.map (some m)) (.string ⟨n.toArray⟩) false).run Tryd.prog w = .ok (.pointer (ptrOf fs n)) w := by
  rcases split_key n (fs.map FE.en) with hn | ⟨A, e, B, he, hk, hA⟩
  · have hp : ptrOf fs n = none := by
      simp only [ptrOf, Option.map_eq_none_iff, List.find?_eq_none]
      intro f hf hc
      exact hn (by simp only [List.map_map, List.mem_map]; exact ⟨f, hf, by simpa [FE.en] using hc⟩)
    rw [hp]
    exact run_look_miss Tryd.underlying67 Tryd.underlying9 (zeroPtr w) hb hn
  · have hb' := hb
    rw [he] at hb'
    rw [run_look_hit Tryd.underlying67 Tryd.underlying9 hb' hk hA]
    obtain ⟨A', B1, rfl, rfl, h2⟩ := List.map_eq_append_iff.1 he
    obtain ⟨f, B', rfl, rfl, rfl⟩ := List.map_eq_cons_iff.1 h2
    have : (A' ++ f :: B').find? (·.name == n) = some f := by
      rw [List.find?_append]
      have hn : A'.find? (·.name == n) = none := by
        rw [List.find?_eq_none]
        intro g hg hc
        exact hA (by simp only [List.map_map, List.mem_map]; exact ⟨g, hg, by simpa [FE.en] using hc⟩)
      rw [hn]
      simp [show f.name = n from hk]
    simp [ptrOf, this, FE.en]
end Go.Proofs.YtihagdadbeoeoaaDoor
