/-
  Two disks that look the same: 'alike' says so.
-/
import Derived.Test.YtihagdadbeoeoaaDoorOps
namespace Go.Proofs.YtihagdadbeoeoaaDoor
open Go Go.RowKit Go.Sort
set_option maxRecDepth 100000
set_option maxHeartbeats 1600000

section
variable {w : World} {b : Nat} {d : Dsk} {S : Nat → Prop}
theorem DiskIn.sizeC (h1 : DiskIn w b d S) (n : Str) {k : Nat} (hk : (fileOf d.files n).bytes.length = k) :
    Calls Tryd.prog 41 #[.pointer (some ⟨b, 0, none⟩), .string ⟨n.toArray⟩] w fun e w' => e = .returned (.int .i64 k) ∧ Nw w w' := by
  subst hk; exact Size_ok h1 n
theorem DiskIn.syncedC (h1 : DiskIn w b d S) (n : Str) {k : Nat} (hk : (fileOf d.files n).synced = k) :
    Calls Tryd.prog 24 #[.pointer (some ⟨b, 0, none⟩), .string ⟨n.toArray⟩] w fun e w' => e = .returned (.int .i64 k) ∧ Nw w w' := by
  subst hk; exact Synced_ok h1 n
theorem DiskIn.usedC (h1 : DiskIn w b d S) {k : Nat} (hk : usedF d.files = k) :
    Calls Tryd.prog 42 #[.pointer (some ⟨b, 0, none⟩)] w fun e w' => e = .returned (.int .i64 k) ∧ Nw w w' := by
  subst hk; exact Used_ok h1
theorem DiskIn.downC (h1 : DiskIn w b d S) {x : Bool} (hx : d.down = x) :
    Calls Tryd.prog 20 #[.pointer (some ⟨b, 0, none⟩)] w fun e w' => e = .returned (.bool x) ∧ w = w' := by
  subst hx; exact Down_ok h1
theorem DiskIn.readC (h1 : DiskIn w b d S) (n : Str) {l : List UInt8} {x : Int} (hr : d.read n = (l, x)) :
    Calls Tryd.prog 22 #[.pointer (some ⟨b, 0, none⟩), .string ⟨n.toArray⟩] w fun e w' => ∃ v, e = .returned (.tuple #[v, .int .i64 x]) ∧ Own w' v l ∧ Nw w w' ∧ ∀ g, v.ownBlock = some g → w.heap.size ≤ g := by
  have := Read_ok h1 n
  rw [hr] at this
  exact this
theorem DiskIn.listC (h1 : DiskIn w b d S) {l : List Str} (hl : d.list = l) :
    Calls Tryd.prog 26 #[.pointer (some ⟨b, 0, none⟩)] w fun e w' => ∃ v, e = .returned v ∧ Ss w' v l ∧ Nw w w' ∧ ∀ g, v.ownBlock = some g → w.heap.size ≤ g := by
  have := List_ok h1
  rw [hl] at this
  exact this
end

structure Like (da db : Dsk) : Prop where
  list : da.list = db.list
  down : da.down = db.down
  used : usedF da.files = usedF db.files
  read : ∀ n, da.read n = db.read n
  synced : ∀ n, (fileOf da.files n).synced = (fileOf db.files n).synced
theorem Like.refl (d : Dsk) : Like d d := ⟨rfl, rfl, rfl, fun _ => rfl, fun _ => rfl⟩

theorem alike_ok {w : World} {a b : Nat} {da db : Dsk} {S T : Nat → Prop} (ha : DiskIn w a da S) (hb : DiskIn w b db T) (hl : Like da db) :
    Calls Tryd.prog 27 #[.pointer (some ⟨a, 0, none⟩), .pointer (some ⟨b, 0, none⟩)] w fun e w' => e = .returned (.bool true) ∧ Nw w w' := by
  obtain ⟨L, hL1, hL2⟩ : ∃ L, da.list = L ∧ db.list = L := ⟨_, rfl, hl.list.symm⟩
  obtain ⟨dn, hD1, hD2⟩ : ∃ x, da.down = x ∧ db.down = x := ⟨_, rfl, hl.down.symm⟩
  obtain ⟨us, hU1, hU2⟩ : ∃ x, usedF da.files = x ∧ usedF db.files = x := ⟨_, rfl, hl.used.symm⟩
  have HA := Lib.hid ha
  have HB := Lib.hid hb
  have HL := Lib.hid hl
  have HL1 := Lib.hid hL1
  have HL2 := Lib.hid hL2
  have HD1 := Lib.hid hD1
  have HD2 := Lib.hid hD2
  have HU1 := Lib.hid hU1
  have HU2 := Lib.hid hU2
  clear ha hb hl hL1 hL2 hD1 hD2 hU1 hU2
  go_enter Tryd.func27, Tryd.ntmps27
  go_wp2_with fail
  refine (HA.out.listC HL1.out).mono ?_
  rintro e w1 ⟨v1, rfl, s1, n1, -⟩
  have S1 := Lib.hid s1
  have N1 := Lib.hid n1
  clear s1 n1
  go_wp2_with fail
  refine ((HB.out.nw N1.out).listC HL2.out).mono ?_
  rintro e w2 ⟨v2, rfl, s2, n2, -⟩
  have S2 := Lib.hid s2
  have N2 := Lib.hid n2
  clear s2 n2
  go_wp2_with fail
  refine (SameTexts_ok (S1.out.nw N2.out) S2.out).mono ?_
  rintro e w3 ⟨rfl, n3⟩
  rw [show (L == L) = true by simp]
  have N13 := Lib.hid (N2.out.trans n3)
  clear n3
  go_wp2_with fail
  refine ((HA.out.nw (N1.out.trans N13.out)).downC HD1.out).mono ?_
  rintro e w4 ⟨rfl, rfl⟩
  go_wp2_with fail
  refine ((HB.out.nw (N1.out.trans N13.out)).downC HD2.out).mono ?_
  rintro e w4 ⟨rfl, rfl⟩
  go_wp2_with fail
  refine ((HA.out.nw (N1.out.trans N13.out)).usedC HU1.out).mono ?_
  rintro e w4 ⟨rfl, n4⟩
  have N14 := Lib.hid (N13.out.trans n4)
  clear n4
  go_wp2_with fail
  refine ((HB.out.nw (N1.out.trans N14.out)).usedC HU2.out).mono ?_
  rintro e w5 ⟨rfl, n5⟩
  have N15 := Lib.hid (N14.out.trans n5)
  clear n5
  obtain ⟨sa, cap, rfl, h1, h2, hel⟩ := S1.out.elems
  have HE := Lib.hid hel
  clear hel
  unfold maxLen at h2
  go_wp2
  go_loopw [6] (fun i wr => ∃ k : Nat, k ≤ L.length ∧ i = .int .i64 k ∧ Nw w1 wr) (fun i _ => L.length - (intOf i).toNat)
  case atStart => exact ⟨0, Nat.zero_le _, rfl, N15.out⟩
  case round =>
    obtain ⟨k, hk, rfl, hwr⟩ := hrel
    have HW := Lib.hid hwr
    clear hwr
    by_cases hlt : k < L.length
    · obtain ⟨g, o, rfl, hg, hc⟩ := HE.out k hlt
      have hc1 := HW.out.cell hc
      clear hc
      generalize L[k] = n at *
      obtain ⟨l, x, hr1, hr2⟩ : ∃ l x, da.read n = (l, x) ∧ db.read n = (l, x) := ⟨_, _, rfl, (HL.out.read n).symm⟩
      obtain ⟨y, hy1, hy2⟩ : ∃ y, (fileOf da.files n).synced = y ∧ (fileOf db.files n).synced = y := ⟨_, rfl, (HL.out.synced n).symm⟩
      have R1 := Lib.hid hr1
      have R2 := Lib.hid hr2
      have Y1 := Lib.hid hy1
      have Y2 := Lib.hid hy2
      clear hr1 hr2 hy1 hy2
      go_wp2_with fail
      refine ((HA.out.nw (N1.out.trans HW.out)).readC n R1.out).mono ?_
      rintro e w6 ⟨u1, rfl, o1, n6, -⟩
      have hc2 := n6.cell hc1
      have O1 := Lib.hid o1
      have N6 := Lib.hid n6
      clear o1 n6 hc1
      go_wp2_with fail
      refine ((HB.out.nw ((N1.out.trans HW.out).trans N6.out)).readC n R2.out).mono ?_
      rintro e w7 ⟨u2, rfl, o2, n7, -⟩
      have hc3 := n7.cell hc2
      have O2 := Lib.hid o2
      have N7 := Lib.hid n7
      clear o2 n7 hc2
      have NW7 := Lib.hid ((HW.out.trans N6.out).trans N7.out)
      have SB : Hid (∀ p : Regrown, Calls Tryd.prog 23 #[u1, u2] (grow (redrawn w7 p.d) p.os) fun e w'' => e = .returned (.bool true) ∧ ∃ p' : Regrown, w'' = grow (redrawn w7 p'.d) p'.os) := fun p => quiet_nw fun w2 hw2 =>
        (SameBytes_ok ((O1.out.rd.nw N7.out).nw hw2) (O2.out.rd.nw hw2)).mono fun e w' ⟨he, hw⟩ => ⟨by rw [he]; simp, by rw [← hw]; exact Nw.refl _⟩
      have C1 : Hid (∀ p : Regrown, Calls Tryd.prog 24 #[.pointer (some ⟨a, 0, none⟩), .string ⟨n.toArray⟩] (grow (redrawn w7 p.d) p.os) fun e w'' => e = .returned (.int .i64 y) ∧ ∃ p' : Regrown, w'' = grow (redrawn w7 p'.d) p'.os) := fun p => quiet_nw fun w2 hw2 =>
        ((HA.out.nw (N1.out.trans NW7.out)).nw hw2).syncedC n Y1.out
      have C2 : Hid (∀ p : Regrown, Calls Tryd.prog 24 #[.pointer (some ⟨b, 0, none⟩), .string ⟨n.toArray⟩] (grow (redrawn w7 p.d) p.os) fun e w'' => e = .returned (.int .i64 y) ∧ ∃ p' : Regrown, w'' = grow (redrawn w7 p'.d) p'.os) := fun p => quiet_nw fun w2 hw2 =>
        ((HB.out.nw (N1.out.trans NW7.out)).nw hw2).syncedC n Y2.out
      go_wp2
      have d1 := cellG hc3
      refine wp_region_quiet_below (by kernel_rfl) (by kernel_rfl) ?_
      repeat (first | go_big_quiet_step (first | with_reducible exact SB.out _ | with_reducible exact C1.out _ | with_reducible exact C2.out _) | quiet_step (first | with_reducible exact SB.out _ | with_reducible exact C1.out _ | with_reducible exact C2.out _))
      refine wpQuiet_nil ?_
      intro w8 hw8
      have N8 := Lib.hid (Nw.of_regrown hw8)
      clear d1 hc3
      go_wp2
      go_roundw
      case rel => exact ⟨k + 1, by omega, by go_num, NW7.out.trans N8.out⟩
      case measure => simp [intOf]; omega
    · go_wp2
      go_ret
      exact ⟨rfl, N1.out.trans HW.out⟩

theorem Two.alike {X : Nat → Prop} {w0 w : World} {a b : Nat} {da db : Dsk} (h : Two X w0 w a da b db) (hl : Like da db) :
    Calls Tryd.prog 27 #[.pointer (some ⟨a, 0, none⟩), .pointer (some ⟨b, 0, none⟩)] w fun e w' => e = .returned (.bool true) ∧ Nw w w' := by
  obtain ⟨S, T, h1, h2, -⟩ := h
  exact alike_ok h1 h2 hl
end Go.Proofs.YtihagdadbeoeoaaDoor
