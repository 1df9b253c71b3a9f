/-
  Texts merged by a program of this claim's: BytesC, Texts, Has, BytesD.
-/
import Derived.Test.YtjapijndljknnaaGreatDoorM10
import Derived.Test.YtjapijndljknnaaGreatDoorM9
import Derived.Lib.SlBytesConst
/-
  Package bytes, walked: the library's Concat of two slices; Int, Seal, Blob.
-/
namespace Go.Proofs.YtjapijndljknnaaGreatDoor
open Go Go.RowKit Go.Sort
set_option maxRecDepth 100000
set_option maxHeartbeats 1600000

theorem Concat_ok {w : World} {v a b : Value} {l k : List UInt8} (hs : SrcV 1 w v 2 [a, b]) (ha : Bs w a l) (hb : Bs w b k) (hl : l.length + k.length ≤ 100000000) :
    Calls Tryz.prog 120 #[v] w (NewB w (l ++ k)) := by
  obtain ⟨-, ⟨_, _, h0⟩ | ⟨g, o, cap, rfl, h1, h2, h3, h4⟩⟩ := hs
  · omega
  have c0 := h4 0 (by simp)
  have c1 := h4 1 (by simp)
  simp only [List.getElem_cons_zero, List.getElem_cons_succ, Nat.add_zero] at c0 c1
  obtain ⟨xa, ca, rfl, hla⟩ := ha.len
  obtain ⟨xb, cb, rfl, hlb⟩ := hb.len
  obtain ⟨i0, hi, hz0, hz1, hz2⟩ := info_parts infoU8
  have HI := Lib.hid hi
  have HZ0 := Lib.hid hz0
  have HZ1 := Lib.hid hz1
  have HZ2 := Lib.hid hz2
  have HA := Lib.hid ha
  have HB := Lib.hid hb
  clear hi hz0 hz1 hz2 ha hb h4 h1 h2 hla hlb
  go_enter Tryz.func120, Tryz.ntmps120
  go_wp2
  go_loopw [3, 11] (fun s i wr => ((i = .int .i64 0 ∧ s = .int .i64 0) ∨ (i = .int .i64 1 ∧ s = .int .i64 l.length) ∨ (i = .int .i64 2 ∧ s = .int .i64 ((l.length + k.length : Nat) : Int))) ∧ w = wr) (fun _ i _ => 2 - (intOf i).toNat)
  case atStart => exact ⟨.inl ⟨rfl, rfl⟩, rfl⟩
  case round =>
    obtain ⟨⟨rfl, rfl⟩ | ⟨rfl, rfl⟩ | ⟨rfl, rfl⟩, rfl⟩ := hrel
    · clear c1
      go_wp2
      go_roundw
      case rel => exact ⟨.inr (.inl ⟨rfl, by simp⟩), by trivial⟩
      case measure => simp [intOf]
    · clear c0
      go_wp2
      go_roundw
      case rel => exact ⟨.inr (.inr ⟨rfl, by simp⟩), by trivial⟩
      case measure => simp [intOf]
    · go_wp2_with fail
      refine (Grow_ok w (l.length + k.length) (by omega)).mono ?_
      rintro e w1 ⟨v1, rfl, hv1, hn1, hf1⟩
      have G1 := Lib.hid (And.intro hv1 (And.intro hn1 hf1))
      clear hv1 hn1 hf1
      go_wp2
      go_loopw [6, 27] (fun s i wr => ∃ m : List UInt8, ((i = .int .i64 0 ∧ m = []) ∨ (i = .int .i64 1 ∧ m = l) ∨ (i = .int .i64 2 ∧ m = l ++ k)) ∧ Vec 1 wr s m.length (m.map u8) ∧ Nw w wr ∧ ∀ g, s.ownBlock = some g → w.heap.size ≤ g) (fun _ i _ => 2 - (intOf i).toNat)
      case atStart => exact ⟨[], .inl ⟨rfl, rfl⟩, G1.out.1, G1.out.2.1, G1.out.2.2⟩
      case round =>
        obtain ⟨m, hc, hv, hn, hf⟩ := hrel
        obtain ⟨sm, cm, rfl, -⟩ := hv.len
        have e0 := hn.cell c0
        have e1 := hn.cell c1
        have hg : g < wr.heap.size := Nat.lt_of_lt_of_le h3 hn.size
        have HV := Lib.hid hv
        have HN := Lib.hid hn
        have HF := Lib.hid hf
        clear hv hn hf
        have SA := Lib.hid (SrcV.of_rd (HA.out.nw HN.out))
        have SB := Lib.hid (SrcV.of_rd (HB.out.nw HN.out))
        rcases hc with ⟨rfl, rfl⟩ | ⟨rfl, rfl⟩ | ⟨rfl, rfl⟩
        · clear e1
          go_wp2_with (at_builtin; refine wpList_append_vec rfl _ _ 35 rfl 5 i0 (.int .u8 0) 1 1 Tryz.underlying35 HI.out HZ0.out HZ1.out HZ2.out rfl (by decide) rfl rfl HV.out SA.out ?c1 ?c2 ?c3 ?_)
          case c1 => exact fun u hu => by obtain ⟨y, _, rfl⟩ := List.mem_map.1 hu; exact u8_cell y
          case c2 => simp only [List.length_nil]; unfold maxLen; omega
          case c3 => simp only [List.length_nil]; omega
          intro v' w2 q1 q2 q3
          have Q1 := Lib.hid q1
          have Q2 := Lib.hid q2
          have Q3 := Lib.hid q3
          clear q1 q2 q3
          go_wp2
          go_roundw
          case rel =>
            refine ⟨l, .inr (.inl ⟨rfl, rfl⟩), by simpa using Q1.out, HN.out.trans' Q2.out (fun j hj hb => by have := HF.out j hb; omega), fun j hj => ?_⟩
            rcases Q3.out with h | h
            · exact HF.out j (h ▸ hj)
            · exact Nat.le_trans HN.out.size (h j hj)
          case measure => simp [intOf]
        · clear e0
          go_wp2_with (at_builtin; refine wpList_append_vec rfl _ _ 35 rfl 5 i0 (.int .u8 0) 1 1 Tryz.underlying35 HI.out HZ0.out HZ1.out HZ2.out rfl (by decide) rfl rfl HV.out SB.out ?c1 ?c2 ?c3 ?_)
          case c1 => exact fun u hu => by obtain ⟨y, _, rfl⟩ := List.mem_map.1 hu; exact u8_cell y
          case c2 => unfold maxLen; omega
          case c3 => omega
          intro v' w2 q1 q2 q3
          have Q1 := Lib.hid q1
          have Q2 := Lib.hid q2
          have Q3 := Lib.hid q3
          clear q1 q2 q3
          go_wp2
          go_roundw
          case rel =>
            refine ⟨m ++ k, .inr (.inr ⟨rfl, rfl⟩), by have := Q1.out; rwa [← List.map_append, ← List.length_append] at this, HN.out.trans' Q2.out (fun j hj hb => by have := HF.out j hb; omega), fun j hj => ?_⟩
            rcases Q3.out with h | h
            · exact HF.out j (h ▸ hj)
            · exact Nat.le_trans HN.out.size (h j hj)
          case measure => simp [intOf]
        · go_wp2
          go_ret
          exact ⟨_, rfl, HV.out, HN.out, HF.out⟩

theorem Int_ok {w : World} {v : Value} {l : List UInt8} (hv : Vec 1 w v l.length (l.map u8)) (n : Int) (h0 : -9223372036854775808 ≤ n) (h1 : n ≤ 9223372036854775807) (hl : l.length ≤ 100000000) :
    Calls Tryz.prog 160 #[v, .int .i64 n] w fun e w' => ∃ v', e = .returned v' ∧ Vec 1 w' v' (l ++ intB n).length ((l ++ intB n).map u8) ∧ Only (fun k => v.ownBlock = some k) w w' ∧ (v'.ownBlock = v.ownBlock ∨ ∀ g, v'.ownBlock = some g → w.heap.size ≤ g) := by
  have HV := Lib.hid hv
  obtain ⟨sa, sc, rfl, -⟩ := hv.len
  clear hv
  go_enter Tryz.func160, Tryz.ntmps160
  go_wp2_with fail
  refine (folded_ok n h0 h1 w).mono ?_
  rintro e w1 ⟨rfl, rfl⟩
  go_wp2_with fail
  refine (Uint_ok HV.out (zig n) (zig_lt h0 h1) hl).mono ?_
  rintro e w1 ⟨v', rfl, q1, q2, q3⟩
  have Q := Lib.hid (And.intro q1 (And.intro q2 q3))
  clear q1 q2 q3
  go_wp2
  go_ret
  exact ⟨v', rfl, Q.out⟩

end Go.Proofs.YtjapijndljknnaaGreatDoor

/-
  SameTexts, walked.
-/
namespace Go.Proofs.YtjapijndljknnaaGreatDoor
open Go Go.RowKit Go.Sort
set_option maxRecDepth 100000
set_option maxHeartbeats 1600000

theorem beq_of_take {l k : List Str} (h : l = k) : (l == k) = true := by simpa using h
theorem nbeq_at {l k : List Str} (i : Nat) (h : l[i]? ≠ k[i]?) : (l == k) = false := by
  rw [Bool.eq_false_iff]; intro e; have : l = k := by simpa using e
  exact h (by rw [this])

theorem SameTexts_ok {w : World} {v u : Value} {l k : List Str} (h : Ss w v l) (h' : Ss w u k) :
    Calls Tryz.prog 28 #[v, u] w fun e w' => e = .returned (.bool (l == k)) ∧ Nw w w' := by
  obtain ⟨la, lc, rfl, hl1, hl2, hle⟩ := h.elems
  obtain ⟨ka, kc, rfl, hk1, hk2, hke⟩ := h'.elems
  unfold maxLen at hl2 hk2
  have HL := Lib.hid hle
  have HK := Lib.hid hke
  clear h h' hle hke
  go_enter Tryz.func28, Tryz.ntmps28
  go_wp2
  go_loopw [5] (fun i wr => ∃ n : Nat, n ≤ l.length ∧ n ≤ k.length ∧ i = .int .i64 n ∧ l.take n = k.take n ∧ Nw w wr) (fun i _ => l.length + k.length - (intOf i).toNat)
  case atStart => exact ⟨0, Nat.zero_le _, Nat.zero_le _, rfl, rfl, Nw.refl _⟩
  case round =>
    obtain ⟨n, hn1, hn2, rfl, ht, hwr⟩ := hrel
    have HT := Lib.hid ht
    have HW := Lib.hid hwr
    clear ht
    by_cases h1 : n < l.length
    · obtain ⟨g, o, rfl, hg, hc⟩ := HL.out n h1
      have hc1 := hwr.cell hc
      by_cases h2 : n < k.length
      · obtain ⟨g2, o2, rfl, hg2, hd⟩ := HK.out n h2
        have hd1 := hwr.cell hd
        by_cases he : l[n] = k[n]
        · have he' : Hid (l.take (n + 1) = k.take (n + 1)) := by
            show l.take (n + 1) = k.take (n + 1)
            rw [List.take_succ_eq_append_getElem h1, List.take_succ_eq_append_getElem h2, HT.out, he]
          have q1 : decide ((l.length : Int) ≤ (n : Int)) = false := by simp; omega
          have q2 : decide ((k.length : Int) ≤ (n : Int)) = false := by simp; omega
          rw [he] at hc1
          clear hc hd hwr he
          go_wp2
          have d1 := cellG hc1
          have d2 := cellG hd1
          refine wp_region_quiet_below (by kernel_rfl) (by kernel_rfl) ?_
          repeat (first | go_big_quiet_step (fail) | quiet_step (fail))
          refine wpQuiet_nil ?_
          intro w2 hw2
          have hw2 := Lib.hid (Nw.of_regrown hw2)
          clear d1 d2 q1 q2 hc1 hd1
          go_wp2
          go_roundw
          case rel => exact ⟨n + 1, by omega, by omega, by go_num, he'.out, HW.out.trans hw2.out⟩
          case measure => simp [intOf]; omega
        · have r : Hid ((l == k) = false) := nbeq_at n (by rw [List.getElem?_eq_getElem h1, List.getElem?_eq_getElem h2]; intro e; exact he (Option.some.inj e))
          have q1 : decide ((l.length : Int) ≤ (n : Int)) = false := by simp; omega
          have q2 : decide ((k.length : Int) ≤ (n : Int)) = false := by simp; omega
          have q3 : (l[n] == k[n]) = false := by simpa using he
          have q4 : (l[n] != k[n]) = true := by simpa using he
          generalize l[n] = ln at *
          generalize k[n] = kn at *
          clear hc hd hwr
          go_wp2
          have d1 := cellG hc1
          have d2 := cellG hd1
          refine wp_region_quiet_below (by kernel_rfl) (by kernel_rfl) ?_
          repeat (first | go_big_quiet_step (fail) | quiet_step (fail))
          refine wpQuiet_nil ?_
          intro w2 hw2
          have hw2 := Lib.hid (Nw.of_regrown hw2)
          clear d1 d2 q1 q2 hc1 hd1
          go_wp2
          go_ret
          exact ⟨by rw [r.out]; rfl, HW.out.trans hw2.out⟩
      · have r : Hid ((l == k) = false) := nbeq_at n (by rw [List.getElem?_eq_getElem h1, List.getElem?_eq_none (by omega)]; simp)
        have q1 : decide ((l.length : Int) ≤ (n : Int)) = false := by simp; omega
        have q2 : decide ((k.length : Int) ≤ (n : Int)) = true := by simp; omega
        clear hc hwr hc1
        go_wp2
        refine wp_region_quiet_below (by kernel_rfl) (by kernel_rfl) ?_
        repeat (first | go_big_quiet_step (fail) | quiet_step (fail))
        refine wpQuiet_nil ?_
        intro w2 hw2
        have hw2 := Lib.hid (Nw.of_regrown hw2)
        clear q1 q2
        go_wp2
        go_ret
        exact ⟨by rw [r.out]; rfl, HW.out.trans hw2.out⟩
    · by_cases h2 : n < k.length
      · have r : Hid ((l == k) = false) := nbeq_at n (by rw [List.getElem?_eq_none (by omega), List.getElem?_eq_getElem h2]; simp)
        have q1 : decide ((l.length : Int) ≤ (n : Int)) = true := by simp; omega
        clear hwr
        go_wp2
        refine wp_region_quiet_below (by kernel_rfl) (by kernel_rfl) ?_
        repeat (first | go_big_quiet_step (fail) | quiet_step (fail))
        refine wpQuiet_nil ?_
        intro w2 hw2
        have hw2 := Lib.hid (Nw.of_regrown hw2)
        clear q1
        go_wp2
        go_ret
        exact ⟨by rw [r.out]; rfl, HW.out.trans hw2.out⟩
      · have r : Hid ((l == k) = true) := beq_of_take (by
          have := HT.out
          rw [List.take_of_length_le (by omega), List.take_of_length_le (by omega)] at this
          exact this)
        clear hwr
        go_wp2
        go_ret
        exact ⟨by rw [r.out]; rfl, HW.out⟩
end Go.Proofs.YtjapijndljknnaaGreatDoor

/-
  A disk that a statement has made: the disk's functions, told for it.
-/
namespace Go.Proofs.YtjapijndljknnaaGreatDoor
open Go Go.RowKit Go.Sort
set_option maxRecDepth 100000
set_option maxHeartbeats 800000

/-- In w lies the disk d at b, which was made behind w0; of what was there in w0 nothing has turned. -/
def Has (w0 w : World) (b : Nat) (d : Dsk) : Prop := ∃ S, DiskIn w b d S ∧ Nw w0 w ∧ ∀ k, S k → w0.heap.size ≤ k

section
variable {w0 w w' : World} {b : Nat} {d d' : Dsk}
theorem Has.nw (h : Has w0 w b d) (hw : Nw w w') : Has w0 w' b d := by
  obtain ⟨S, h1, h2, h3⟩ := h
  exact ⟨S, h1.nw hw, h2.trans hw, h3⟩
theorem Has.base (h : Has w0 w b d) : Nw w0 w := h.choose_spec.2.1
theorem Has.ok (h : Has w0 w b d) : d.Ok := h.choose_spec.1.ok
theorem Has.turn {S : Nat → Prop} (hD : Nw w0 w) (hS : ∀ k, S k → w0.heap.size ≤ k) (h : DiskTo S w w' b d') : Has w0 w' b d' := by
  obtain ⟨S', h1, h2, h3⟩ := h
  refine ⟨S', h1, hD.trans' h2 (fun k hk hs => ?_), fun k hk => ?_⟩
  · have := hS k hs; omega
  · rcases h3 k hk with h | h
    · exact hS k h
    · have := hD.size; omega

theorem Has.new (most : Int) (w : World) (h0 : 0 ≤ most) (h1 : most ≤ 16777216) : Calls Tryz.prog 24 #[.int .i64 most] w fun e w' => ∃ b, e = .returned (.tuple #[.pointer (some ⟨b, 0, none⟩), .int .i64 0]) ∧ Has w w' b (newDsk most) := by
  refine (New_ok most w h0 h1).mono ?_
  rintro e w' ⟨b, S, he, h2, h3, h4⟩
  exact ⟨b, he, S, h2, h3, h4⟩

/-- Append of bytes that came in. -/
theorem Has.append (h : Has w0 w b d) (n : Str) (l : List UInt8) (src : Value) (hs : Bs w0 src l) (hnl : n.length ≤ 9223372036854775807) (hll : l.length ≤ 140737488355328) {x : Int} (hr : d.append n l = (d', x)) :
    Calls Tryz.prog 27 #[.pointer (some ⟨b, 0, none⟩), .string ⟨n.toArray⟩, src] w fun e w' => e = .returned (.int .i64 x) ∧ Has w0 w' b d' := by
  obtain ⟨S, h1, h2, h3⟩ := h
  have := Append_ok h1 n l src (hs.nw h2) (fun hne g hg hS => by have := hs.lt hne g hg; have := h3 g hS; omega) hnl hll
  rw [hr] at this
  exact this.mono fun e w' ⟨he, ht⟩ => ⟨he, Has.turn h2 h3 ht⟩
theorem Has.sync (h : Has w0 w b d) (n : Str) {x : Int} (hr : d.sync n = (d', x)) :
    Calls Tryz.prog 77 #[.pointer (some ⟨b, 0, none⟩), .string ⟨n.toArray⟩] w fun e w' => e = .returned (.int .i64 x) ∧ Has w0 w' b d' := by
  obtain ⟨S, h1, h2, h3⟩ := h
  have := Sync_ok h1 n
  rw [hr] at this
  exact this.mono fun e w' ⟨he, ht⟩ => ⟨he, Has.turn h2 h3 ht⟩
theorem Has.remove (h : Has w0 w b d) (n : Str) {x : Int} (hr : d.remove n = (d', x)) :
    Calls Tryz.prog 100 #[.pointer (some ⟨b, 0, none⟩), .string ⟨n.toArray⟩] w fun e w' => e = .returned (.int .i64 x) ∧ Has w0 w' b d' := by
  obtain ⟨S, h1, h2, h3⟩ := h
  have := Remove_ok h1 n
  rw [hr] at this
  exact this.mono fun e w' ⟨he, ht⟩ => ⟨he, Has.turn h2 h3 ht⟩
theorem Has.rename (h : Has w0 w b d) (n t : Str) (htl : t.length ≤ 9223372036854775807) {x : Int} (hr : d.rename n t = (d', x)) :
    Calls Tryz.prog 79 #[.pointer (some ⟨b, 0, none⟩), .string ⟨n.toArray⟩, .string ⟨t.toArray⟩] w fun e w' => e = .returned (.int .i64 x) ∧ Has w0 w' b d' := by
  obtain ⟨S, h1, h2, h3⟩ := h
  have := Rename_ok h1 n t htl
  rw [hr] at this
  exact this.mono fun e w' ⟨he, ht⟩ => ⟨he, Has.turn h2 h3 ht⟩
theorem Has.cut (h : Has w0 w b d) (n : Str) (k : Int) {x : Int} (hr : d.cut n k = (d', x)) :
    Calls Tryz.prog 52 #[.pointer (some ⟨b, 0, none⟩), .string ⟨n.toArray⟩, .int .i64 k] w fun e w' => e = .returned (.int .i64 x) ∧ Has w0 w' b d' := by
  obtain ⟨S, h1, h2, h3⟩ := h
  have := Cut_ok h1 n k
  rw [hr] at this
  exact this.mono fun e w' ⟨he, ht⟩ => ⟨he, Has.turn h2 h3 ht⟩
theorem Has.arm (h : Has w0 w b d) (k : Int) (hk : k ≤ 9223372036854775807) (hr : d.armed k = d') :
    Calls Tryz.prog 47 #[.pointer (some ⟨b, 0, none⟩), .int .i64 k] w fun e w' => e = .returned (.tuple #[]) ∧ Has w0 w' b d' := by
  obtain ⟨S, h1, h2, h3⟩ := h
  have := Arm_ok h1 k hk
  rw [hr] at this
  exact this.mono fun e w' ⟨he, ht⟩ => ⟨he, Has.turn h2 h3 ht⟩
/-- Crash; what is kept came in. -/
theorem Has.crash (h : Has w0 w b d) (v : Value) (ks : List Int) (hs : Rd i64v w0 v ks) (hr : d.crash ks = d') :
    Calls Tryz.prog 49 #[.pointer (some ⟨b, 0, none⟩), v] w fun e w' => e = .returned (.tuple #[]) ∧ Has w0 w' b d' := by
  obtain ⟨S, h1, h2, h3⟩ := h
  have := Crash_ok h1 v ks (hs.nw h2) (fun hne g hg hS => by have := hs.lt hne g hg; have := h3 g hS; omega)
  rw [hr] at this
  exact this.mono fun e w' ⟨he, ht⟩ => ⟨he, Has.turn h2 h3 ht⟩
theorem Has.size (h : Has w0 w b d) (n : Str) {k : Nat} (hk : (fileOf d.files n).bytes.length = k) :
    Calls Tryz.prog 29 #[.pointer (some ⟨b, 0, none⟩), .string ⟨n.toArray⟩] w fun e w' => e = .returned (.int .i64 k) ∧ Has w0 w' b d := by
  have h' := h
  obtain ⟨S, h1, h2, h3⟩ := h
  subst hk
  exact (Size_ok h1 n).mono fun e w' ⟨he, hw⟩ => ⟨he, h'.nw hw⟩
theorem Has.synced (h : Has w0 w b d) (n : Str) {k : Nat} (hk : (fileOf d.files n).synced = k) :
    Calls Tryz.prog 42 #[.pointer (some ⟨b, 0, none⟩), .string ⟨n.toArray⟩] w fun e w' => e = .returned (.int .i64 k) ∧ Has w0 w' b d := by
  have h' := h
  obtain ⟨S, h1, h2, h3⟩ := h
  subst hk
  exact (Synced_ok h1 n).mono fun e w' ⟨he, hw⟩ => ⟨he, h'.nw hw⟩
theorem Has.used (h : Has w0 w b d) {k : Nat} (hk : usedF d.files = k) :
    Calls Tryz.prog 38 #[.pointer (some ⟨b, 0, none⟩)] w fun e w' => e = .returned (.int .i64 k) ∧ Has w0 w' b d := by
  have h' := h
  obtain ⟨S, h1, h2, h3⟩ := h
  subst hk
  exact (Used_ok h1).mono fun e w' ⟨he, hw⟩ => ⟨he, h'.nw hw⟩
theorem Has.down (h : Has w0 w b d) {x : Bool} (hx : d.down = x) :
    Calls Tryz.prog 48 #[.pointer (some ⟨b, 0, none⟩)] w fun e w' => e = .returned (.bool x) ∧ Has w0 w' b d := by
  have h' := h
  obtain ⟨S, h1, h2, h3⟩ := h
  subst hx
  exact (Down_ok h1).mono fun e w' ⟨he, hw⟩ => ⟨he, by subst hw; exact h'⟩
theorem Has.read (h : Has w0 w b d) (n : Str) {l : List UInt8} {x : Int} (hr : d.read n = (l, x)) :
    Calls Tryz.prog 14 #[.pointer (some ⟨b, 0, none⟩), .string ⟨n.toArray⟩] w fun e w' => ∃ v, e = .returned (.tuple #[v, .int .i64 x]) ∧ Own w' v l ∧ Has w0 w' b d ∧ ∀ g, v.ownBlock = some g → w.heap.size ≤ g := by
  have h' := h
  obtain ⟨S, h1, h2, h3⟩ := h
  have := Read_ok h1 n
  rw [hr] at this
  exact this.mono fun e w' ⟨v, he, hv, hw, hf⟩ => ⟨v, he, hv, h'.nw hw, hf⟩
theorem Has.list (h : Has w0 w b d) {l : List Str} (hl : d.list = l) :
    Calls Tryz.prog 13 #[.pointer (some ⟨b, 0, none⟩)] w fun e w' => ∃ v, e = .returned v ∧ Ss w' v l ∧ Has w0 w' b d ∧ ∀ g, v.ownBlock = some g → w.heap.size ≤ g := by
  have h' := h
  obtain ⟨S, h1, h2, h3⟩ := h
  have := List_ok h1
  rw [hl] at this
  exact this.mono fun e w' ⟨v, he, hv, hw, hf⟩ => ⟨v, he, hv, h'.nw hw, hf⟩
end

/-- A row that a literal lays. -/
theorem rd_lit {α : Type} {f : α → Value} (w : World) (t : TypeId) (fz : Nat × Nat) (l : List α) (C : Array Value) (c : Nat) (hC : C = (l.map f).toArray) (hc : l.length ≤ c) (hm : c ≤ maxLen) :
    Rd f (w.alloc (.cells C t fz)) (.slice (some ⟨w.heap.size, 0, none⟩) l.length c) l := by
  refine .inr ⟨w.heap.size, 0, c, rfl, hc, hm, by simp, fun i hi => ?_⟩
  have : (w.alloc (.cells C t fz)).heap[w.heap.size]? = some (.cells C t fz) := heap_alloc_new w _
  subst hC
  unfold World.cell?
  rw [show (⟨w.heap.size, 0 + i, none⟩ : Addr).block = w.heap.size from rfl, this]
  simp [hi]
end Go.Proofs.YtjapijndljknnaaGreatDoor

/-
  Package bytes, walked: Seal, Blob.
-/
namespace Go.Proofs.YtjapijndljknnaaGreatDoor
open Go Go.RowKit Go.Sort
set_option maxRecDepth 100000
set_option maxHeartbeats 1600000

theorem NewB.from {w W w' : World} {l : List UInt8} {e : Ending} (hw : Nw w W) (h : NewB W l e w') : NewB w l e w' := by
  obtain ⟨v', he, h1, h2, h3⟩ := h
  exact ⟨v', he, h1, hw.trans h2, fun g hg => Nat.le_trans hw.size (h3 g hg)⟩
/-- What a grower of bytes hands back: the bytes v grown, or new ones. -/
def GrowB (v : Value) (w : World) (l : List UInt8) (e : Ending) (w' : World) : Prop :=
  ∃ v', e = .returned v' ∧ Vec 1 w' v' l.length (l.map u8) ∧ Only (fun k => v.ownBlock = some k) w w' ∧ (v'.ownBlock = v.ownBlock ∨ ∀ g, v'.ownBlock = some g → w.heap.size ≤ g)

theorem Seal_ok {w : World} {v : Value} {l : List UInt8} (hv : Bs w v l) (hl : l.length ≤ 99999990) :
    Calls Tryz.prog 71 #[v] w (NewB w (sealB sumB l)) := by
  have HV := Lib.hid hv
  obtain ⟨sa, sc, rfl, -⟩ := hv.len
  clear hv
  go_enter Tryz.func71, Tryz.ntmps71
  go_wp2_with fail
  refine (Crc_ok HV.out).mono ?_
  rintro e w1 ⟨rfl, rfl⟩
  have hs := crcN_lt l
  have hsum : sumB l = [UInt8.ofNat (crcN l / 16777216), UInt8.ofNat (crcN l / 65536), UInt8.ofNat (crcN l / 256), UInt8.ofNat (crcN l)] := rfl
  have hcells : (#[.int .u8 ((crcN l : Int) / 16777216), .int .u8 ((crcN l : Int) / 65536 % 256), .int .u8 ((crcN l : Int) / 256 % 256), .int .u8 ((crcN l : Int) % 256)] : Array Value) = ((sumB l).map u8).toArray := by
    rw [hsum]
    simp only [List.map_cons, List.map_nil, u8, UInt8.toNat_ofNat']
    congr 1
    rw [show ((crcN l / 16777216 % 2 ^ 8 : Nat) : Int) = (crcN l : Int) / 16777216 by omega, show ((crcN l / 65536 % 2 ^ 8 : Nat) : Int) = (crcN l : Int) / 65536 % 256 by omega,
      show ((crcN l / 256 % 2 ^ 8 : Nat) : Int) = (crcN l : Int) / 256 % 256 by omega, show ((crcN l % 2 ^ 8 : Nat) : Int) = (crcN l : Int) % 256 by omega]
  have HS := Lib.hid hcells
  have HL : Hid ((sumB l).length = 4) := Lib.hid rfl
  have HQ : Hid (sealB sumB l = l ++ sumB l) := Lib.hid rfl
  clear hsum hcells
  generalize crcN l = s at *
  generalize sumB l = sm at *
  go_wp2_with fail
  rw [HS.out]
  have hn0 : Nw w (w.alloc (.cells (sm.map u8).toArray 5 (0, 0))) := (Nw.refl w).alloc _
  have hn1 := hn0.alloc (.cells #[.slice sa l.length sc, .slice (some ⟨w.heap.size, 0, none⟩) 4 4] 35 (0, 0))
  have s2 : Bs (w.alloc (.cells (sm.map u8).toArray 5 (0, 0))) (.slice (some ⟨w.heap.size, 0, none⟩) 4 4) sm := by
    have := rd_lit (f := u8) w 5 (0, 0) sm _ 4 rfl (by rw [HL.out]; exact Nat.le_refl 4) (by decide)
    rw [HL.out] at this
    exact this
  have s3 := src_lit (w.alloc (.cells (sm.map u8).toArray 5 (0, 0))) 35 (0, 0) 1 2 2 [.slice sa l.length sc, .slice (some ⟨w.heap.size, 0, none⟩) 4 4] rfl (by omega) (by decide)
  rw [World.size_alloc] at s3
  refine (Concat_ok s3 (HV.out.nw hn1) (s2.nw ((Nw.refl _).alloc _)) (by rw [HL.out]; omega)).mono ?_
  rintro e w1 ⟨v', rfl, q1, q2, q3⟩
  have Q := Lib.hid (NewB.from hn1 (e := .returned v') ⟨v', rfl, q1, q2, q3⟩)
  clear q1 q2 q3 hn0 hn1 s2 s3
  go_wp2
  go_ret
  obtain ⟨v2, h, q⟩ := Q.out
  obtain rfl := Ending.returned.inj h
  rw [HQ.out]
  exact ⟨_, rfl, q⟩

theorem Blob_ok {w : World} {v b : Value} {l k : List UInt8} (hv : Vec 1 w v l.length (l.map u8)) (hb : Bs w b k) (hne : k ≠ [] → ∀ g, b.ownBlock = some g → v.ownBlock ≠ some g) (hl : l.length ≤ 90000000) (hk : k.length ≤ 1000000) :
    Calls Tryz.prog 70 #[v, b] w (GrowB v w (l ++ blobB k)) := by
  have HV := Lib.hid hv
  have HB := Lib.hid hb
  have HNE := Lib.hid hne
  obtain ⟨sa, sc, rfl, -⟩ := hv.len
  obtain ⟨ba, bc, rfl, -⟩ := hb.len
  clear hv hb hne
  have hm : ((k.length : Nat) : Int) % 18446744073709551616 = k.length := by omega
  go_enter Tryz.func70, Tryz.ntmps70
  go_wp2_with fail
  refine (Uint_ok HV.out k.length (by omega) (by omega)).mono ?_
  rintro e w1 ⟨v1, rfl, q1, q2, q3⟩
  have hlen := uintB_len k.length 10 (by omega) (Nat.lt_trans (show k.length < 2 ^ 64 by omega) (by decide))
  obtain ⟨xa, xc, rfl, -⟩ := q1.len
  have HB1 := Lib.hid (HB.out.keep q2 (fun h g hg hx => HNE.out h g hg hx))
  have Q := Lib.hid (And.intro q1 (And.intro q2 q3))
  clear q1 q2 q3 HB
  have hl1 : (l ++ uintB k.length).length ≤ l.length + 10 := by rw [List.length_append]; omega
  have HJ : Hid (l ++ blobB k = (l ++ uintB k.length) ++ k) := Lib.hid (List.append_assoc _ _ _).symm
  clear hlen
  generalize l ++ uintB k.length = l1 at *
  go_wp2_with fail
  have s3 := src_lit w1 35 (0, 0) 1 2 2 [.slice xa l1.length xc, .slice ba k.length bc] rfl (by omega) (by decide)
  have hn := (Nw.refl w1).alloc (.cells #[.slice xa l1.length xc, .slice ba k.length bc] 35 (0, 0))
  refine (Concat_ok s3 (Q.out.1.rd.nw hn) (HB1.out.nw hn) (by omega)).mono ?_
  rintro e w2 ⟨v', rfl, q1, q2, q3⟩
  have P := Lib.hid (And.intro q1 (And.intro (hn.trans q2) q3))
  clear q1 q2 q3 hn s3
  go_wp2
  go_ret
  refine ⟨v', rfl, ?_, ?_, .inr fun g hg => ?_⟩
  · rw [HJ.out]; exact P.out.1
  · exact Q.out.2.1.trans P.out.2.1.only
  · have h1 := P.out.2.2 g hg
    have h2 := Q.out.2.1.size
    simp only [World.size_alloc] at h1
    omega
end Go.Proofs.YtjapijndljknnaaGreatDoor
