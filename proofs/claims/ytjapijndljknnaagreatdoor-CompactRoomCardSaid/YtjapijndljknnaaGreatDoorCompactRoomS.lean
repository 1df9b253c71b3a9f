/-
  Texts merged by a program of this claim's: CompactRoom.
-/
import Derived.Test.YtjapijndljknnaaGreatDoorM44
import Derived.Test.YtjapijndljknnaaGreatDoorM43
import Derived.Test.YtjapijndljknnaaGreatDoorM48
/-
  amanuensislaw07.CompactRoom: on a disk that has no room for it Compact errs, and the log's events are the same; without an error, too.
-/
namespace Go.Proofs.YtjapijndljknnaaGreatDoor.CompactRoom
open Go Go.RowKit Go.Sort
set_option maxRecDepth 100000
set_option maxHeartbeats 1600000
theorem walkN (w : World) (ht : Tab w) (v0 : Value) (fs : List (List Ev)) (more : Nat) (h0 : RdK 1 (isEvs w) w v0 fs) (hm : more ≤ 255) :
    Calls Tryz.prog 6 #[v0, .int .u8 more] w fun e w' => e = .returned (.bool true) ∧ Nw w w' := by
  have HT := Lib.hid ht
  have HF := Lib.hid h0
  obtain ⟨a0, c0, rfl, -⟩ := h0.len
  obtain ⟨nf, hnf⟩ : ∃ n, fs.length = n := ⟨_, rfl⟩
  rw [hnf] at HF ⊢
  have G1 := Lib.hid (grown_ok w ht _ fs 1048576 (by omega) (by omega) h0)
  rw [hnf] at G1
  clear ht h0 hnf
  go_enter Tryz.func6, Tryz.ntmps6
  go_wp2_with fail
  refine G1.out.mono ?_
  rintro e w1 ⟨b1, p1, v1, d1, L1, all1, c1, ok1, rfl, g, -⟩
  obtain ⟨rfl, bt, -⟩ := g.big rfl
  have hus := bt.ak.used
  have hfew := g.few
  have HL1 := Lib.hid g.hl
  obtain ⟨k, hk⟩ : ∃ k, usedF d1.files = k := ⟨_, rfl⟩
  have HK := Lib.hid hk
  have N1 := Lib.hid g.hl.base
  rw [hk] at hus
  clear g bt hk G1
  go_wp2_with fail
  refine (LDisk_ok HL1.out).mono ?_
  rintro e w2 ⟨rfl, rfl⟩
  go_wp2_with fail
  refine (HL1.out.has.used HK.out).mono ?_
  rintro e w3 ⟨rfl, n3⟩
  have N3 := Lib.hid (N1.out.trans n3)
  have hw1 : IntKind.i64.wrap ((k : Int) + 40) = (k : Int) + 40 := IntWalk.i64_in _ (by omega)
  have hw2 : IntKind.i64.wrap (more : Int) = (more : Int) := IntWalk.i64_in _ (by omega)
  have hw3 : IntKind.i64.wrap ((k : Int) + 40 + (more : Int)) = (k : Int) + 40 + (more : Int) := IntWalk.i64_in _ (by omega)
  have G2 := Lib.hid (grown_ok w3 (HT.out.nw N3.out) _ fs ((k : Int) + 40 + (more : Int)) (by omega) (by omega) (frames_nw HF.out N3.out))
  clear HF N1 HK
  go_wp2_with fail
  refine G2.out.mono ?_
  rintro e w4 ⟨b, p, v, d, L, all, c, ok, rfl, g, -⟩
  obtain ⟨va, vc, rfl, -⟩ := g.vec.len
  have hfew := g.few
  have hlen := g.len
  have N4 := Lib.hid (N3.out.trans g.hl.base)
  cases ok
  case false =>
    clear g G2 HL1
    go_wp2_with fail
    refine (awake7_ok w4 (HT.out.nw N4.out)).mono ?_
    rintro e w9 ⟨rfl, n9⟩
    have N9 := Lib.hid (N4.out.trans n9)
    clear n9
    go_wp2
    go_ret
    exact ⟨rfl, N9.out⟩
  have A4 : Hid (Evs w4 (.slice va all.length vc) all) := Lib.hid ⟨g.vec.src, g.evs⟩
  have EV := Lib.hid g.evs
  have C := Compact_ok g.hl g.kin g.evs (by omega) (HT.out.nw N3.out)
  have hroom := comp_room g.kin g.up (g.ov rfl) (by omega)
  have hrt := (comp_keeps g.kin g.evs (by omega)).1
  have hup := comp_up g.up all L
  obtain ⟨R, hR⟩ : ∃ R, compD all L d = R := ⟨_, rfl⟩
  rw [hR] at C hroom hrt hup
  obtain ⟨d', L', n, x⟩ := R
  simp only at C hroom hrt hup
  have hsc := hrt.scan hup.1
  obtain ⟨s, hs⟩ : ∃ s, scanD unpackB d' = s := ⟨_, rfl⟩
  rw [hs] at hsc
  obtain ⟨es, ps, gd, z⟩ := s
  simp only at hsc
  obtain ⟨rfl, rfl⟩ := hsc
  have SC := Lib.hid hs
  have C := Lib.hid C
  clear g G2 HL1 hrt hup hR hs
  go_wp2_with fail
  refine C.out.mono ?_
  rintro e w5 ⟨rfl, hl5, hk5⟩
  have L5 := Lib.hid hl5
  have A5 : Hid (Evs w5 (.slice va es.length vc) es) := Lib.hid (A4.out.kept hk5 fun g hg => hg)
  have N5 := Lib.hid (N3.out.trans hl5.base)
  clear hl5 hk5 C A4
  go_wp2_with fail
  refine (LDisk_ok L5.out).mono ?_
  rintro e w6 ⟨rfl, rfl⟩
  rcases hroom with rfl | ⟨rfl, rfl⟩
  · go_wp2_with fail
    refine (Scan_ok L5.out.has (.inl den_unpack) SC.out).mono ?_
    rintro e w7 ⟨v7, u7, rfl, o1, o2⟩
    obtain ⟨xa, xc, rfl, -⟩ := o1.1.len
    obtain ⟨ya, yc, rfl, -⟩ := o2.1.len
    have A7 := Lib.hid (A5.out.nw o1.2.1)
    have X7 : Hid (Evs w7 (.slice xa es.length xc) es) := Lib.hid ⟨o1.1.src, EV.out⟩
    have N7 := Lib.hid (N5.out.trans o1.2.1)
    clear o1 o2 SC L5
    go_wp2_with fail
    refine (SameEvents_ok X7.out A7.out).mono ?_
    rintro e w8 ⟨rfl, n8⟩
    have N8 := Lib.hid (N7.out.trans n8)
    clear n8 X7 A7
    go_wp2_with fail
    refine (awake7_ok w8 (HT.out.nw N8.out)).mono ?_
    rintro e w9 ⟨rfl, n9⟩
    have N9 := Lib.hid (N8.out.trans n9)
    clear n9
    go_wp2
    go_ret
    exact ⟨rfl, N9.out⟩
  · go_wp2_with fail
    refine (Scan_ok L5.out.has (.inl den_unpack) SC.out).mono ?_
    rintro e w7 ⟨v7, u7, rfl, o1, o2⟩
    obtain ⟨xa, xc, rfl, -⟩ := o1.1.len
    obtain ⟨ya, yc, rfl, -⟩ := o2.1.len
    have A7 := Lib.hid (A5.out.nw o1.2.1)
    have X7 : Hid (Evs w7 (.slice xa es.length xc) es) := Lib.hid ⟨o1.1.src, EV.out⟩
    have N7 := Lib.hid (N5.out.trans o1.2.1)
    clear o1 o2 SC L5
    go_wp2_with fail
    refine (SameEvents_ok X7.out A7.out).mono ?_
    rintro e w8 ⟨rfl, n8⟩
    have N8 := Lib.hid (N7.out.trans n8)
    clear n8 X7 A7
    go_wp2_with fail
    refine (awake7_ok w8 (HT.out.nw N8.out)).mono ?_
    rintro e w9 ⟨rfl, n9⟩
    have N9 := Lib.hid (N8.out.trans n9)
    clear n9
    go_wp2
    go_ret
    exact ⟨rfl, N9.out⟩
theorem walk (w : World) (ht : Tab w) (v0 : Value) (fs : List (List Ev)) (more : UInt8) (h0 : RdK 1 (isEvs w) w v0 fs) :
    Calls Tryz.prog 6 #[v0, .int .u8 more.toNat] w fun e w' => e = .returned (.bool true) ∧ Nw w w' :=
  walkN w ht v0 fs more.toNat h0 (by have := more.toNat_lt; omega)
end Go.Proofs.YtjapijndljknnaaGreatDoor.CompactRoom
