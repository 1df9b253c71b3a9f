/-
  Texts merged by a program of this claim's: BytesD.
-/
import Derived.Test.YtphgiobklbpdeaaGreatDoorM13
/-
  Package bytes, walked: Seal, Blob.
-/
namespace Go.Proofs.YtphgiobklbpdeaaGreatDoor
open Go Go.RowKit Go.Sort
set_option maxRecDepth 100000
set_option maxHeartbeats 1600000

theorem NewB.from {w W w' : World} {l : List UInt8} {e : Ending} (hw : Nw w W) (h : NewB W l e w') : NewB w l e w' := by
  obtain ⟨v', he, h1, h2, h3⟩ := h
  exact ⟨v', he, h1, hw.trans h2, fun g hg => Nat.le_trans hw.size (h3 g hg)⟩
/-- What a grower of bytes hands back: the bytes v grown, or new ones. -/
def GrowB (v : Value) (w : World) (l : List UInt8) (e : Ending) (w' : World) : Prop :=
  ∃ v', e = .returned v' ∧ Vec 1 w' v' l.length (l.map u8) ∧ Only (fun k => v.ownBlock = some k) w w' ∧ (v'.ownBlock = v.ownBlock ∨ ∀ g, v'.ownBlock = some g → w.heap.size ≤ g)

theorem Seal_ok {w : World} {v : Value} {l : List UInt8} (hv : Bs w v l) (hl : l.length ≤ 99999990) :
    Calls Tryz.prog 64 #[v] w (NewB w (sealB sumB l)) := by
  have HV := Lib.hid hv
  obtain ⟨sa, sc, rfl, -⟩ := hv.len
  clear hv
  go_enter Tryz.func64, Tryz.ntmps64
  go_wp2_with fail
  refine (Crc_ok HV.out).mono ?_
  rintro e w1 ⟨rfl, rfl⟩
  have hs := crcN_lt l
  have hsum : sumB l = [UInt8.ofNat (crcN l / 16777216), UInt8.ofNat (crcN l / 65536), UInt8.ofNat (crcN l / 256), UInt8.ofNat (crcN l)] := rfl
  have hcells : (#[.int .u8 ((crcN l : Int) / 16777216), .int .u8 ((crcN l : Int) / 65536 % 256), .int .u8 ((crcN l : Int) / 256 % 256), .int .u8 ((crcN l : Int) % 256)] : Array Value) = ((sumB l).map u8).toArray := by
    rw [hsum]
    simp only [List.map_cons, List.map_nil, u8, UInt8.toNat_ofNat']
    congr 1
    rw [show ((crcN l / 16777216 % 2 ^ 8 : Nat) : Int) = (crcN l : Int) / 16777216 by omega, show ((crcN l / 65536 % 2 ^ 8 : Nat) : Int) = (crcN l : Int) / 65536 % 256 by omega,
      show ((crcN l / 256 % 2 ^ 8 : Nat) : Int) = (crcN l : Int) / 256 % 256 by omega, show ((crcN l % 2 ^ 8 : Nat) : Int) = (crcN l : Int) % 256 by omega]
  have HS := Lib.hid hcells
  have HL : Hid ((sumB l).length = 4) := Lib.hid rfl
  have HQ : Hid (sealB sumB l = l ++ sumB l) := Lib.hid rfl
  clear hsum hcells
  generalize crcN l = s at *
  generalize sumB l = sm at *
  go_wp2_with fail
  rw [HS.out]
  have hn0 : Nw w (w.alloc (.cells (sm.map u8).toArray 5 (0, 0))) := (Nw.refl w).alloc _
  have hn1 := hn0.alloc (.cells #[.slice sa l.length sc, .slice (some ⟨w.heap.size, 0, none⟩) 4 4] 23 (0, 0))
  have s2 : Bs (w.alloc (.cells (sm.map u8).toArray 5 (0, 0))) (.slice (some ⟨w.heap.size, 0, none⟩) 4 4) sm := by
    have := rd_lit (f := u8) w 5 (0, 0) sm _ 4 rfl (by rw [HL.out]; exact Nat.le_refl 4) (by decide)
    rw [HL.out] at this
    exact this
  have s3 := src_lit (w.alloc (.cells (sm.map u8).toArray 5 (0, 0))) 23 (0, 0) 1 2 2 [.slice sa l.length sc, .slice (some ⟨w.heap.size, 0, none⟩) 4 4] rfl (by omega) (by decide)
  rw [World.size_alloc] at s3
  refine (Concat_ok s3 (HV.out.nw hn1) (s2.nw ((Nw.refl _).alloc _)) (by rw [HL.out]; omega)).mono ?_
  rintro e w1 ⟨v', rfl, q1, q2, q3⟩
  have Q := Lib.hid (NewB.from hn1 (e := .returned v') ⟨v', rfl, q1, q2, q3⟩)
  clear q1 q2 q3 hn0 hn1 s2 s3
  go_wp2
  go_ret
  obtain ⟨v2, h, q⟩ := Q.out
  obtain rfl := Ending.returned.inj h
  rw [HQ.out]
  exact ⟨_, rfl, q⟩

theorem Blob_ok {w : World} {v b : Value} {l k : List UInt8} (hv : Vec 1 w v l.length (l.map u8)) (hb : Bs w b k) (hne : k ≠ [] → ∀ g, b.ownBlock = some g → v.ownBlock ≠ some g) (hl : l.length ≤ 90000000) (hk : k.length ≤ 1000000) :
    Calls Tryz.prog 63 #[v, b] w (GrowB v w (l ++ blobB k)) := by
  have HV := Lib.hid hv
  have HB := Lib.hid hb
  have HNE := Lib.hid hne
  obtain ⟨sa, sc, rfl, -⟩ := hv.len
  obtain ⟨ba, bc, rfl, -⟩ := hb.len
  clear hv hb hne
  have hm : ((k.length : Nat) : Int) % 18446744073709551616 = k.length := by omega
  go_enter Tryz.func63, Tryz.ntmps63
  go_wp2_with fail
  refine (Uint_ok HV.out k.length (by omega) (by omega)).mono ?_
  rintro e w1 ⟨v1, rfl, q1, q2, q3⟩
  have hlen := uintB_len k.length 10 (by omega) (Nat.lt_trans (show k.length < 2 ^ 64 by omega) (by decide))
  obtain ⟨xa, xc, rfl, -⟩ := q1.len
  have HB1 := Lib.hid (HB.out.keep q2 (fun h g hg hx => HNE.out h g hg hx))
  have Q := Lib.hid (And.intro q1 (And.intro q2 q3))
  clear q1 q2 q3 HB
  have hl1 : (l ++ uintB k.length).length ≤ l.length + 10 := by rw [List.length_append]; omega
  have HJ : Hid (l ++ blobB k = (l ++ uintB k.length) ++ k) := Lib.hid (List.append_assoc _ _ _).symm
  clear hlen
  generalize l ++ uintB k.length = l1 at *
  go_wp2_with fail
  have s3 := src_lit w1 23 (0, 0) 1 2 2 [.slice xa l1.length xc, .slice ba k.length bc] rfl (by omega) (by decide)
  have hn := (Nw.refl w1).alloc (.cells #[.slice xa l1.length xc, .slice ba k.length bc] 23 (0, 0))
  refine (Concat_ok s3 (Q.out.1.rd.nw hn) (HB1.out.nw hn) (by omega)).mono ?_
  rintro e w2 ⟨v', rfl, q1, q2, q3⟩
  have P := Lib.hid (And.intro q1 (And.intro (hn.trans q2) q3))
  clear q1 q2 q3 hn s3
  go_wp2
  go_ret
  refine ⟨v', rfl, ?_, ?_, .inr fun g hg => ?_⟩
  · rw [HJ.out]; exact P.out.1
  · exact Q.out.2.1.trans P.out.2.1.only
  · have h1 := P.out.2.2 g hg
    have h2 := Q.out.2.1.size
    simp only [World.size_alloc] at h1
    omega
end Go.Proofs.YtphgiobklbpdeaaGreatDoor
