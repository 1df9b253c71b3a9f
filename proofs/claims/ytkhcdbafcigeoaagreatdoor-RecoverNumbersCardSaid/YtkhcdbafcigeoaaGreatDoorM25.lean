/-
  Texts merged by a program of this claim's: Ref02I, DocA.
-/
import Derived.Test.YtkhcdbafcigeoaaGreatDoorM21
import Derived.Test.YtkhcdbafcigeoaaGreatDoorM22
import Derived.Test.YtkhcdbafcigeoaaGreatDoorM23
import Derived.Test.YtkhcdbafcigeoaaGreatDoorM24
import Derived.Test.YtkhcdbafcigeoaaGreatDoorM6
namespace Go.Proofs.YtkhcdbafcigeoaaGreatDoor
open Go Go.RowKit Go.Sort
set_option maxRecDepth 100000
set_option maxHeartbeats 3200000
section
variable {X : Nat → Prop}
def Off (g : Nat) : List Value → List (Str × DFile) → Prop
  | _, [] => True
  | cs, x :: L => ∃ a b c cs', cs = a :: b :: c :: cs' ∧ (x.2.bytes ≠ [] → b.ownBlock ≠ some g) ∧ Off g cs' L
theorem FCells.keepOff {w w' : World} {g : Nat} (hO : Only (fun k => k = g) w w') : ∀ {L : List (Str × DFile)} {cs : List Value}, FCells X w cs L → Off g cs L → FCells X w' cs L
  | [], _, h, _ => h
  | x :: L, cs, ⟨b, cs', h1, h2, h3⟩, ⟨a1, b1, c1, cs1, e1, e2, e3⟩ => by
    rw [h1] at e1
    injection e1 with e10 e1
    injection e1 with e11 e1
    injection e1 with e12 e1
    subst e11 e1
    exact ⟨b, cs', h1, ⟨h2.1.keep hO (fun hne k hk e => e2 hne (by rw [hk, e])), h2.2⟩, FCells.keepOff hO h3 e3⟩
theorem Off.fresh {w : World} {g : Nat} (hg : w.heap.size ≤ g) : ∀ {L : List (Str × DFile)} {cs : List Value}, FCells X w cs L → Off g cs L
  | [], _, _ => trivial
  | x :: L, cs, ⟨b, cs', h1, h2, h3⟩ => ⟨_, b, _, cs', h1, fun hne e => by have := h2.1.lt hne g e; omega, Off.fresh hg h3⟩
theorem Off.append {g : Nat} : ∀ {L M : List (Str × DFile)} {cs ds : List Value}, Off g cs L → Off g ds M → cs.length = L.length * 3 → Off g (cs ++ ds) (L ++ M)
  | [], _, cs, _, _, h', hl => by
    obtain rfl : cs = [] := List.eq_nil_of_length_eq_zero (by simpa using hl)
    exact h'
  | x :: L, M, cs, ds, ⟨a, b, c, cs', h1, h2, h3⟩, h', hl => ⟨a, b, c, cs' ++ ds, by rw [h1]; rfl, h2, Off.append h3 h' (by rw [h1] at hl; simp at hl; omega)⟩
theorem Off.one {g : Nat} {x : Str × DFile} {a b c : Value} (h : x.2.bytes ≠ [] → b.ownBlock ≠ some g) : Off g [a, b, c] [x] := ⟨a, b, c, [], rfl, h, trivial⟩
theorem rcrash_len : ∀ (L : List (Str × DFile)) (ks : List Int), (rcrashF ks L).length = L.length
  | [], _ => rfl
  | (n, f) :: L, ks => by simp [rcrashF, rcrash_len L]
theorem rcrash_get : ∀ (L : List (Str × DFile)) (ks : List Int) (i : Nat) (h : i < L.length), (rcrashF ks L)[i]'(by rw [rcrash_len]; exact h) = (L[i].1, leaves L[i].2 (ks.getD i 0))
  | [], _, i, h => absurd h (by simp)
  | (n, f) :: L, ks, 0, h => by cases ks <;> simp [rcrashF]
  | (n, f) :: L, ks, i + 1, h => by
    have := rcrash_get L ks.tail i (by simpa using h)
    cases ks <;> simpa [rcrashF] using this
theorem rcrash_take (L : List (Str × DFile)) (ks : List Int) (i : Nat) (h : i < L.length) : (rcrashF ks L).take (i + 1) = (rcrashF ks L).take i ++ [(L[i].1, leaves L[i].2 (ks.getD i 0))] := by
  rw [List.take_succ_eq_append_getElem (by rw [rcrash_len]; exact h), rcrash_get]
structure CGrow (X : Nat → Prop) (W1 wr : World) (v : Value) (acc : List (Str × DFile)) (cs : List Value) : Prop where
  vec : Vec 3 wr v acc.length cs
  cells : FCells X wr cs acc
  off : ∀ g, v.ownBlock = some g → Off g cs acc
  nw : Nw W1 wr
  new : ∀ g, v.ownBlock = some g → W1.heap.size ≤ g
theorem CGrow.push {W1 wr wa w' : World} {v v' b : Value} {acc : List (Str × DFile)} {cs : List Value} {n : Str} {f : DFile} (h : CGrow X W1 wr v acc cs) (hn : Nw wr wa) (hb : BsX X wa b f.bytes) (hbn : ∀ g, b.ownBlock = some g → wr.heap.size ≤ g)
    (hv : Vec 3 w' v' (acc.length + 1) (cs ++ [.string ⟨n.toArray⟩, b, .int .i64 f.synced]))
    (ho : Only (fun k => v.ownBlock = some k) wa w') (hf : v'.ownBlock = v.ownBlock ∨ ∀ g, v'.ownBlock = some g → wa.heap.size ≤ g) : CGrow X W1 w' v' (acc ++ [(n, f)]) (cs ++ [.string ⟨n.toArray⟩, b, .int .i64 f.synced]) := by
  have hlen := h.cells.len
  have hc0 : FCells X wa cs acc := h.cells.nw hn
  have hvl : ∀ g, v.ownBlock = some g → g < wr.heap.size := h.vec.lt
  have hc1 : FCells X w' cs acc := by
    cases hvb : v.ownBlock with
    | none => exact hc0.nw (ho.mono fun k hk e => by rw [hvb] at e; cases e)
    | some g => exact FCells.keepOff (ho.mono fun k hk e => by rw [hvb] at e; exact (Option.some.inj e).symm) hc0 (h.off g hvb)
  have hb1 : BsX X w' b f.bytes := ⟨hb.1.keep ho (fun hne g hg e => by have := hvl g e; have := hbn g hg; omega), hb.2⟩
  refine ⟨by rw [List.length_append]; exact hv, hc1.append (FCells.one hb1), fun g hg => ?_, (h.nw.trans hn).trans' ho (fun k hk e => by have := h.new k e; omega), fun g hg => ?_⟩
  · refine Off.append ?_ (Off.one (fun hne e => ?_)) hlen
    · rcases hf with hf | hf
      · exact h.off g (hf ▸ hg)
      · exact Off.fresh (hf g hg) hc0
    · rcases hf with hf | hf
      · have := hvl g (hf ▸ hg); have := hbn g e; omega
      · have := hf g hg; have := hb.1.lt hne g e; omega
  · rcases hf with hf | hf
    · exact h.new g (hf ▸ hg)
    · exact Nat.le_trans (h.nw.trans hn).size (hf g hg)

theorem rCrash_ok {w : World} {v u : Value} {r : Dsk} (hX : ∀ k, w.heap.size ≤ k → X k) (h : RefD X w v r) (hk : ROk r) (hsy : ∀ x ∈ r.files, x.2.synced ≤ x.2.bytes.length) (ks : List Int) (hks : Rd i64v w u ks) :
    Calls Tryz.prog 52 #[v, u] w fun e w' => ∃ v', e = .returned v' ∧ RefD X w' v' (r.rCrash ks) ∧ Nw w w' := by
  have HX := Lib.hid hX
  clear hX
  obtain ⟨sv, rfl, hFL⟩ := h
  obtain ⟨a, cap, rfl, h1, h2, hel⟩ := hFL.elem
  obtain ⟨most, L, left, down⟩ := r
  obtain ⟨few, used, most0, most1, arm0, arm1⟩ := hk
  simp only at h1 h2 hel few used hsy
  have HFL := Lib.hid hFL
  have HE := Lib.hid hel
  have HSY := Lib.hid hsy
  simp only at HFL
  clear hFL hel hsy
  unfold maxLen at h2
  obtain ⟨ua, uc, rfl, hu1, hu2, hu3⟩ := hks.elems
  have HK := Lib.hid hu3
  clear hks hu3
  unfold maxLen at hu2
  obtain ⟨i0, hi, hz0, hz1, hz2⟩ := info_parts infoFile
  have HI := Lib.hid hi
  have HZ0 := Lib.hid hz0
  have HZ1 := Lib.hid hz1
  have HZ2 := Lib.hid hz2
  clear hi hz0 hz1 hz2
  have TB := two_boxes w #[.int .i64 most, .slice a L.length cap, .int .i64 left, .bool down] #[.int .i64 0, .slice none 0 0, .int .i64 0, .bool false] 43 43
  go_enter Tryz.func52, Tryz.ntmps52
  go_wp2
  generalize (w.alloc (.cells #[.int .i64 most, .slice a L.length cap, .int .i64 left, .bool down] 43)).alloc (.cells #[.int .i64 0, .slice none 0 0, .int .i64 0, .bool false] 43) = W1 at TB ⊢
  obtain ⟨t1, t2, t3, t4⟩ := TB
  have HN1 := Lib.hid t1
  have HB1 := Lib.hid t2
  have HB2 := Lib.hid t3
  have HS1 := Lib.hid t4
  clear t1 t2 t3 t4
  go_loopw [5, 6] (fun v i wr => ∃ (k : Nat) (cs : List Value), k ≤ L.length ∧ i = .int .i64 k ∧ CGrow X W1 wr v ((rcrashF ks L).take k) cs) (fun _ i _ => L.length - (intOf i).toNat)
  case atStart => exact ⟨0, [], Nat.zero_le _, rfl, ⟨Vec.nil, rfl, (fun g hg => by cases hg), Nw.refl _, (fun g hg => by cases hg)⟩⟩
  case round =>
    obtain ⟨k, cs, hk, rfl, hgr⟩ := hrel
    have HG := Lib.hid hgr
    clear hgr
    have hal : ((rcrashF ks L).take k).length = k := by rw [List.length_take, rcrash_len]; omega
    have HAL := Lib.hid hal
    clear hal
    obtain ⟨b0, b1, b2, b3, bf0, bf1, bf2, bf3⟩ := box_cells (HG.out.nw.at_ HB1.out)
    by_cases hlt : k < L.length
    · obtain ⟨g, o, b, rfl, c0, c1, c2, hb⟩ := HE.out k hlt
      have hN := HN1.out.trans HG.out.nw
      have c0 := hN.cell c0
      have c1 := hN.cell c1
      have c2 := hN.cell c2
      obtain ⟨xa, xc, rfl, hxl, hxm, -⟩ := hb.1.elems
      have HBX := Lib.hid hb.1
      have hle := HSY.out L[k] (List.getElem_mem hlt)
      have hul : L[k].2.bytes.length ≤ 16777216 := by
        have := usedF_take L k hlt
        have := usedF_le L (k + 1)
        omega
      have hrt := rcrash_take L ks k hlt
      unfold maxLen at hxm
      clear hb hN
      generalize L[k] = x at *
      obtain ⟨x1, x2, x3⟩ := x
      simp only at c0 c1 c2 hle hul hxl HBX hrt
      have HRT := Lib.hid hrt
      clear hrt
      have HK2 : Hid (ks.length ≤ k → ks.getD k 0 = 0) := Lib.hid (fun h => by simp [List.getD, List.getElem?_eq_none h])
      go_wp2
      have F2 := Lib.hid (heap_alloc_new wr (.cells #[.string ⟨x1.toArray⟩, .slice xa x2.length xc, .int .i64 x3] 143))
      have NA := Lib.hid ((Nw.refl wr).alloc (.cells #[.string ⟨x1.toArray⟩, .slice xa x2.length xc, .int .i64 x3] 143))
      obtain ⟨pf, hpf⟩ : ∃ pf, pf = wr.heap.size := ⟨_, rfl⟩
      rw [← hpf] at F2
      simp only [← hpf]
      generalize wr.alloc (.cells #[.string ⟨x1.toArray⟩, .slice xa x2.length xc, .int .i64 x3] 143) = W2 at F2 NA ⊢
      have HPF := Lib.hid hpf
      clear hpf c0 c1 c2 b0 b1 b2 b3 bf0 bf1 bf2 bf3
      go_loop [8, 9] (fun nv kv => ∃ (m j : Nat), nv = .int .i64 m ∧ kv = .int .i64 j ∧ m = x3 + j ∧ m ≤ x2.length ∧ (j : Int) ≤ max (ks.getD k 0) 0) (fun nv _ => x2.length - (intOf nv).toNat)
      case atStart => exact ⟨x3, 0, rfl, rfl, rfl, hle, by omega⟩
      case round =>
        obtain ⟨m, j, rfl, rfl, hm, hml, hjk⟩ := hrel
        have hmj := Lib.hid hm
        have hjm : j ≤ m := by omega
        obtain ⟨f0, f1, f2, ff0, ff1, ff2⟩ := box_cells3 F2.out
        obtain ⟨N, hN⟩ : ∃ N, N = x3 + min (ks.getD k 0).toNat (x2.length - x3) := ⟨_, rfl⟩
        have key : (∃ (hki : k < ks.length), (j : Int) < ks[k] ∧ m < x2.length) ∨ (m = N ∧ (ks.length ≤ k ∨ ∃ (hki : k < ks.length), (ks[k] ≤ (j : Int) ∨ ((j : Int) < ks[k] ∧ x2.length ≤ m)))) := by
          by_cases hki : k < ks.length
          · have e : ks.getD k 0 = ks[k] := by simp [List.getD, hki]
            rw [e] at hN hjk
            by_cases h1 : (j : Int) < ks[k]
            · by_cases h2 : m < x2.length
              · exact .inl ⟨hki, h1, h2⟩
              · exact .inr ⟨by omega, .inr ⟨hki, .inr ⟨h1, by omega⟩⟩⟩
            · exact .inr ⟨by omega, .inr ⟨hki, .inl (by omega)⟩⟩
          · have e := HK2.out (by omega)
            rw [e] at hN hjk
            exact .inr ⟨by omega, .inl (by omega)⟩
        have HNN := Lib.hid hN
        have HJK := Lib.hid hjk
        clear hN hm hjk
        rcases key with ⟨hki, h1, h2⟩ | ⟨hmN, hex⟩
        · obtain ⟨g2, o2, rfl, -, ck⟩ := HK.out k hki
          have ck := NA.out.cell (HG.out.nw.cell (HN1.out.cell ck))
          have e : ks.getD k 0 = ks[k] := by simp [List.getD, hki]
          have E := Lib.hid e
          generalize ks[k] = kk at *
          have hks : (k : Int) < (ks.length : Int) := by omega
          have hk0 : (0 : Int) ≤ (k : Int) := by omega
          clear e
          go_wp2
          go_round
          case rel => exact ⟨m + 1, j + 1, by go_num, by go_num, by have := hmj.out; omega, by omega, by rw [E.out]; omega⟩
          case measure => simp [intOf]; omega
        · have HMN := Lib.hid hmN
          clear hmN
          have R9 := Lib.hid (HBX.out.take hml)
          have hsl : ∀ w, (Instr.slice 23 (.slice xa x2.length xc) none (some (.int .i64 m)) none).run Tryz.prog w = .ok (sliced xa 0 m xc 1) w := fun w => by
            have h1 : (m : Int) ≤ (xc : Int) := by omega
            have h2 : (0 : Int) ≤ (m : Int) := by omega
            go_simp
          generalize sliced xa 0 m xc 1 = s9 at R9 hsl
          obtain ⟨J, hJ⟩ : ∃ J, J = x2.take m := ⟨_, rfl⟩
          rw [← hJ] at R9
          have hJl : J.length = m := by rw [hJ, List.length_take]; omega
          have hJl2 : J.length ≤ 16777216 := by omega
          have HJ := Lib.hid hJ
          have HJL := Lib.hid hJl
          have N2 := Lib.hid ((HN1.out.trans HG.out.nw).trans NA.out)
          have JO := joined_ok (R9.out.nw N2.out) (.inl ⟨none, rfl, rfl⟩ : Bs W2 (.slice none 0 0) []) (by simp; omega)
          rw [List.append_nil] at JO
          have JO := Lib.hid JO
          have hN0 : (m : Int) < (x2.length : Int) ∨ True := .inr trivial
          have hpf2 : pf < W2.heap.size := lt_of_block F2.out
          clear hJ hJl hN0
          have hexs : (ks.length ≤ k) ∨ (k < ks.length ∧ ∃ kk : Int, ∃ g2 o2, ua = some ⟨g2, o2, none⟩ ∧ W2.cell? ⟨g2, o2 + k, none⟩ = some (.int .i64 kk) ∧ (kk ≤ (j : Int) ∨ ((j : Int) < kk ∧ x2.length ≤ m))) := by
            rcases hex with hex | ⟨hki, hex⟩
            · exact .inl hex
            · obtain ⟨g2, o2, e, -, ck⟩ := HK.out k hki
              exact .inr ⟨hki, ks[k], g2, o2, e, NA.out.cell (HG.out.nw.cell (HN1.out.cell ck)), hex⟩
          clear hex
          have hk0 : (0 : Int) ≤ (k : Int) := by omega
          rcases hexs with hex | ⟨hki, kk, g2, o2, rfl, ck, hex | ⟨hex, hex2⟩⟩
          all_goals
            go_upto_region 11 with fail
            go_wp2_with fail
            refine JO.out.mono ?_
            rintro e w6 ⟨v6, rfl, hv6, n6, hnew6⟩
            have V6 := Lib.hid hv6
            have NEW6 := Lib.hid hnew6
            have N6 := Lib.hid n6
            obtain ⟨a6, c6, rfl, -⟩ := hv6.len
            clear f0 f1 f2 ff0 ff1 ff2 hv6 n6 hnew6 hsl
            obtain ⟨f0, f1, f2, ff0, ff1, ff2⟩ := box_cells3 (N6.out.at_ F2.out)
            go_upto_region 13 with fail
            generalize hW7 : (w6.setCell ⟨pf, 1, none⟩ (.slice a6 J.length c6)).setCell ⟨pf, 2, none⟩ (.int .i64 m) = W7
            have HO7 : Hid (Only (fun k => k = pf) w6 W7) := Lib.hid (by
              rw [← hW7]
              refine Only.setCell (S := fun k => k = pf) (p := ⟨pf, 2, none⟩) ?_ (fun _ => rfl) _
              exact Only.setCell (S := fun k => k = pf) (p := ⟨pf, 1, none⟩) (Only.refl w6) (fun _ => rfl) _)
            have F7 : Hid (W7.heap[pf]? = some (.cells #[.string ⟨x1.toArray⟩, .slice a6 J.length c6, .int .i64 m] 143 (0, 0))) := Lib.hid (by
              rw [← hW7]
              have := heap_setCell_at (heap_setCell_at (N6.out.at_ F2.out) 1 (.slice a6 J.length c6)) 2 (.int .i64 m)
              simpa using this)
            have N7 : Hid (Nw wr W7) := Lib.hid ((NA.out.trans N6.out).trans' HO7.out (fun k hk e => by have := HPF.out; omega))
            have BB : Hid (BsX X W7 (.slice a6 J.length c6) J) := Lib.hid (by
              refine ⟨?_, fun _ g hg => HX.out g (by have := NEW6.out g hg; have := NA.out.size; have := HG.out.nw.size; have := HN1.out.size; omega)⟩
              have h1 := V6.out.keep HO7.out.size (fun g hg => HO7.out.block g (V6.out.lt g hg) (fun e => by have := NEW6.out g hg; omega))
              exact Vec.rd (f := Go.Proofs.YtkhcdbafcigeoaaGreatDoor.u8) h1)
            clear hW7 f0 f1 f2 ff0 ff1 ff2
            obtain ⟨f0, f1, f2, ff0, ff1, ff2⟩ := box_cells3 F7.out
            have NL := Lib.hid (N7.out.trans ((Nw.refl W7).alloc (.cells #[.string ⟨x1.toArray⟩, .slice a6 J.length c6, .int .i64 m] 143)))
            have V2 := Lib.hid (HG.out.vec.nw NL.out)
            rw [HAL.out] at V2
            have S2 : Hid (SrcV 3 (W7.alloc (.cells #[.string ⟨x1.toArray⟩, .slice a6 J.length c6, .int .i64 m] 143)) (.slice (some ⟨W7.heap.size, 0, none⟩) 1 1) 1 [.string ⟨x1.toArray⟩, .slice a6 J.length c6, .int .i64 m]) := Lib.hid (src3 W7 x1 _ m _)
            have HONE : Hid (FCells X W7 [.string ⟨x1.toArray⟩, .slice a6 J.length c6, .int .i64 m] [(x1, ⟨J, m⟩)]) := Lib.hid (FCells.one (f := ⟨J, m⟩) BB.out)
            go_wp2_with (at_builtin; refine wpList_append_vec rfl _ _ 41 rfl 143 i0 (.agg #[.string ⟨#[]⟩, .slice none 0 0, .int .i64 0]) 3 48 Tryz.underlying41 HI.out HZ0.out HZ1.out HZ2.out rfl (by decide) rfl rfl V2.out S2.out HONE.out.one_cell ?_ ?_ ?_)
            · simp [maxLen]; omega
            · omega
            intro v' w' hv' ho hf
            have HP := Lib.hid (HG.out.push (b := .slice a6 J.length c6) (n := x1) (f := ⟨J, m⟩) NL.out (BB.out.nw ((Nw.refl W7).alloc _)) (fun g hg => by have := NEW6.out g hg; have := NA.out.size; omega) (by rw [HAL.out]; exact hv') ho (hf.imp id (fun h g hg => by have := h g hg; simpa using this)))
            clear hv' ho hf
            have e3 : (x1, leaves (⟨x2, x3⟩ : DFile) (ks.getD k 0)) = (x1, (⟨J, m⟩ : DFile)) := by
              rw [HJ.out, HMN.out, HNN.out]; rfl
            have E3 := Lib.hid e3
            clear e3
            go_wp2
            go_roundw
            case rel => exact ⟨k + 1, _, by omega, by go_num, by rw [HRT.out, E3.out]; exact HP.out⟩
            case measure => simp [intOf]; omega
    · have e : (rcrashF ks L).take k = rcrashF ks L := List.take_of_length_le (by rw [rcrash_len]; omega)
      rw [e] at HG
      obtain ⟨va, vc, hvv, -⟩ := HG.out.vec.len
      subst hvv
      obtain ⟨r0, r1, r2, r3, rf0, rf1, rf2, rf3⟩ := box_cells (HG.out.nw.at_ HB2.out)
      have hsz : w.heap.size + 1 < wr.heap.size := by have := HG.out.nw.size; have := HS1.out; omega
      clear e HAL
      generalize hM : rcrashF ks L = M at *
      have HM := Lib.hid hM
      clear hM
      have HFO : Hid (FL X wr (.slice va M.length vc) M) := Lib.hid ⟨cs, HG.out.vec.src, HG.out.cells, fun _ g hg => HX.out g (by have := HG.out.new g hg; have := HN1.out.size; omega)⟩
      have hO1 : Only (fun k => k = w.heap.size) wr (((wr.setCell ⟨w.heap.size, 1, none⟩ (.slice va M.length vc)).setCell ⟨w.heap.size, 3, none⟩ (.bool false)).setCell ⟨w.heap.size, 2, none⟩ (.int .i64 (-1))) := by
        refine Only.setCell (S := fun k => k = w.heap.size) (p := ⟨w.heap.size, 2, none⟩) ?_ (fun _ => rfl) _
        refine Only.setCell (S := fun k => k = w.heap.size) (p := ⟨w.heap.size, 3, none⟩) ?_ (fun _ => rfl) _
        exact Only.setCell (S := fun k => k = w.heap.size) (p := ⟨w.heap.size, 1, none⟩) (Only.refl wr) (fun _ => rfl) _
      have HO1 := Lib.hid hO1
      have HFP := Lib.hid (HFO.out.box (HG.out.nw.at_ HB1.out) hO1)
      have HQ1 := Lib.hid (hO1.at_ (HG.out.nw.at_ HB2.out) (by omega))
      have HFQ := Lib.hid (HFP.out.box HQ1.out (only_set4q _ (w.heap.size + 1) (.int .i64 most) (.slice va M.length vc) (.int .i64 (-1)) (.bool false)))
      clear hO1
      go_wp2
      refine bodyPost_ret (v := .agg #[.int .i64 most, .slice va M.length vc, .int .i64 (-1), .bool false]) (by simp [results, Tryz.results52, go_sem, r0, r1, r2, r3]) rfl ?_
      have hN := ((HN1.out.trans HG.out.nw).trans' HO1.out (fun k hk e => by omega)).trans' (only_set4q _ (w.heap.size + 1) (.int .i64 most) (.slice va M.length vc) (.int .i64 (-1)) (.bool false)) (fun k hk e => by omega)
      exact ⟨_, rfl, ⟨.slice va M.length vc, rfl, by show FL X _ _ (rcrashF ks L); rw [HM.out]; exact HFQ.out⟩, hN⟩
end
end Go.Proofs.YtkhcdbafcigeoaaGreatDoor

namespace Go.Proofs.YtkhcdbafcigeoaaGreatDoor
open Go Go.RowKit Go.Sort
set_option maxRecDepth 100000
set_option maxHeartbeats 1600000
theorem mem_getF : ∀ {L : List (Str × DFile)} {n : Str} {f : DFile}, getF L n = some f → (n, f) ∈ L
  | [], _, _, h => by simp [getF] at h
  | (k, g) :: L, n, f, h => by
    by_cases e : k = n
    · simp only [getF, if_pos e] at h
      obtain rfl := Option.some.inj h
      rw [e]; exact List.mem_cons_self
    · simp only [getF, if_neg e] at h
      exact List.mem_cons_of_mem _ (mem_getF h)
theorem RefOf.sy {d r : Dsk} (h : RefOf d r) (ok : d.Ok) : ∀ x ∈ r.files, x.2.synced ≤ x.2.bytes.length := by
  intro x hx
  obtain ⟨k, hk, rfl⟩ := List.getElem_of_mem hx
  have := getF_at (srt_nodup h.srt) k hk
  rw [h.get] at this
  exact ok.synced _ (mem_getF this)
def RD (X : Nat → Prop) (w : World) (v : Value) (d : Dsk) : Prop := d.Ok ∧ ∃ r, RefD X w v r ∧ RefOf d r
section
variable {X Y S : Nat → Prop} {w w' : World} {v : Value} {d d' : Dsk}
theorem RD.ok (h : RD X w v d) : d.Ok := h.1
theorem RD.nw (h : RD X w v d) (hw : Nw w w') : RD X w' v d := ⟨h.1, h.2.elim fun r hr => ⟨r, hr.1.nw hw, hr.2⟩⟩
theorem RD.mono (h : RD X w v d) (hy : ∀ k, X k → Y k) : RD Y w v d := ⟨h.1, h.2.elim fun r hr => ⟨r, hr.1.mono hy, hr.2⟩⟩
theorem RD.narrow (h : RD X w v d) : RD (fun k => X k ∧ k < w.heap.size) w v d := ⟨h.1, h.2.elim fun r hr => ⟨r, hr.1.narrow, hr.2⟩⟩
theorem RD.put (h : RD X w v d) (hw : Only S w w') (hs : ∀ k, X k → k < w.heap.size → ¬ S k) : RD X w' v d :=
  ⟨h.1, h.2.elim fun r hr => ⟨r, hr.1.kept ⟨hw.size, fun k hk hl => hw.block k hl (hs k hk hl)⟩, hr.2⟩⟩
theorem RD.parts (h : RD X w v d) : ∃ (m : Int) (a : Option Addr) (n c : Nat) (la : Int) (dn : Bool), v = .agg #[.int .i64 m, .slice a n c, .int .i64 la, .bool dn] := by
  obtain ⟨-, r, hr, -⟩ := h
  obtain ⟨a, c, rfl⟩ := hr.parts
  exact ⟨_, _, _, _, _, _, rfl⟩
def RDE (X : Nat → Prop) (w : World) (d' : Dsk) (x : Int) (e : Ending) (w' : World) : Prop :=
  ∃ (m : Int) (a : Option Addr) (n c : Nat) (la : Int) (dn : Bool), e = .returned (.tuple #[.agg #[.int .i64 m, .slice a n c, .int .i64 la, .bool dn], .int .i64 x]) ∧ RD X w' (.agg #[.int .i64 m, .slice a n c, .int .i64 la, .bool dn]) d' ∧ Nw w w'
theorem RDE.of {P : Program} {f : FuncId} {args : Array Value} {x : Int} {r' : Dsk} (ok : d'.Ok) (ho : RefOf d' r') (h : Calls P f args w fun e w' => ∃ v', e = .returned (.tuple #[v', .int .i64 x]) ∧ RefD X w' v' r' ∧ Nw w w') : Calls P f args w (RDE X w d' x) := by
  refine h.mono ?_
  rintro e w' ⟨v', rfl, h1, h2⟩
  obtain ⟨a, c, rfl⟩ := h1.parts
  exact ⟨_, _, _, _, _, _, rfl, ⟨ok, r', h1, ho⟩, h2⟩
theorem RD.append (h : RD X w v d) (hX : ∀ k, w.heap.size ≤ k → X k) {u : Value} {n : Str} {l : List UInt8} (hn : n.length ≤ 9223372036854775807) (hl : Bs w u l) (hll : l.length ≤ 16777216) {x : Int} (hr : d.append n l = (d', x)) :
    Calls Tryz.prog 56 #[v, .string ⟨n.toArray⟩, u] w (RDE X w d' x) := by
  obtain ⟨ok, r, h1, h2⟩ := h
  obtain ⟨r', hr', ho'⟩ := ref_append ok h2 hr
  have := rAppend_ok hX h1 (ROk.of ok h2) n hn l hl hll
  rw [hr'] at this
  exact RDE.of (ok_append ok hr) ho' this
theorem RD.sync (h : RD X w v d) (hX : ∀ k, w.heap.size ≤ k → X k) {n : Str} {x : Int} (hr : d.sync n = (d', x)) :
    Calls Tryz.prog 114 #[v, .string ⟨n.toArray⟩] w (RDE X w d' x) := by
  obtain ⟨ok, r, h1, h2⟩ := h
  obtain ⟨r', hr', ho'⟩ := ref_sync h2 hr
  have := rSync_ok hX h1 (ROk.of ok h2) n
  rw [hr'] at this
  exact RDE.of (ok_sync ok hr) ho' this
theorem RD.remove (h : RD X w v d) (hX : ∀ k, w.heap.size ≤ k → X k) {n : Str} {x : Int} (hr : d.remove n = (d', x)) :
    Calls Tryz.prog 100 #[v, .string ⟨n.toArray⟩] w (RDE X w d' x) := by
  obtain ⟨ok, r, h1, h2⟩ := h
  obtain ⟨r', hr', ho'⟩ := ref_remove ok h2 hr
  have := rRemove_ok hX h1 (ROk.of ok h2) n
  rw [hr'] at this
  exact RDE.of (ok_remove ok hr) ho' this
theorem RD.rename (h : RD X w v d) (hX : ∀ k, w.heap.size ≤ k → X k) {n m : Str} (hm : m.length ≤ 9223372036854775807) {x : Int} (hr : d.rename n m = (d', x)) :
    Calls Tryz.prog 158 #[v, .string ⟨n.toArray⟩, .string ⟨m.toArray⟩] w (RDE X w d' x) := by
  obtain ⟨ok, r, h1, h2⟩ := h
  obtain ⟨r', hr', ho'⟩ := ref_rename ok h2 hr
  have := rRename_ok hX h1 (ROk.of ok h2) n m hm
  rw [hr'] at this
  exact RDE.of (ok_rename ok hr) ho' this
theorem RD.cut (h : RD X w v d) (hX : ∀ k, w.heap.size ≤ k → X k) {n : Str} {k : Int} {x : Int} (hr : d.cut n k = (d', x)) :
    Calls Tryz.prog 99 #[v, .string ⟨n.toArray⟩, .int .i64 k] w (RDE X w d' x) := by
  obtain ⟨ok, r, h1, h2⟩ := h
  obtain ⟨r', hr', ho'⟩ := ref_cut h2 hr
  have := rCut_ok hX h1 (ROk.of ok h2) n k
  rw [hr'] at this
  exact RDE.of (ok_cut ok hr) ho' this
def RD1 (X : Nat → Prop) (w : World) (d' : Dsk) (e : Ending) (w' : World) : Prop :=
  ∃ (m : Int) (a : Option Addr) (n c : Nat) (la : Int) (dn : Bool), e = .returned (.agg #[.int .i64 m, .slice a n c, .int .i64 la, .bool dn]) ∧ RD X w' (.agg #[.int .i64 m, .slice a n c, .int .i64 la, .bool dn]) d' ∧ Nw w w'
theorem RD.arm (h : RD X w v d) {k : Int} (hk : k ≤ 9223372036854775807) : Calls Tryz.prog 37 #[v, .int .i64 k] w (RD1 X w (d.armed k)) := by
  obtain ⟨ok, r, h1, h2⟩ := h
  refine (rArm_ok h1 k).mono ?_
  rintro e w' ⟨v', rfl, g1, g2⟩
  obtain ⟨a, c, rfl⟩ := g1.parts
  exact ⟨_, _, _, _, _, _, rfl, ⟨ok.armed k hk, _, g1, ref_arm h2 k⟩, g2⟩
theorem RD.crash (h : RD X w v d) (hX : ∀ k, w.heap.size ≤ k → X k) {u : Value} {ks : List Int} (hks : Rd i64v w u ks) : Calls Tryz.prog 52 #[v, u] w (RD1 X w (d.crash ks)) := by
  obtain ⟨ok, r, h1, h2⟩ := h
  refine (rCrash_ok hX h1 (ROk.of ok h2) (h2.sy ok) ks hks).mono ?_
  rintro e w' ⟨v', rfl, g1, g2⟩
  obtain ⟨a, c, rfl⟩ := g1.parts
  exact ⟨_, _, _, _, _, _, rfl, ⟨ok_crash ok ks, _, g1, ref_crash ok h2 ks⟩, g2⟩
theorem RD.read (h : RD X w v d) {n : Str} {l : List UInt8} {x : Int} (hr : d.read n = (l, x)) :
    Calls Tryz.prog 90 #[v, .string ⟨n.toArray⟩] w fun e w' => ∃ a c, e = .returned (.tuple #[.slice a l.length c, .int .i64 x]) ∧ Bs w' (.slice a l.length c) l ∧ Nw w w' := by
  obtain ⟨ok, r, h1, h2⟩ := h
  have := rRead_ok h1 n
  rw [ref_read h2, hr] at this
  refine Calls.mono this ?_
  rintro e w' ⟨v', rfl, g1, g2⟩
  obtain ⟨a, c, rfl, -⟩ := Rd.len g1
  exact ⟨a, c, rfl, g1, g2⟩
end
end Go.Proofs.YtkhcdbafcigeoaaGreatDoor
