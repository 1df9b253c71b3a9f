/-
  amanuensislaw02.DiskMore: a crash that keeps more leaves of each file a longer begin of it, or as much.
-/
import Derived.Test.YtihagdadbeoeoaaDoorPlayed
import Derived.Test.YtihagdadbeoeoaaDoorFacts
import Derived.Test.YtihagdadbeoeoaaDoorAwake
import Derived.Test.YtihagdadbeoeoaaDoorClose
import Derived.Test.YtihagdadbeoeoaaDoorCut
namespace Go.Proofs.YtihagdadbeoeoaaDoor.DiskMore
open Go Go.RowKit Go.Sort
set_option maxRecDepth 100000
set_option maxHeartbeats 1600000

/-! ### Plain -/
theorem crashF_rep (k : Int) : ∀ (ns : List Str) (n : Nat) (L : List (Str × DFile)), ns.Nodup → ns.length ≤ n → ∀ m, fileOf (crashF ns (List.replicate n k) L) m = if m ∈ ns then leaves (fileOf L m) k else fileOf L m
  | [], _, _, _, _, m => by simp [crashF]
  | a :: ns, 0, _, _, h, _ => by simp at h
  | a :: ns, n + 1, L, hn, hl, m => by
    simp only [List.nodup_cons] at hn
    simp only [List.length_cons] at hl
    simp only [crashF, List.replicate_succ, List.tail_cons, List.headD_cons]
    rw [crashF_rep k ns n _ hn.2 (by omega) m, fileOf_setF]
    by_cases hm : a = m
    · subst hm
      simp [hn.1]
    · simp [hm, Ne.symm hm]
theorem read_of {d : Dsk} (hd : d.down = false) {n : Str} (hn : n ∈ namesF d.files) : d.read n = ((fileOf d.files n).bytes, 0) := by
  unfold Dsk.read
  rw [hd]
  cases hg : getF d.files n with
  | none => exact absurd hn ((getF_none _ _).1 hg)
  | some f => simp [fileOf, hg]
theorem list_nodup {d : Dsk} (ok : d.Ok) : d.list.Nodup := (List.mergeSort_perm _ _).nodup_iff.2 ok.names
theorem list_le {d : Dsk} (ok : d.Ok) : d.list.length ≤ 200 := by
  have hp : d.list.Perm (namesF d.files) := List.mergeSort_perm _ _
  rw [hp.length_eq]
  simpa [namesF] using ok.few
theorem crash_rep {d : Dsk} (ok : d.Ok) (k : Int) {n : Str} (hn : n ∈ d.list) : (d.crash (List.replicate 200 k)).read n = ((leaves (fileOf d.files n) k).bytes, 0) := by
  rw [read_of rfl (by rw [crash_names]; exact mem_list.1 hn)]
  show ((fileOf (crashF d.list (List.replicate 200 k) d.files) n).bytes, 0) = _
  rw [crashF_rep k _ _ _ (list_nodup ok) (list_le ok), if_pos hn]
theorem leaves_more (f : DFile) (k j : Int) (h : k ≤ j) : (leaves f k).bytes.length ≤ (leaves f j).bytes.length ∧ (leaves f k).bytes = (leaves f j).bytes.take (leaves f k).bytes.length := by
  simp only [leaves]
  have h1 : min k.toNat (f.bytes.length - f.synced) ≤ min j.toNat (f.bytes.length - f.synced) := by omega
  generalize min k.toNat (f.bytes.length - f.synced) = x at *
  generalize min j.toNat (f.bytes.length - f.synced) = y at *
  refine ⟨by simp only [List.length_take]; omega, ?_⟩
  rw [List.take_take, List.length_take]
  by_cases hx : f.synced + x ≤ f.bytes.length
  · congr 1; omega
  · rw [List.take_of_length_le (by omega), List.take_of_length_le (by omega)]

/-! ### The two lists of numbers -/
theorem i64_one (z : Int) : (i64v z).oneCell' = true := rfl
theorem infoInt : (Tryd.prog.info? 3).map (fun i => (i.zero, i.size, i.bytes)) = some (some (.int .i64 0), 1, 8) := by kernel_rfl
structure Rel (w wr : World) (keep more : Int) (a b : Nat) (D : Dsk) (v u : Value) (i j : Nat) : Prop where
  r1 : RowF i64v 3 wr v (List.replicate i keep)
  r2 : RowF i64v 3 wr u (List.replicate j more)
  n1 : ∀ g, v.ownBlock = some g → w.heap.size ≤ g
  n2 : ∀ g, u.ownBlock = some g → w.heap.size ≤ g
  ne : ∀ g, v.ownBlock = some g → u.ownBlock ≠ some g
  two : Two (fun g => v.ownBlock = some g ∨ u.ownBlock = some g) w wr a D b D
section
variable {w wr w1 w2 : World} {keep more : Int} {a b : Nat} {D : Dsk} {v u v' : Value} {i j : Nat}
theorem Rel.symm (h : Rel w wr keep more a b D v u i j) : Rel w wr more keep a b D u v j i :=
  ⟨h.r2, h.r1, h.n2, h.n1, fun g hg hv => h.ne g hv hg, h.two.weak fun _ hk => hk.symm⟩
theorem Rel.nw (h : Rel w wr keep more a b D v u i j) (hw : Nw wr w1) : Rel w w1 keep more a b D v u i j :=
  ⟨h.r1.keep fun g hg => hw.block g (h.r1.lt g hg) (fun hf => hf), h.r2.keep fun g hg => hw.block g (h.r2.lt g hg) (fun hf => hf), h.n1, h.n2, h.ne, h.two.nw hw⟩
theorem Rel.push (h : Rel w w1 keep more a b D v u i j) (hr : RowF i64v 3 w2 v' (List.replicate i keep ++ [keep])) (ho : Only (fun k => v.ownBlock = some k) w1 w2)
    (hf : v'.ownBlock = v.ownBlock ∨ ∀ g, v'.ownBlock = some g → w1.heap.size ≤ g) : Rel w w2 keep more a b D v' u (i + 1) j := by
  refine ⟨by rw [List.replicate_succ']; exact hr, h.r2.keep fun g hg => ho.block g (h.r2.lt g hg) (fun e => h.ne g e hg), fun g hg => ?_, h.n2, fun g hg hu => ?_, ?_⟩
  · rcases hf with hf | hf
    · exact h.n1 g (hf ▸ hg)
    · exact Nat.le_trans h.two.base.size (hf g hg)
  · rcases hf with hf | hf
    · exact h.ne g (hf ▸ hg) hu
    · have := hf g hg; have := h.r2.lt g hu; omega
  · refine h.two.put ho (fun k hk _ => ⟨.inl hk, h.n1 k hk⟩) fun k hk => ?_
    rcases hk with hk | hk
    · rcases hf with hf | hf
      · exact .inl (.inl (hf ▸ hk))
      · exact .inr ⟨hf k hk, hr.lt k hk⟩
    · exact .inl (.inr hk)
end

theorem walk (w : World) (v0 : Value) (ops : List OpR) (keep : Int) (more : UInt8) (h0 : RdK 6 (isOp w) w v0 ops) (hb : -9223372036854775808 ≤ keep ∧ keep ≤ 9223372036854775807) :
    Calls Tryd.prog 10 #[v0, .int .i64 keep, u8 more] w fun e w' => e = .returned (.bool true) ∧ Nw w w' := by
  have H0 := Lib.hid h0
  clear h0
  have AW := Lib.hid (fun w => awake_ok w)
  obtain ⟨b0, b1⟩ := hb
  obtain ⟨a0, c0, hv0, -⟩ := H0.out.len
  by_cases hbig : 1099511627776 < keep
  · go_enter Tryd.func10, Tryd.ntmps10
    go_wp2_with fail
    refine (AW.out _).mono ?_
    rintro e w1 ⟨rfl, n1⟩
    go_wp2
    go_ret
    exact ⟨rfl, n1⟩
  have hm : more.toNat < 256 := more.toNat_lt
  obtain ⟨mn, hmn⟩ : ∃ mn : Nat, more.toNat = mn := ⟨_, rfl⟩
  have hu8 : u8 more = .int .u8 (mn : Int) := by rw [← hmn]; rfl
  rw [hmn] at hm
  rw [hu8]
  clear hmn hu8
  have hbig' : keep ≤ 1099511627776 := by omega
  clear hbig hv0
  obtain ⟨i0, hi, hz0, hz1, hz2⟩ := info_parts infoInt
  have HI := Lib.hid hi
  have HZ0 := Lib.hid hz0
  have HZ1 := Lib.hid hz1
  have HZ2 := Lib.hid hz2
  clear hi hz0 hz1 hz2
  go_enter Tryd.func10, Tryd.ntmps10
  go_wp2_with fail
  refine (played_ok w v0 1000 ops (by omega) (by omega) H0.out).mono ?_
  rintro e w1 ⟨a, b, rfl, T1⟩
  generalize (newDsk 1000).plays (ops.take 50) = P at T1
  have OK := Lib.hid T1.fst.ok
  have T1 := Lib.hid T1
  go_wp2
  go_loopw [9, 10, 11] (fun v u i wr => ∃ k : Nat, k ≤ 200 ∧ i = .int .i64 k ∧ Rel w wr keep (keep + mn) a b P v u k k) (fun _ _ i _ => 200 - (intOf i).toNat)
  case atStart => exact ⟨0, by omega, rfl, ⟨RowF.nil, RowF.nil, (fun g hg => by cases hg), (fun g hg => by cases hg), (fun g hg => by cases hg), T1.out.weak (fun k hk => by rcases hk with hk | hk <;> cases hk)⟩⟩
  case round =>
    obtain ⟨k, hk, rfl, hrl⟩ := hrel
    have HR := Lib.hid hrl
    clear hrl
    by_cases hlt : k < 200
    · have R1 := Lib.hid (HR.out.nw ((Nw.refl wr).alloc (.cells #[.int .i64 keep] 3)))
      have S1 : Hid (Rd i64v (wr.alloc (.cells #[.int .i64 keep] 3)) (.slice (some ⟨wr.heap.size, 0, none⟩) 1 1) [keep]) := Lib.hid (rd_lit (f := i64v) wr _ _ [keep] _ 1 rfl (Nat.le_refl 1) (by decide))
      go_wp2_with (at_builtin; refine wpList_append_row i64_one rfl _ _ 23 rfl 3 i0 (.int .i64 0) 8 Tryd.underlying23 HI.out HZ0.out HZ1.out HZ2.out rfl rfl rfl R1.out.r1 S1.out ?c1 ?c2 ?_)
      case c1 => simp [maxLen]; omega
      case c2 => simp; omega
      intro v' w2 hr ho hf _
      have R2 := Lib.hid (R1.out.push hr ho (hf.imp id (fun h g hg => by have := h g hg; simpa using this)))
      clear hr ho hf R1 S1
      have R3 := Lib.hid (R2.out.nw ((Nw.refl w2).alloc (.cells #[.int .i64 (keep + mn)] 3))).symm
      have S3 : Hid (Rd i64v (w2.alloc (.cells #[.int .i64 (keep + mn)] 3)) (.slice (some ⟨w2.heap.size, 0, none⟩) 1 1) [keep + mn]) := Lib.hid (rd_lit (f := i64v) w2 _ _ [keep + (mn : Int)] _ 1 rfl (Nat.le_refl 1) (by decide))
      go_wp2_with (at_builtin; refine wpList_append_row i64_one rfl _ _ 23 rfl 3 i0 (.int .i64 0) 8 Tryd.underlying23 HI.out HZ0.out HZ1.out HZ2.out rfl rfl rfl R3.out.r1 S3.out ?c3 ?c4 ?_)
      case c3 => simp [maxLen]; omega
      case c4 => simp; omega
      intro v2 w3 hr ho hf _
      have R4 := Lib.hid (R3.out.push hr ho (hf.imp id (fun h g hg => by have := h g hg; simpa using this))).symm
      clear hr ho hf R3 S3
      go_wp2
      go_roundw
      case rel => exact ⟨k + 1, by omega, by go_num, R4.out⟩
      case measure => simp [intOf]; omega
    · obtain rfl : k = 200 := by omega
      obtain ⟨L, hL⟩ : ∃ L, P.list = L := ⟨_, rfl⟩
      have HL := Lib.hid hL
      clear hL
      have HS := Lib.hid (fun n (hn : n ∈ L) => And.intro (crash_rep OK.out keep (n := n) (by rw [HL.out]; exact hn)) (crash_rep OK.out (keep + mn) (n := n) (by rw [HL.out]; exact hn)))
      have HL1 : Hid ((P.crash (List.replicate 200 keep)).list = L) := Lib.hid (by rw [crash_list]; exact HL.out)
      have HL2 : Hid ((P.crash (List.replicate 200 (keep + (mn : Int)))).list = L) := Lib.hid (by rw [crash_list]; exact HL.out)
      go_wp2_with fail
      refine (HR.out.two.step (fun Y hXY hY => hY.crash _ (List.replicate 200 keep) HR.out.r1.rd (fun _ g hg => .inl (hXY g (.inl hg))) rfl)).mono ?_
      rintro e w2 ⟨rfl, T2, K2⟩
      have T2 := Lib.hid T2
      have K2 := Lib.hid K2
      go_wp2_with fail
      refine (T2.out.symm.step (fun Y hXY hY => hY.crash _ (List.replicate 200 (keep + (mn : Int))) (HR.out.r2.rd.kept K2.out (fun _ g hg => .inr hg)) (fun _ g hg => .inl (hXY g (.inr hg))) rfl)).mono ?_
      rintro e w3 ⟨rfl, T3, -⟩
      have T3 := Lib.hid T3.symm
      clear T2 K2 HR
      generalize P.crash (List.replicate 200 keep) = A at T3 HL1 HS
      generalize P.crash (List.replicate 200 (keep + (mn : Int))) = B at T3 HL2 HS
      go_wp2_with fail
      refine (T3.out.fst.list HL1.out).mono ?_
      rintro e w4 ⟨v4, rfl, s4, n4, -⟩
      have T4 := Lib.hid (T3.out.nw n4)
      have S4 := Lib.hid s4
      clear s4 n4 T3
      go_wp2_with fail
      refine (T4.out.symm.fst.list HL2.out).mono ?_
      rintro e w5 ⟨v5, rfl, s5, n5, -⟩
      have T5 := Lib.hid (T4.out.nw n5)
      have S5 := Lib.hid s5
      have N5 := Lib.hid n5
      clear s5 n5 T4
      go_wp2_with fail
      refine (SameTexts_ok (S4.out.nw N5.out) S5.out).mono ?_
      rintro e w6 ⟨rfl, n6⟩
      rw [show (L == L) = true by simp]
      have T6 := Lib.hid (T5.out.nw n6)
      have S6 := Lib.hid ((S4.out.nw N5.out).nw n6)
      clear n6 N5 S4 S5 T5
      obtain ⟨sa, cap, rfl, q1, q2, hel⟩ := S6.out.elems
      have HE := Lib.hid hel
      clear hel S6
      unfold maxLen at q2
      go_wp2
      go_loopw [13] (fun i wr => ∃ k : Nat, k ≤ L.length ∧ i = .int .i64 k ∧ Nw w6 wr) (fun i _ => L.length - (intOf i).toNat)
      case atStart => exact ⟨0, Nat.zero_le _, rfl, Nw.refl _⟩
      case round =>
        obtain ⟨k, hk2, rfl, hwr⟩ := hrel
        have HW := Lib.hid hwr
        clear hwr
        by_cases hlt2 : k < L.length
        · obtain ⟨g, o, rfl, hg, hc⟩ := HE.out k hlt2
          have hc1 := HW.out.cell hc
          clear hc
          have hmem : L[k] ∈ L := List.getElem_mem hlt2
          obtain ⟨hra, hrb⟩ := HS.out _ hmem
          generalize L[k] = n at *
          have hlv := leaves_more (fileOf P.files n) keep (keep + mn) (by omega)
          generalize (leaves (fileOf P.files n) keep).bytes = x at *
          generalize (leaves (fileOf P.files n) (keep + mn)).bytes = y at *
          have hxy := hlv.1
          have HXY := Lib.hid hlv.2
          have HRA := Lib.hid hra
          have HRB := Lib.hid hrb
          clear hlv hra hrb hmem
          go_wp2_with fail
          refine ((T6.out.nw HW.out).fst.read n HRA.out).mono ?_
          rintro e w7 ⟨v7, rfl, o7, n7, -⟩
          have hc2 := n7.cell hc1
          have N7 := Lib.hid (HW.out.trans n7)
          have O7 := Lib.hid o7
          clear hc1 n7 o7
          go_wp2_with fail
          refine ((T6.out.nw N7.out).symm.fst.read n HRB.out).mono ?_
          rintro e w8 ⟨v8, rfl, o8, n8, -⟩
          have N8 := Lib.hid (N7.out.trans n8)
          have R7 : Bs w8 v7 x := O7.out.rd.nw n8
          have R8 : Bs w8 v8 y := o8.rd
          obtain ⟨xa, xc, rfl, hx1, hx2, -⟩ := R7.elems
          obtain ⟨ya, yc, rfl, hy1, hy2, -⟩ := R8.elems
          have R9 := R8.take hxy
          unfold maxLen at hx2 hy2
          have hxc : x.length ≤ yc := by omega
          have R7 := Lib.hid R7
          clear n8 o8 hc2 O7 R8
          have hsl : ∀ w, (Instr.slice 29 (.slice ya y.length yc) none (some (.int .i64 x.length)) none).run Tryd.prog w = .ok (sliced ya 0 x.length yc 1) w := fun w => by
            have h1 : (x.length : Int) ≤ (yc : Int) := by omega
            have h2 : (0 : Int) ≤ (x.length : Int) := by omega
            go_simp
          generalize sliced ya 0 x.length yc 1 = s9 at R9 hsl
          have R9 := Lib.hid R9
          have f1 : decide ((x.length : Int) > (y.length : Int)) = false := by simp; omega
          have f2 : decide ((y.length : Int) < (x.length : Int)) = false := by simp; omega
          have f3 : decide (y.length < x.length) = false := by simp; omega
          go_wp2_with fail
          refine (SameBytes_ok R7.out R9.out).mono ?_
          rintro e w9 ⟨rfl, rfl⟩
          rw [← HXY.out, show (x == x) = true by simp]
          clear hsl f1 f2 f3 hx1 hx2 hy1 hy2 hxc hxy
          go_wp2
          go_roundw
          case rel => exact ⟨k + 1, by omega, by go_num, N8.out⟩
          case measure => simp [intOf]; omega
        · go_wp2_with fail
          refine (AW.out _).mono ?_
          rintro e w7 ⟨rfl, n7⟩
          have N7 := Lib.hid n7
          clear n7
          go_wp2
          go_ret
          exact ⟨rfl, (T6.out.nw HW.out).base.trans N7.out⟩
end Go.Proofs.YtihagdadbeoeoaaDoor.DiskMore
