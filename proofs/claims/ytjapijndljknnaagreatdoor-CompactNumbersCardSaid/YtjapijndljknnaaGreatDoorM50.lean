/-
  Texts merged by a program of this claim's: Law6C, VecG, CompKeepL, CKPlain, CKeepsR, CompactKeepsP.
-/
import Derived.Test.YtjapijndljknnaaGreatDoorM28
import Derived.Test.YtjapijndljknnaaGreatDoorM22
import Derived.Test.YtjapijndljknnaaGreatDoorM2
import Derived.Test.YtjapijndljknnaaGreatDoorM44
import Derived.Test.YtjapijndljknnaaGreatDoorM48
import Derived.Test.YtjapijndljknnaaGreatDoorM36
import Derived.Test.YtjapijndljknnaaGreatDoorM42
import Derived.Test.YtjapijndljknnaaGreatDoorM35
import Derived.Test.YtjapijndljknnaaGreatDoorM15
/-
  amanuensislow.CopyEvents, walked.
-/
namespace Go.Proofs.YtjapijndljknnaaGreatDoor
open Go Go.RowKit Go.Sort
set_option maxRecDepth 100000
set_option maxHeartbeats 1600000
theorem CopyEvents_ok {w : World} {v : Value} {l : List Ev} (h : Evs w v l) (hl : l.length ≤ 1000000) :
    Calls Tryz.prog 44 #[v] w fun e w' => ∃ v', e = .returned v' ∧ Vec 5 w' v' l.length (l.flatMap evV) ∧ Nw w w' ∧ ∀ g, v'.ownBlock = some g → w.heap.size ≤ g := by
  obtain ⟨i0, hi, hz0, hz1, hz2⟩ := info_parts infoEv
  have HI := Lib.hid hi
  have HZ0 := Lib.hid hz0
  have HZ1 := Lib.hid hz1
  have HZ2 := Lib.hid hz2
  have HV := Lib.hid h.src
  obtain ⟨a, cap, rfl, -⟩ := h.elem
  have V0 : Hid (Vec 5 w (.slice none 0 0) 0 []) := Lib.hid Vec.nil
  clear h hi hz0 hz1 hz2
  go_enter Tryz.func44, Tryz.ntmps44
  go_wp2_with (at_builtin; refine wpList_append_vec rfl _ _ 25 rfl 73 i0 (.agg #[.int .i64 0, .int .u8 0, .int .i64 0, .int .i64 0, .int .i64 0]) 5 40 Tryz.underlying25 HI.out HZ0.out HZ1.out HZ2.out rfl (by decide) rfl rfl V0.out HV.out ?c1 ?c2 ?c3 ?_)
  case c1 => exact evV_one l
  case c2 => unfold maxLen; omega
  case c3 => omega
  intro v5 w5 q5 q6 q7
  have Q := Lib.hid (And.intro q5 (And.intro q6 q7))
  clear q5 q6 q7
  go_wp2
  go_ret
  refine ⟨v5, rfl, by simpa using Q.out.1, Q.out.2.1.mono (fun k hk hc => by cases hc), fun g hg => ?_⟩
  rcases Q.out.2.2 with h | h
  · rw [h] at hg; cases hg
  · exact h g hg
end Go.Proofs.YtjapijndljknnaaGreatDoor

/-
  Program-independent: an append behind a guard that lets it in.
-/
namespace Go.Proofs.YtjapijndljknnaaGreatDoor
open Go Go.RowKit
section
variable {k n : Nat} {w w' : World} {v : Value} {cs : List Value}
theorem wpList_append_vec_g {P : Program} {ops : Array Oper} {rest : List Oper} {o : Oper} {a : Act} {Q : Exit → Act → World → Prop} (hw : Region.wanted o (yielded ops a.tmps) = true) (s x : Operand) (t : TypeId)
    (ho : o.op = .call { callee := .builtin .append, args := #[s, x], argTypes := #[t, t] })
    (e : TypeId) (i : TypeInfo) (z : Value) (size bytes : Nat) (ht : P.underlying t = some (.slice e)) (hi : P.info? e = some i) (hz : i.zero = some z) (hsize : i.size = size) (hby : i.bytes = bytes) (hzs : z.cells.size = size) (hsz : 0 < size)
    {src : Value} {m : Nat} {news : List Value} (hs : a.eval s = v) (hx : a.eval x = src) (hv : Vec size w v n cs) (hsrc : SrcV size w src m news) (h1 : ∀ u ∈ news, u.oneCell' = true)
    (hlen : n + m ≤ maxLen) (hbytes : (n + m) * bytes ≤ 140737488355328)
    (h : ∀ v' w', Vec size w' v' (n + m) (cs ++ news) → Only (fun k => v.ownBlock = some k) w w' → (v'.ownBlock = v.ownBlock ∨ ∀ g, v'.ownBlock = some g → w.heap.size ≤ g) →
      wpList P ops Q rest (a.put o.dst v') w') : wpList P ops Q (o :: rest) a w := by
  obtain ⟨v', w', hr, h2, h3, h4⟩ := run_append_vec (P := P) (w := w) t o.type e i z size bytes ht hi hz hsize hby hzs hsz hv hsrc h1 hlen hbytes
  unfold wpList
  rw [if_pos hw]
  refine .inl ?_
  unfold Oper.wp execOp
  simp only [ho, resolve, invoke, builtin, Sem.run_bind, Sem.run_pure, Result.andThen_ok, List.map_toArray, List.map_cons, List.map_nil, hs, hx, hr]
  exact h v' w' h2 h3 h4
end
end Go.Proofs.YtjapijndljknnaaGreatDoor

/-
  What compaction leaves, with the pieces named; a frame that goes in on a calm disk. Plain words.
-/
namespace Go.Proofs.YtjapijndljknnaaGreatDoor
open Go
set_option maxRecDepth 100000
/-- What compaction leaves, with the pieces named. -/
theorem comp_keepsL {Wh : Pc → List UInt8 → List Ev → Prop} (hi : ∀ q b es, Wh q b es → WholeU unpackB q b es) (hde : ∀ (k : Nat) (old : List Ev), k = old.length → 1 ≤ k → k ≤ 100000 → (∀ e ∈ old, e.Ok) → Wh (densePc k) (packB 0 old) old) {d : Dsk} {L : Lg} {all : List Ev} (h : KInv Wh d.files L all) (hok : ∀ e ∈ all, e.Ok) (hall : all.length ≤ 100000) :
    (∃ l', (l' = L.l ∨ l'.length = 2) ∧ RtL Wh (compD all L d).d.files l' all L.acked) ∧ ((compD all L d).e = 0 → RtL Wh (compD all L d).d.files (compD all L d).L.l all L.acked ∧ (compD all L d).L.l.length ≤ max 2 L.l.length ∧ (lone L.l.dropLast = false ∨ compD all L d = ⟨d, L, 0, 0⟩) ∧ KInv Wh (compD all L d).d.files (compD all L d).L all) := by
  have hk := h
  obtain ⟨A, p, old, fs, m, h⟩ := h
  have hkU : KIn (WholeU unpackB) d.files L all A p old fs m := ⟨h.nd, h.l, h.right, h.man, sealedF_imp hi h.old_, h.open_, h.m_, h.fr, h.first, h.all_, h.n, h.acked, h.free, h.pname⟩
  have hb := right_bound h.right p (by simp)
  have hfi := h.first
  have hpn : p.first.toNat = old.length := by omega
  have hto : all.take p.first.toNat = old := by rw [h.all_, hpn, List.take_left]
  have hlast := h.last
  have hdl : L.l.dropLast = A := by rw [h.l]; simp
  unfold compD
  rw [hlast, hdl, hto]
  split
  · exact ⟨⟨_, .inl rfl, hk.rtl⟩, fun h => absurd h (by simp)⟩
  rename_i hov
  have hov : L.over = false := by simpa using hov
  split
  · rename_i hl
    exact ⟨⟨_, .inl rfl, hk.rtl⟩, fun _ => ⟨hk.rtl, Nat.le_max_right _ _, .inr rfl, hk⟩⟩
  rename_i hl
  have hl : lone A = false := by simpa using hl
  split
  · exact ⟨⟨_, .inl rfl, hk.rtl⟩, fun h => absurd h (by simp)⟩
  have hfresh := hkU.fresh_name hl
  obtain ⟨f1, f2⟩ := fresh_files (d := d) (n := dName p.first.toNat) (b := packB 0 old) h.nd
  have hmn : manifestS ≠ dName p.first.toNat := fun hc => absurd (List.cons.inj hc).1 (by decide)
  have hnn : nextS ≠ dName p.first.toNat := fun hc => absurd (List.cons.inj hc).1 (by decide)
  have K1 : KIn Wh (d.fresh (dName p.first.toNat) (packB 0 old)).1.files L all A p old fs m := h.files f1.1 fun x hx => f1.2 x (by
    rcases hx with rfl | ⟨q, hq, rfl⟩
    · exact hmn
    · exact hfresh q hq)
  generalize d.fresh (dName p.first.toNat) (packB 0 old) = r1 at *
  split
  · exact ⟨⟨_, .inl rfl, KInv.rtl ⟨_, _, _, _, _, K1⟩⟩, fun h => by rename_i h0; exact absurd h h0⟩
  rename_i h0
  have h0 : r1.2 = 0 := by
    rcases Decidable.em (r1.2 = 0) with h | h
    · exact h
    · exact absurd h h0
  have hfile := f2 h0
  have hold1 : 1 ≤ old.length := by
    have := sealed_pos h.right.sealed_
    rcases this with rfl | hh
    · simp [lone] at hl
    · rw [← h.right.first] at hh; omega
  have hold2 : p.first.toNat ≤ 100000 := by have := h.all_; rw [this, List.length_append] at hall; omega
  have hold1' : 1 ≤ p.first.toNat := by omega
  unfold Lg.swap
  rw [hov, hlast]
  simp only [Bool.false_eq_true, if_false]
  have hl2 : [densePc p.first.toNat] ++ [p] = [densePc p.first.toNat, p] := rfl
  obtain ⟨i1, i2, i3⟩ := install_files (d := r1.1) (l := [densePc p.first.toNat, p]) K1.nd
  have hok2 := right_name h.right
  have K2o : ∀ x, x ∉ [nextS, manifestS] → fileOf (r1.1.install [densePc p.first.toNat, p]).1.files x = fileOf r1.1.files x := fun x hx => i1.2 x (by simpa using hx)
  have hnm : ∀ q ∈ L.l, q.name ∉ [nextS, manifestS] := fun q hq => by
    have := okPiece_name (hok2 q (by rw [← h.l]; exact hq))
    simp [this.2.1, this.2.2]
  generalize hgen : r1.1.install [densePc p.first.toNat, p] = r2 at *
  have hgen' : r1.1.install ([densePc p.first.toNat] ++ [p]) = r2 := hgen
  rw [hgen']
  by_cases hr : rightL ([densePc p.first.toNat] ++ [p]) = false
  · rw [if_pos hr]
    simp only
    rw [if_pos (by decide)]
    exact ⟨⟨_, .inl rfl, KInv.rtl ⟨_, _, _, _, _, K1⟩⟩, fun h => by simp at h⟩
  rw [if_neg hr]
  by_cases h2 : r2.2 = 0
  case neg =>
    rw [if_pos h2]
    simp only
    rw [if_pos h2]
    have K2 : KIn Wh r2.1.files L all A p old fs m := K1.files i1.1 fun x hx => by
      rcases hx with rfl | ⟨q, hq, rfl⟩
      · exact i3 h2
      · exact K2o _ (hnm q hq)
    exact ⟨⟨_, .inl rfl, KInv.rtl ⟨_, _, _, _, _, K2⟩⟩, fun h => absurd h h2⟩
  rw [if_neg (show ¬ r2.2 ≠ 0 by simp [h2])]
  simp only
  rw [if_neg (show ¬ (0 : Int) ≠ 0 by simp)]
  obtain ⟨i4, i5⟩ := i2 h2
  have hR : RightP [densePc p.first.toNat] p := (rightL_iff _ _).1 i4
  have hdn : dName p.first.toNat ∉ [nextS, manifestS] := by simp [hmn.symm, hnn.symm]
  have hpn' : p.name ≠ dName p.first.toNat := hfresh p (by rw [h.l]; simp)
  have K3 : KIn Wh r2.1.files { L with l := [densePc p.first.toNat] ++ [p] } all [densePc p.first.toNat] p old fs m := by
    refine ⟨i1.1, rfl, hR, i5, ?_, ?_, h.m_, h.fr, h.first, h.all_, h.n, h.acked, fun k hk hm => ?_, h.pname⟩
    · refine ⟨packB 0 old, old, [], ?_, hde _ old hpn hold1' hold2 (fun e he => hok e (by rw [h.all_]; simp [he])), by simp, rfl⟩
      show fileOf r2.1.files (dName p.first.toNat) = _
      rw [K2o _ hdn, hfile]
    · rw [K2o _ (hnm p (by rw [h.l]; simp))]; exact K1.open_
    · simp only [List.map_append, List.map_cons, List.map_nil, List.mem_append, List.mem_singleton] at hm
      rcases hm with hm | hm
      · exact dName_seg _ _ hm.symm
      · rw [h.pname] at hm
        have := segName_inj hm
        omega
  have hrm := rmEach_oth A r2.1 K3.nd
  have hnotA : ∀ x ∈ A.map Pc.name, x ≠ manifestS ∧ x ≠ dName p.first.toNat ∧ x ≠ p.name := fun x hx => by
    obtain ⟨q, hq, rfl⟩ := List.mem_map.1 hx
    have hq' : q ∈ L.l := by rw [h.l]; simp [hq]
    exact ⟨(okPiece_name (hok2 q (by simp [hq]))).2.1, hfresh q hq', fun hc => h.right.apart (by rw [← hc]; exact hx)⟩
  have K4 : KIn Wh (rmEach A r2.1).1.files { L with l := [densePc p.first.toNat] ++ [p] } all [densePc p.first.toNat] p old fs m := K3.files hrm.1 fun x hx => hrm.2 x fun hc => by
    obtain ⟨n1, n2, n3⟩ := hnotA x hc
    rcases hx with rfl | ⟨q, hq, rfl⟩
    · exact n1 rfl
    · simp only [List.mem_append, List.mem_singleton] at hq
      rcases hq with rfl | rfl
      · exact n2 rfl
      · exact n3 rfl
  generalize rmEach A r2.1 = r3 at *
  have hR4 : RtL Wh r3.1.files ([densePc p.first.toNat] ++ [p]) all L.acked := KInv.rtl (L := { L with l := [densePc p.first.toNat] ++ [p] }) ⟨_, _, _, _, _, K4⟩
  split
  · rename_i h3
    exact ⟨⟨_, .inr rfl, hR4⟩, fun h => absurd h h3⟩
  · exact ⟨⟨_, .inr rfl, hR4⟩, fun _ => ⟨hR4, Nat.le_max_left _ _, .inl hl, _, _, _, _, _, K4.lg rfl rfl rfl⟩⟩
theorem wb_dense (k : Nat) (old : List Ev) (hk : k = old.length) (h1 : 1 ≤ k) (h2 : k ≤ 100000) (hok : ∀ e ∈ old, e.Ok) : WB (densePc k) (packB 0 old) old := by
  have hup := unpack_at (n := 0) (by omega) (l := old) (by omega) (by omega) hok
  have hl := packB_len (l := old) (by omega)
  refine ⟨⟨?_, ?_, ?_, ?_⟩, by omega⟩
  · show segR unpackB true (packB 0 old) = _
    unfold segR
    rw [hup]
    rfl
  · show ((k : Nat) : Int) = _
    omega
  · unfold packB sealB packIn denseS; simp
  · exact ⟨fun h => by simp [densePc] at h, fun _ => ⟨rfl, by show dName _ = dName ((k : Nat) : Int).toNat; rw [Int.toNat_natCast]⟩⟩
/-- A frame goes in, where there is room. -/
theorem add_freeL {Wh : Pc → List UInt8 → List Ev → Prop} {d : Dsk} {L : Lg} {all es : List Ev} (hc : Calm d) (hk : KInv Wh d.files L all) (ho : L.over = false) (hl : L.l.length < 100) (hn : L.n ≤ 1000000) (hu : ((usedF d.files + 6227 + (frmB es).length : Nat) : Int) ≤ d.most) (hf : d.files.length < 190) (h1 : es.length ≠ 0) (h2 : es.length ≤ 4096) : (L.add d es).e = 0 ∧ Calm (L.add d es).d ∧ (L.add d es).d.most = d.most ∧ (L.add d es).L.over = false ∧ (L.add d es).L.l.length ≤ L.l.length + 1 ∧ ((∀ x, x ∈ namesF d.files → x ∈ staysOf L.l) → ∀ x, x ∈ namesF (L.add d es).d.files → x ∈ staysOf (L.add d es).L.l) := by
  obtain ⟨A, p, old, fs, m, h⟩ := hk
  have hlast := h.last
  have hb := right_bound h.right p (by simp)
  have hpn : p.name ∈ namesF d.files := mem_of_ne (by rw [h.open_]; unfold segB; exact fun hc => headB_ne _ (List.append_eq_nil_iff.1 hc).1)
  have hpo := (okPiece_name h.right.name).1
  have hput : ∀ (M : Lg) (x : Dsk), Calm x → okName (lastP M.l).name = true → ((usedF x.files + (frmB es).length : Nat) : Int) ≤ x.most → x.files.length < 200 → M.over = false → (lastP M.l).name ∈ namesF x.files →
      (M.put x es).e = 0 ∧ Calm (M.put x es).d ∧ (M.put x es).d.most = x.most ∧ (M.put x es).L.over = false ∧ (M.put x es).L.l = M.l ∧ ∀ y, y ∈ namesF (M.put x es).d.files → y ∈ namesF x.files := fun M x c1 c2 c3 c4 c5 c6 => by
    unfold Lg.put
    rw [append_calm c1 c2 c3 (.inr c4), if_neg (by simp)]
    exact ⟨rfl, c1.setF _ _, rfl, c5, rfl, fun y hy => by simp only at hy; rw [nmF_setF, if_pos c6] at hy; exact hy⟩
  unfold Lg.add
  rw [ho, if_neg (by simp), if_neg h1, if_neg (by omega)]
  unfold Lg.roomed
  by_cases hst : (lastP L.l).first < L.n ∧ L.size ≤ L.bytes
  case neg =>
    rw [if_neg hst]
    simp only
    rw [if_neg (by simp)]
    obtain ⟨a1, a2, a3, a4, a5, a6⟩ := hput L d hc (by rw [hlast]; exact hpo) (by omega) (by omega) ho (by rw [hlast]; exact hpn)
    exact ⟨a1, a2, a3, a4, by rw [a5]; omega, fun hs y hy => by rw [a5]; exact hs y (a6 y hy)⟩
  rw [if_pos hst]
  rw [hlast] at hst
  -- the piece is sealed
  have s1 := sync_calm hc hpn
  have u1 := usedF_setF d.files p.name ⟨(fileOf d.files p.name).bytes, (fileOf d.files p.name).bytes.length⟩
  have l1 := length_setF d.files p.name ⟨(fileOf d.files p.name).bytes, (fileOf d.files p.name).bytes.length⟩
  rw [if_pos hpn] at l1
  have c1 := hc.setF p.name ⟨(fileOf d.files p.name).bytes, (fileOf d.files p.name).bytes.length⟩
  obtain ⟨F1, hF1⟩ : ∃ F, setF d.files p.name ⟨(fileOf d.files p.name).bytes, (fileOf d.files p.name).bytes.length⟩ = F := ⟨_, rfl⟩
  rw [hF1] at s1 u1 l1 c1
  simp only at u1
  have hhl := headB_len (n := L.n) (by omega)
  have s2 : ({ d with files := F1 } : Dsk).begun L.n = _ := fresh_calm (n := segName L.n) (b := headB L.n) c1 (okPiece_name (segName_ok (n := L.n) (by omega))).1 (by simp only; omega) (by simp only; omega)
  have c2 := c1.delF (segName L.n)
  have m2 := not_mem_delF c1.names (segName L.n)
  have u2 := usedF_delF F1 (segName L.n)
  have l2 := length_delF F1 (segName L.n)
  simp only at s2 c2 m2
  obtain ⟨F2, hF2⟩ : ∃ F, delF F1 (segName L.n) ++ [(segName L.n, (⟨headB L.n, (headB L.n).length⟩ : DFile))] = F := ⟨_, rfl⟩
  have u3 : usedF F2 = usedF (delF F1 (segName L.n)) + (headB L.n).length := by rw [← hF2]; simp [usedF]
  have l3 : F2.length = (delF F1 (segName L.n)).length + 1 := by rw [← hF2]; simp
  have c3 : Calm ({ d with files := F2 } : Dsk) := c1.same _ (by rw [← hF2, ← setF_miss m2]; exact nodup_setF c2.names _ _)
  rw [hF2] at s2
  have hml : morePcs L = (A ++ [{ p with count := L.n - p.first }]) ++ [⟨segName L.n, L.n, 0, false⟩] := by
    unfold morePcs
    rw [hlast, h.l, List.dropLast_concat]
    simp
  have hAl : A.length + 1 < 100 := by rw [h.l] at hl; simpa using hl
  have hr : rightL (morePcs L) = true := by
    rw [hml]
    refine (rightL_iff _ _).2 ⟨by simpa using hAl, (sealedFrom_snoc _ _ _ _).2 ⟨h.right.sealed_, h.right.name, by simp, h.right.apart, h.right.first, ?_, ?_⟩, segName_ok (by omega), ?_, ?_, rfl, rfl⟩
    · simp only; omega
    · simp only; omega
    · have := h.free L.n hst.1
      rw [h.l] at this
      simpa using this
    · rw [endOf_snoc, ← h.right.first]
      simp only; omega
  have hmb := manifestB_len hr
  have s3 := install_calm c3 hr (by simp only; omega) (by simp only; omega)
  have c4 := (c3.delF nextS).setF manifestS ⟨manifestB (morePcs L), (manifestB (morePcs L)).length⟩
  have u4 := usedF_delF F2 nextS
  have u5 := usedF_setF (delF F2 nextS) manifestS ⟨manifestB (morePcs L), (manifestB (morePcs L)).length⟩
  have l4 := length_delF F2 nextS
  have l5 := length_setF (delF F2 nextS) manifestS ⟨manifestB (morePcs L), (manifestB (morePcs L)).length⟩
  simp only at s3 c4 u5
  obtain ⟨F3, hF3⟩ : ∃ F, setF (delF F2 nextS) manifestS ⟨manifestB (morePcs L), (manifestB (morePcs L)).length⟩ = F := ⟨_, rfl⟩
  rw [hF3] at s3 c4 u5 l5
  have l6 : F3.length ≤ (delF F2 nextS).length + 1 := by rw [l5]; split <;> omega
  have ha : L.another d = ⟨{ d with files := F3 }, { L with acked := L.n, l := morePcs L, bytes := (headB L.n).length }, 0⟩ := by
    unfold Lg.another
    rw [hlast, if_neg (by omega), s1]
    simp only
    rw [if_neg (by simp), s2]
    simp only
    rw [if_neg (by simp), s3]
    simp
  rw [ha]
  simp only
  rw [if_neg (by simp)]
  have hsg : segName L.n ∈ namesF F3 := by
    rw [← hF3, nmF_setF]
    have h2 : segName L.n ∈ namesF (delF F2 nextS) := by
      rw [namesF_delF]
      refine (List.mem_erase_of_ne fun hc => absurd (List.cons.inj hc).1 (by decide)).2 ?_
      rw [← hF2]
      show segName L.n ∈ namesF _
      unfold namesF
      rw [List.map_append, List.mem_append]
      exact .inr (List.mem_singleton.2 rfl)
    split
    · exact h2
    · simp [h2]
  obtain ⟨a1, a2, a3, a4, a5, a6⟩ := hput { L with acked := L.n, l := morePcs L, bytes := (headB L.n).length } { d with files := F3 } c4 (by
    simp only
    rw [hml, lastP_snoc]
    exact (okPiece_name (segName_ok (n := L.n) (by omega))).1) (by simp only; omega) (by simp only; omega) ho (by simp only; rw [hml, lastP_snoc]; exact hsg)
  refine ⟨a1, a2, a3, a4, ?_, fun hs y hy => ?_⟩
  · rw [a5]
    simp only
    rw [hml, h.l]
    simp
  · rw [a5]
    simp only
    have hy := a6 y hy
    simp only at hy
    rw [← hF3, nmF_setF] at hy
    have hy : y = manifestS ∨ y ∈ namesF (delF F2 nextS) := by
      split at hy
      · exact .inr hy
      · simp only [List.mem_append, List.mem_singleton] at hy
        exact hy.symm
    have hst : ∀ z, z ∈ staysOf L.l → z ∈ staysOf (morePcs L) := fun z hz => by
      rw [h.l] at hz
      rw [hml]
      simp only [staysOf, List.map_append, List.map_cons, List.map_nil, List.mem_cons, List.mem_append, List.mem_nil_iff, or_false] at hz ⊢
      rcases hz with hz | hz | hz
      · exact .inl hz
      · exact .inr (.inl (.inl hz))
      · exact .inr (.inl (.inr hz))
    rcases hy with rfl | hy
    · simp [staysOf]
    rw [namesF_delF] at hy
    have hy := List.mem_of_mem_erase hy
    rw [← hF2] at hy
    simp only [namesF, List.map_append, List.map_cons, List.map_nil, List.mem_append, List.mem_singleton] at hy
    rcases hy with hy | rfl
    · have hy : y ∈ namesF (delF F1 (segName L.n)) := hy
      rw [namesF_delF] at hy
      have hy := List.mem_of_mem_erase hy
      rw [← hF1, nmF_setF, if_pos hpn] at hy
      exact hst y (hs y hy)
    · rw [hml]
      simp [staysOf]
end Go.Proofs.YtjapijndljknnaaGreatDoor

/-
  A log that is compacted now and then, with failures, and opened anew: plain words for CompactKeeps.
-/
namespace Go.Proofs.YtjapijndljknnaaGreatDoor
open Go
set_option maxRecDepth 100000
structure Ci (c : Nat) (z : Int) (d : Dsk) (L : Lg) (all : List Ev) : Prop where
  calm : Calm d
  most : d.most = 1048576
  kin : KInv WB d.files L all
  names : ∀ x, x ∈ namesF d.files → x ∈ staysOf L.l
  over : L.over = false
  pcs : L.l.length ≤ c + 2
  len : all.length ≤ 30 * c
  rk : Rk z c L
  ok : ∀ e ∈ all, e.Ok
theorem Ci.new {z : Int} (h1 : 64 ≤ z) (h2 : z ≤ 16777216) : ∃ d, createD (newDsk 1048576) z = (d, 0) ∧ Ci 0 z d (newLg z) [] := by
  obtain ⟨F, k1, k2, k3, k4⟩ := create_calm' 1048576 (by omega) h1 h2
  have hb : (headB 0).length ≤ 18 := headB_len (n := 0) (by omega)
  exact ⟨_, k1, k2.calm, rfl, KInv.new 1048576 (by omega) h1 h2 k1, fun x hx => by simpa [staysOf] using k2.names.mem_iff.1 hx, rfl, by simp [newLg], by simp, ⟨by simp only [newLg]; omega, rfl⟩, fun e he => by cases he⟩
section
variable {c : Nat} {z : Int} {d d2 : Dsk} {L : Lg} {all es : List Ev}
theorem Ci.add (h : Ci c z d L all) (hc : c < 40) (h1 : es.length ≠ 0) (h2 : es.length ≤ 30) (h3 : ∀ e ∈ es, e.Ok) : (L.add d es).e = 0 ∧ Ci (c + 1) z (L.add d es).d (L.add d es).L (all ++ es) := by
  have hn := h.kin.facts.1
  have hl := h.len
  have hp := h.pcs
  have hu := h.kin.used h.names (by omega)
  have hct := h.kin.count h.names
  have hf := frm_le h2
  have hm := h.most
  obtain ⟨a1, a2, a3, a4, a5, a6⟩ := add_freeL h.calm h.kin h.over (by omega) (by omega) (by omega) (by omega) h1 (es := es) (by omega)
  have hk := h.kin.add (d := d) (es := es) seals_wb h3
  rw [a1, if_pos rfl] at hk
  refine ⟨a1, a2, a3.trans hm, hk, a6 h.names, a4, by omega, by rw [List.length_append]; omega, h.rk.add (by omega) h2, fun e he => ?_⟩
  rcases List.mem_append.1 he with he | he
  · exact h.ok e he
  · exact h3 e he
theorem Ci.sync (h : Ci c z d L all) : (L.sync d).e = 0 ∧ Ci c z (L.sync d).d (L.sync d).L all := by
  have hk := (h.kin.sync (d := d)).1
  have hr := h.rk.sync (d := d)
  have hm := sync_most L d
  have hp : (lastP L.l).name ∈ namesF d.files := by
    obtain ⟨A, p, old, fs, m, k⟩ := h.kin
    rw [k.last]
    exact mem_of_ne (by rw [k.open_]; unfold segB; exact fun hc => headB_ne _ (List.append_eq_nil_iff.1 hc).1)
  have hs := sync_calm h.calm hp
  have e : L.sync d = ⟨{ d with files := setF d.files (lastP L.l).name ⟨(fileOf d.files (lastP L.l).name).bytes, (fileOf d.files (lastP L.l).name).bytes.length⟩ }, { L with acked := L.n }, 0⟩ := by
    unfold Lg.sync
    rw [h.over, if_neg (by simp), hs, if_neg (by simp)]
  rw [e] at hk hr hm ⊢
  refine ⟨rfl, h.calm.setF _ _, hm.trans h.most, hk, fun x hx => ?_, h.over, h.pcs, h.len, hr, h.ok⟩
  simp only at hx
  rw [nmF_setF, if_pos hp] at hx
  exact h.names x hx
theorem rmEach_most : ∀ (A : List Pc) (d : Dsk), (rmEach A d).1.most = d.most
  | [], d => rfl
  | q :: A, d => by
    unfold rmEach
    split
    · exact op_most _ _ _
    · exact (rmEach_most A _).trans (op_most _ _ _)
theorem swap_most (L : Lg) (d : Dsk) (ps : List Pc) : (L.swap d ps).d.most = d.most := by
  unfold Lg.swap
  repeat' split
  all_goals first | rfl | exact install_most _ _
theorem comp_most (all : List Ev) (L : Lg) (d : Dsk) : (compD all L d).d.most = d.most := by
  unfold compD
  repeat' split
  all_goals first | rfl | exact fresh_most _ _ _ | exact (swap_most _ _ _).trans (fresh_most _ _ _) | exact (rmEach_most _ _).trans ((swap_most _ _ _).trans (fresh_most _ _ _))
theorem lone_len {A : List Pc} (h : lone A = true) : A.length ≤ 1 := by
  match A, h with
  | [], _ => simp
  | [_], _ => simp
  | _ :: _ :: _, h => simp [lone] at h
/-- Compaction, whatever arm the disk has. -/
theorem Ci.comp (h : Ci c z d L all) (hc : c ≤ 40) (hf : d2.files = d.files) (hm : d2.most = d.most) :
    (∃ l', l'.length ≤ c + 2 ∧ RtL WB (compD all L d2).d.files l' all L.acked) ∧ (compD all L d2).d.most = 1048576 ∧ ((compD all L d2).e = 0 → (compD all L d2).L.l.length ≤ 2 ∧ ((compD all L d2).d.down = false → ∃ g, scanD unpackB (compD all L d2).d = ⟨all, (compD all L d2).L.l, g, 0⟩)) := by
  have hk : KInv WB d2.files L all := by rw [hf]; exact h.kin
  have hl := h.len
  have hp := h.pcs
  obtain ⟨⟨l', k1, k2⟩, k3⟩ := comp_keepsL (d := d2) wb_whole wb_dense hk h.ok (by omega)
  obtain ⟨-, k4⟩ := comp_keeps (d := d2) (hk.imp wb_whole) h.ok (by omega)
  refine ⟨⟨l', ?_, k2⟩, (comp_most _ _ _).trans (hm.trans h.most), fun h0 => ⟨?_, fun hd => (k3 h0).1.scan wb_whole hd⟩⟩
  · rcases k1 with rfl | k1
    · exact hp
    · omega
  · obtain ⟨-, -, -, -, -, k5, -⟩ := k4 h0
    have := lone_len k5
    rw [List.length_dropLast] at this
    omega
/-- A crash behind it, and the log opened anew. -/
theorem RtL.life {l' : List Pc} {ak : Nat} (h : RtL WB d2.files l' all ak) (hok : d2.Ok) (hm : d2.most = 1048576) (h1 : 64 ≤ z) (h2 : z ≤ 16777216) (hl' : l'.length ≤ c + 2) (hl : all.length ≤ 30 * c) (hc : c ≤ 40) (he : ∀ e ∈ all, e.Ok) (ks : List Int) :
    ∃ i d' L', ak ≤ i ∧ i ≤ all.length ∧ openD unpackB (d2.crash ks) z = ⟨d', L', all.take i, 0⟩ ∧ L'.n = i ∧ (d'.Ok → Ci c z d' L' (all.take i)) := by
  obtain ⟨i, i1, i2, i3⟩ := h.cr (crash_cr hok ks)
  have hca := crash_calm (d := d2) hok.names ks
  obtain ⟨o1, o2, o3, o4, o5, o6, o7, o8, o9, o10⟩ := i3.openCalm wb_whole hca h1 h2 (by rw [List.length_take]; omega)
  have ork := fun ok => open_rk (U := unpackB) (d := d2.crash ks) (size := z) ok o1
  obtain ⟨R, hR⟩ : ∃ R, openD unpackB (d2.crash ks) z = R := ⟨_, rfl⟩
  rw [hR] at o1 o2 o3 o4 o5 o6 o7 o8 o9 o10 ork ⊢
  obtain ⟨d', L', es', e'⟩ := R
  simp only at o1 o2 o3 o4 o5 o6 o7 o8 o9 o10 ork
  subst o1 o2
  refine ⟨i, d', L', i1, i2, rfl, ?_, fun ok => ⟨o8, o9.trans hm, o4, by rw [o3]; exact o10, o7, by rw [o3]; exact hl', by rw [List.length_take]; omega, ⟨by have := ork ok; omega, o6⟩, fun e h => he e (List.mem_of_mem_take h)⟩⟩
  have := o4.facts.1
  rw [this, List.length_take]
  omega
end
end Go.Proofs.YtjapijndljknnaaGreatDoor

/-
  amanuensislaw07.CompactKeeps: append(CopyEvents(all), frames[i]...): a region that draws its order. Printed by wip/gen_ckr.py.
-/
namespace Go.Proofs.YtjapijndljknnaaGreatDoor.CompactKeeps
open Go Go.RowKit Go.Sort
set_option maxRecDepth 100000
set_option maxHeartbeats 3200000
theorem r14 {w6 : World} {g o nf cf m sc k n ec : Nat} {sa ea : Option Addr} {cs news : List Value}
    (HC : Hid (∀ W, Nw w6 W → Calls Tryz.prog 44 #[.slice sa m sc] W fun e w' => ∃ v', e = .returned v' ∧ Vec 5 w' v' m cs ∧ Nw W w' ∧ ∀ g, v'.ownBlock = some g → W.heap.size ≤ g))
    (C1 : Hid (w6.cell? ⟨g, o + k, none⟩ = some (.slice ea n ec))) (L1 : Hid (g < w6.heap.size)) (HK : Hid (k < nf))
    (X5 : Hid (SrcV 5 w6 (.slice ea n ec) n news)) (h1 : Hid (∀ u ∈ news, u.oneCell' = true)) (hb : m + n ≤ 1000000)
    {u1 u2 u3 u4 u5 u6 u7 u8 u9 u10 u11 u12 u15 u16 u17 u18 u19 u20 u21 u22 u23 u24 u25 u26 u27 u28 u29 u30 u31 u32 u33 u34 u35 u36 u37 u38 u39 u40 u41 u42 u43 u44 u45 u46 u47 u48 u49 u50 u51 u52 u53 u54 u55 u56 u57 u58 u59 u60 u61 u62 u63 u64 u65 u66 u67 u68 u69 u70 u71 u72 u73 u74 u75 u76 u77 u78 u79 u80 u81 u82 u83 u84 u85 u86 u87 u88 u89 u90 u91 u92 u93 u94 u95 u96 u97 u98 u99 u100 u101 u102 u103 u104 u105 u106 u107 u108 u109 u110 u111 u112 u113 u114 u115 u116 u117 u118 u119 u120 u121 u122 u123 u124 u125 u126 u127 u128 u129 u130 u131 u132 u133 u134 u135 u136 u137 u138 u139 u140 u141 u142 u143 u144 u145 u146 u147 u148 u149 u150 u151 u152 u153 u154 u155 u156 u157 u158 u159 u160 u161 u162 u163 u164 u165 u166 u167 u168 u169 u170 u171 u172 u173 u174 u175 u176 u177 u178 u179 u180 u181 u182 u183 u184 u185 u186 u187 u188 u189 u190 u191 u192 u193 u194 u195 u196 u197 u198 u199 u200 u201 u202 u203 u204 u205 : Value} {Q : Exit → Act → World → Prop} (hP : PanicOk Q)
    (hQ : ∀ (s82 s83 s84 s85 s86 s87 s88 s13 : Value) (a' : Option Addr) (c' : Nat) (wx : World), s13 = .slice a' (m + n) c' → Vec 5 wx s13 (m + n) (cs ++ news) → Nw w6 wx → (∀ g, s13.ownBlock = some g → w6.heap.size ≤ g) → Q .normal ⟨#[.slice (some ⟨g, o, none⟩) nf cf, u1, u2, u3, u4, u5, u6, u7, u8, u9, u10, u11, u12, s13, .int .i64 k, u15, u16, u17, u18, u19, u20, u21, u22, u23, u24, u25, u26, u27, u28, u29, u30, u31, u32, u33, u34, u35, u36, u37, u38, u39, u40, u41, u42, u43, u44, u45, u46, u47, u48, u49, u50, u51, u52, u53, u54, u55, u56, u57, u58, u59, u60, u61, u62, u63, u64, u65, u66, u67, u68, u69, u70, u71, u72, u73, u74, u75, u76, u77, u78, u79, u80, u81, s82, s83, s84, s85, s86, s87, s88, u89, u90, u91, u92, u93, u94, u95, u96, u97, u98, u99, u100, u101, u102, u103, u104, u105, u106, u107, u108, u109, u110, u111, u112, u113, u114, u115, u116, u117, u118, u119, u120, u121, u122, u123, u124, u125, u126, u127, u128, u129, u130, u131, u132, u133, u134, u135, u136, u137, u138, u139, u140, u141, u142, u143, u144, u145, u146, u147, u148, u149, u150, u151, u152, u153, u154, u155, u156, u157, u158, u159, u160, u161, u162, u163, u164, u165, u166, u167, u168, u169, u170, u171, u172, u173, u174, u175, u176, u177, u178, u179, u180, u181, u182, u183, u184, u185, u186, u187, u188, u189, u190, u191, u192, u193, u194, u195, u196, u197, u198, u199, u200, u201, u202, u203, u204, u205], []⟩ wx) :
    Code.wp Tryz.prog ((Tryz.f9.body.bind (regionOf 14)).getD .skip) Q ⟨#[.slice (some ⟨g, o, none⟩) nf cf, u1, u2, u3, u4, u5, u6, u7, u8, u9, u10, u11, u12, .slice sa m sc, .int .i64 k, u15, u16, u17, u18, u19, u20, u21, u22, u23, u24, u25, u26, u27, u28, u29, u30, u31, u32, u33, u34, u35, u36, u37, u38, u39, u40, u41, u42, u43, u44, u45, u46, u47, u48, u49, u50, u51, u52, u53, u54, u55, u56, u57, u58, u59, u60, u61, u62, u63, u64, u65, u66, u67, u68, u69, u70, u71, u72, u73, u74, u75, u76, u77, u78, u79, u80, u81, u82, u83, u84, u85, u86, u87, u88, u89, u90, u91, u92, u93, u94, u95, u96, u97, u98, u99, u100, u101, u102, u103, u104, u105, u106, u107, u108, u109, u110, u111, u112, u113, u114, u115, u116, u117, u118, u119, u120, u121, u122, u123, u124, u125, u126, u127, u128, u129, u130, u131, u132, u133, u134, u135, u136, u137, u138, u139, u140, u141, u142, u143, u144, u145, u146, u147, u148, u149, u150, u151, u152, u153, u154, u155, u156, u157, u158, u159, u160, u161, u162, u163, u164, u165, u166, u167, u168, u169, u170, u171, u172, u173, u174, u175, u176, u177, u178, u179, u180, u181, u182, u183, u184, u185, u186, u187, u188, u189, u190, u191, u192, u193, u194, u195, u196, u197, u198, u199, u200, u201, u202, u203, u204, u205], []⟩ w6 := by
  dsimp only at hQ ⊢
  conv => arg 2; whnf
  have HQ := Lib.hid hQ
  clear hQ
  refine name_frame fun A hA => ?_
  have hlt : ∀ t, t < 206 → t < A.tmps.size := fun t h => by rw [hA]; exact h
  have hA13 : A.tmps[13]? = some (.slice sa m sc) := by rw [hA]; rfl
  have hA0 : A.tmps[0]? = some (.slice (some ⟨g, o, none⟩) nf cf) := by rw [hA]; rfl
  have hA14 : A.tmps[14]? = some (.int .i64 k) := by rw [hA]; rfl
  have HA := Lib.hid hA
  clear hA
  refine rgn_open fun L hL => ?_
  have f0 := at_op (i := 0) hL rfl
  have f1 := at_op (i := 1) hL rfl
  have f2 := at_op (i := 2) hL rfl
  have f3 := at_op (i := 3) hL rfl
  have f4 := at_op (i := 4) hL rfl
  have f5 := at_op (i := 5) hL rfl
  have f6 := at_op (i := 6) hL rfl
  have f7 := at_op (i := 7) hL rfl
  have HL := Lib.hid hL
  refine wp_region_steps 6 (.rd 0 :: .rd 2 :: .rd 3 :: .rd 4 :: .rd 5 :: .dn 1 :: []) [6, 7] (fun x => Nw w6 x) (by kernel_rfl) (by rw [hL]; kernel_rfl) hP (Nw.refl _).drew ?_
  have hC : Nw w6 w6.drew := (Nw.refl _).drew
  clear HL hL
  refine rgn_rd1 (.slice sa m sc) f0 rfl (w_none rfl) (get_old (t := 13) rfl hA13) (fun ρ e0 ⟨c1, c2⟩ w hw => by go_simp) ?_
  refine rgn_rd1 (.slice (some ⟨g, o, none⟩) nf cf) f2 rfl (w_none rfl) (get_old (t := 0) rfl hA0) (fun ρ e0 ⟨c1, c2⟩ w hw => by go_simp) ?_
  refine rgn_rd1 (.int .i64 k) f3 rfl (w_none rfl) (get_old (t := 14) rfl hA14) (fun ρ e0 ⟨c1, c2⟩ w hw => by go_simp) ?_
  refine rgn_rd2 (.pointer (some ⟨g, o + k, none⟩)) f4 rfl (w_none rfl) (get_hit (t := 84) rfl (hlt 84 (by decide))) (get_hit (t := 85) rfl (hlt 85 (by decide))) (fun ρ e0 e1 ⟨c1, c2⟩ w hw => by have hk := HK.out; go_simp) ?_
  refine rgn_rd1 (.slice ea n ec) f5 rfl (w_none rfl) (get_hit (t := 86) rfl (hlt 86 (by decide))) (fun ρ e0 ⟨c1, c2⟩ w hw => by have hc := Nw.cell hw C1.out; have hl := Nat.lt_of_lt_of_le L1.out (Only.size hw); go_simp) ?_
  refine rgn_call [(82, .slice sa m sc)] f1 rfl (w_none rfl) (forall_cons (get_hit (t := 82) rfl (hlt 82 (by decide))) <| forall_nil) (fun ρ e ⟨c1, c2⟩ => by simp only [List.forall_mem_cons] at e; go_simp) (HC.out _ hC) ?_
  rintro e wb ⟨v1, rfl, q1, n1, f1⟩
  obtain ⟨va, vc, rfl, -⟩ := q1.len
  have Q1 := Lib.hid (And.intro q1 f1)
  replace hC := hC.trans n1
  clear n1 q1 f1
  refine ⟨_, rfl, hC, ?_⟩
  refine wpSteps_nil ?_
  refine stp_num f6 ?_
  obtain ⟨i0, hi, hz0, hz1, hz2⟩ := info_parts infoEv
  refine wpList_append_vec (v := .slice va m vc) (src := .slice ea n ec) rfl _ _ 25 rfl 73 i0 (.agg #[.int .i64 0, .int .u8 0, .int .i64 0, .int .i64 0, .int .i64 0]) 5 40 Tryz.underlying25 hi hz0 hz1 hz2 rfl (by decide) (eval_of (get_hit (t := 83) rfl (hlt 83 (by decide)))) (eval_of (get_hit (t := 87) rfl (hlt 87 (by decide)))) Q1.out.1 (X5.out.nw hC) h1.out (by unfold maxLen; omega) (by omega) ?_
  intro v5 w5 q5 q6 q7
  obtain ⟨ta, tc, rfl, -⟩ := q5.len
  have hN : Nw w6 w5 := hC.trans' q6 (fun g hg hc => by have h : w6.heap.size ≤ g := Q1.out.2 g hc; omega)
  have hF : ∀ g, (Value.slice ta (m + n) tc).ownBlock = some g → w6.heap.size ≤ g := fun g hg => by
    rcases q7 with h | h
    · exact Q1.out.2 g (h ▸ hg)
    · exact Nat.le_trans hC.size (h g hg)
  refine ⟨fun h => absurd h (by decide), ?_⟩
  change wpNums _ _ _ _ _ [7] (puts A ((88, .slice ta (m + n) tc) :: [(83, .slice va m vc), (87, .slice ea n ec), (86, .pointer (some ⟨g, o + k, none⟩)), (85, .int .i64 k), (84, .slice (some ⟨g, o, none⟩) nf cf), (82, .slice sa m sc)])) w5
  refine stp_num_val (.slice ta (m + n) tc) f7 rfl (w_none rfl) (by decide) ?_ (wpNums_nil ?_)
  · have e0 := (get_hit (A := A) (l := (88, .slice ta (m + n) tc) :: [(83, .slice va m vc), (87, .slice ea n ec), (86, .pointer (some ⟨g, o + k, none⟩)), (85, .int .i64 k), (84, .slice (some ⟨g, o, none⟩) nf cf), (82, .slice sa m sc)]) (t := 88) rfl (hlt 88 (by decide)))
    go_simp
  change Q .normal (puts A ((13, .slice ta (m + n) tc) :: (88, .slice ta (m + n) tc) :: [(83, .slice va m vc), (87, .slice ea n ec), (86, .pointer (some ⟨g, o + k, none⟩)), (85, .int .i64 k), (84, .slice (some ⟨g, o, none⟩) nf cf), (82, .slice sa m sc)])) w5
  exact cast_frame (by rw [HA.out]; kernel_rfl) (HQ.out (.slice sa m sc) (.slice va m vc) (.slice (some ⟨g, o, none⟩) nf cf) (.int .i64 k) (.pointer (some ⟨g, o + k, none⟩)) (.slice ea n ec) (.slice ta (m + n) tc) (.slice ta (m + n) tc) ta tc w5 rfl q5 hN hF)
end Go.Proofs.YtjapijndljknnaaGreatDoor.CompactKeeps

/-
  amanuensislaw07.CompactKeeps: pieces of it. Printed by wip/gen_ck.py.
-/
namespace Go.Proofs.YtjapijndljknnaaGreatDoor.CompactKeeps
open Go Go.RowKit Go.Sort
set_option maxRecDepth 100000
set_option maxHeartbeats 3200000

theorem p105 {w wc : World} {b p m n c' a q12 r20 : Nat} {a' : Option Addr} {d1 : Dsk} {L1 : Lg} {al : List Ev} {tb : Bool} (L6 : Hid (HasL (fun j => (Value.slice a' (m + n) c').ownBlock = some j) w wc p b d1 L1)) (S6 : Hid (Vec 5 wc (.slice a' (m + n) c') (m + n) (al.flatMap evV))) (hd12 : Int.tdiv (a : Int) 12 = (q12 : Int)) (hm20 : Int.tmod (q12 : Int) 20 = (r20 : Int)) (hb12 : q12 ≤ 1000002) (hr20l : r20 < 20) {u0 u1 u2 u3 u4 u5 u6 u7 u8 u10 u11 u12 u13 u14 u15 u17 u18 u19 u20 u21 u22 u23 u24 u25 u26 u27 u28 u29 u30 u31 u32 u33 u34 u35 u36 u37 u38 u39 u40 u41 u42 u43 u44 u45 u46 u47 u48 u49 u50 u51 u52 u53 u54 u55 u56 u57 u58 u59 u60 u61 u62 u63 u64 u65 u66 u67 u68 u69 u70 u71 u72 u73 u74 u75 u76 u77 u78 u79 u80 u81 u82 u83 u84 u85 u86 u87 u88 u89 u90 u91 u92 u93 u94 u95 u96 u97 u98 u99 u100 u101 u102 u103 u104 u106 u107 u108 u109 u110 u111 u112 u113 u114 u115 u116 u117 u118 u119 u120 u121 u122 u123 u124 u125 u126 u127 u128 u129 u130 u131 u132 u133 u134 u135 u136 u137 u138 u139 u140 u141 u142 u143 u144 u145 u146 u147 u148 u149 u150 u151 u152 u153 u154 u155 u156 u157 u158 u159 u160 u161 u162 u163 u164 u165 u166 u167 u168 u169 u170 u171 u172 u173 u174 u175 u176 u177 u178 u179 u180 u181 u182 u183 u184 u185 u186 u187 u188 u189 u190 u191 u192 u193 u194 u195 u196 u197 u198 u199 u200 u201 u202 u203 u204 u205 : Value} {Q : Exit → Act → World → Prop} (hP : PanicOk Q)
    (hQ : ∀ (s106 s107 s108 s109 s110 : Value) (d2 : Dsk) (wx : World), d2.files = d1.files → d2.most = d1.most → HasL (fun j => (Value.slice a' (m + n) c').ownBlock = some j) w wx p b d2 L1 → Vec 5 wx (.slice a' (m + n) c') (m + n) (al.flatMap evV) → Q .normal ⟨#[u0, u1, u2, u3, u4, u5, u6, u7, u8, .pointer (some ⟨b, 0, none⟩), u10, u11, u12, u13, u14, u15, .int .i64 a, u17, u18, u19, u20, u21, u22, u23, u24, u25, u26, u27, u28, u29, u30, u31, u32, u33, u34, u35, u36, u37, u38, u39, u40, u41, u42, u43, u44, u45, u46, u47, u48, u49, u50, u51, u52, u53, u54, u55, u56, u57, u58, u59, u60, u61, u62, u63, u64, u65, u66, u67, u68, u69, u70, u71, u72, u73, u74, u75, u76, u77, u78, u79, u80, u81, u82, u83, u84, u85, u86, u87, u88, u89, u90, u91, u92, u93, u94, u95, u96, u97, u98, u99, u100, u101, u102, u103, u104, .bool tb, s106, s107, s108, s109, s110, u111, u112, u113, u114, u115, u116, u117, u118, u119, u120, u121, u122, u123, u124, u125, u126, u127, u128, u129, u130, u131, u132, u133, u134, u135, u136, u137, u138, u139, u140, u141, u142, u143, u144, u145, u146, u147, u148, u149, u150, u151, u152, u153, u154, u155, u156, u157, u158, u159, u160, u161, u162, u163, u164, u165, u166, u167, u168, u169, u170, u171, u172, u173, u174, u175, u176, u177, u178, u179, u180, u181, u182, u183, u184, u185, u186, u187, u188, u189, u190, u191, u192, u193, u194, u195, u196, u197, u198, u199, u200, u201, u202, u203, u204, u205], []⟩ wx) :
    Code.wp Tryz.prog ((Tryz.f9.body.bind (condOf 105)).getD .skip) Q ⟨#[u0, u1, u2, u3, u4, u5, u6, u7, u8, .pointer (some ⟨b, 0, none⟩), u10, u11, u12, u13, u14, u15, .int .i64 a, u17, u18, u19, u20, u21, u22, u23, u24, u25, u26, u27, u28, u29, u30, u31, u32, u33, u34, u35, u36, u37, u38, u39, u40, u41, u42, u43, u44, u45, u46, u47, u48, u49, u50, u51, u52, u53, u54, u55, u56, u57, u58, u59, u60, u61, u62, u63, u64, u65, u66, u67, u68, u69, u70, u71, u72, u73, u74, u75, u76, u77, u78, u79, u80, u81, u82, u83, u84, u85, u86, u87, u88, u89, u90, u91, u92, u93, u94, u95, u96, u97, u98, u99, u100, u101, u102, u103, u104, .bool tb, u106, u107, u108, u109, u110, u111, u112, u113, u114, u115, u116, u117, u118, u119, u120, u121, u122, u123, u124, u125, u126, u127, u128, u129, u130, u131, u132, u133, u134, u135, u136, u137, u138, u139, u140, u141, u142, u143, u144, u145, u146, u147, u148, u149, u150, u151, u152, u153, u154, u155, u156, u157, u158, u159, u160, u161, u162, u163, u164, u165, u166, u167, u168, u169, u170, u171, u172, u173, u174, u175, u176, u177, u178, u179, u180, u181, u182, u183, u184, u185, u186, u187, u188, u189, u190, u191, u192, u193, u194, u195, u196, u197, u198, u199, u200, u201, u202, u203, u204, u205], []⟩ wc := by
  have _hP := hP
  dsimp only at hQ ⊢
  conv => arg 2; whnf
  have HQ := Lib.hid hQ
  clear hQ
  cases tb
  · go_wp2_with fail
    exact HQ.out _ _ _ _ _  d1 _ rfl rfl L6.out S6.out
  · have hw12 : IntKind.i64.wrap (q12 : Int) = (q12 : Int) := IntWalk.i64_in _ (by omega)
    go_wp2_with fail
    refine (L6.out.armed (r20 : Int) (by omega)).mono ?_
    rintro e w8 ⟨rfl, hl8, hk8⟩
    have L8 := Lib.hid hl8
    have S8 := Lib.hid (S6.out.kept hk8 fun g hg => hg)
    clear hl8 hk8
    go_wp2_with fail
    exact HQ.out _ _ _ _ _  (d1.armed r20) _ (armed_files _ _) (by unfold Dsk.armed; split <;> rfl) L8.out S8.out

theorem p23 {w wc : World} {b p : Nat} {X : Nat → Prop} {d3 : Dsk} {L3 : Lg} {x3 : Int} (L9 : Hid (HasL X w wc p b d3 L3)) {u0 u1 u2 u3 u4 u5 u6 u7 u8 u10 u11 u12 u13 u14 u15 u16 u17 u18 u20 u21 u22 u23 u24 u25 u26 u27 u28 u29 u30 u31 u32 u33 u34 u35 u36 u37 u38 u39 u40 u41 u42 u43 u44 u45 u46 u47 u48 u49 u50 u51 u52 u53 u54 u55 u56 u57 u58 u59 u60 u61 u62 u63 u64 u65 u66 u67 u68 u69 u70 u71 u72 u73 u74 u75 u76 u77 u78 u79 u80 u81 u82 u83 u84 u85 u86 u87 u88 u89 u90 u91 u92 u93 u94 u95 u96 u97 u98 u99 u100 u101 u102 u103 u104 u105 u106 u107 u108 u109 u110 u111 u112 u113 u114 u115 u116 u117 u118 u119 u120 u121 u122 u123 u124 u125 u126 u127 u128 u129 u130 u131 u132 u133 u134 u135 u136 u137 u138 u139 u140 u141 u142 u143 u144 u145 u146 u147 u148 u149 u150 u151 u152 u153 u154 u155 u156 u157 u158 u159 u160 u161 u162 u163 u164 u165 u166 u167 u168 u169 u170 u171 u172 u173 u174 u175 u176 u177 u178 u179 u180 u181 u182 u183 u184 u185 u186 u187 u188 u189 u190 u191 u192 u193 u194 u195 u196 u197 u198 u199 u200 u201 u202 u203 u204 u205 : Value} {Q : Exit → Act → World → Prop} (hP : PanicOk Q)
    (hQ : ∀ (s118 s119 s120 s121 s122 s123 : Value) (t : Bool) (wx : World), t = decide (x3 = 0 ∧ d3.down = false) → wx = wc → Q .normal ⟨#[u0, u1, u2, u3, u4, u5, u6, u7, u8, .pointer (some ⟨b, 0, none⟩), u10, u11, u12, u13, u14, u15, u16, u17, u18, .int .i64 x3, u20, u21, u22, u23, u24, u25, u26, u27, u28, u29, u30, u31, u32, u33, u34, u35, u36, u37, u38, u39, u40, u41, u42, u43, u44, u45, u46, u47, u48, u49, u50, u51, u52, u53, u54, u55, u56, u57, u58, u59, u60, u61, u62, u63, u64, u65, u66, u67, u68, u69, u70, u71, u72, u73, u74, u75, u76, u77, u78, u79, u80, u81, u82, u83, u84, u85, u86, u87, u88, u89, u90, u91, u92, u93, u94, u95, u96, u97, u98, u99, u100, u101, u102, u103, u104, u105, u106, u107, u108, u109, u110, u111, u112, u113, u114, u115, u116, u117, s118, s119, s120, s121, s122, s123, .bool t, u125, u126, u127, u128, u129, u130, u131, u132, u133, u134, u135, u136, u137, u138, u139, u140, u141, u142, u143, u144, u145, u146, u147, u148, u149, u150, u151, u152, u153, u154, u155, u156, u157, u158, u159, u160, u161, u162, u163, u164, u165, u166, u167, u168, u169, u170, u171, u172, u173, u174, u175, u176, u177, u178, u179, u180, u181, u182, u183, u184, u185, u186, u187, u188, u189, u190, u191, u192, u193, u194, u195, u196, u197, u198, u199, u200, u201, u202, u203, u204, u205], []⟩ wx) :
    Code.wp Tryz.prog ((Tryz.f9.body.bind (regionOf 23)).getD .skip) Q ⟨#[u0, u1, u2, u3, u4, u5, u6, u7, u8, .pointer (some ⟨b, 0, none⟩), u10, u11, u12, u13, u14, u15, u16, u17, u18, .int .i64 x3, u20, u21, u22, u23, u24, u25, u26, u27, u28, u29, u30, u31, u32, u33, u34, u35, u36, u37, u38, u39, u40, u41, u42, u43, u44, u45, u46, u47, u48, u49, u50, u51, u52, u53, u54, u55, u56, u57, u58, u59, u60, u61, u62, u63, u64, u65, u66, u67, u68, u69, u70, u71, u72, u73, u74, u75, u76, u77, u78, u79, u80, u81, u82, u83, u84, u85, u86, u87, u88, u89, u90, u91, u92, u93, u94, u95, u96, u97, u98, u99, u100, u101, u102, u103, u104, u105, u106, u107, u108, u109, u110, u111, u112, u113, u114, u115, u116, u117, u118, u119, u120, u121, u122, u123, u124, u125, u126, u127, u128, u129, u130, u131, u132, u133, u134, u135, u136, u137, u138, u139, u140, u141, u142, u143, u144, u145, u146, u147, u148, u149, u150, u151, u152, u153, u154, u155, u156, u157, u158, u159, u160, u161, u162, u163, u164, u165, u166, u167, u168, u169, u170, u171, u172, u173, u174, u175, u176, u177, u178, u179, u180, u181, u182, u183, u184, u185, u186, u187, u188, u189, u190, u191, u192, u193, u194, u195, u196, u197, u198, u199, u200, u201, u202, u203, u204, u205], []⟩ wc := by
  have _hP := hP
  dsimp only at hQ ⊢
  conv => arg 2; whnf
  have HQ := Lib.hid hQ
  clear hQ
  by_cases hx : x3 = 0
  case neg =>
    have q1 : (x3 == 0) = false := by simpa using hx
    go_wp2_with fail
    exact HQ.out _ _ _ _ _ _  _ _ (by simp [hx]) rfl
  subst hx
  cases hdn : d3.down
  · go_wp2_with fail
    refine (L9.out.has.down hdn).mono ?_
    rintro e w10 ⟨rfl, rfl⟩
    go_wp2_with fail
    exact HQ.out _ _ _ _ _ _  _ _ (by simp [hdn]) rfl
  · go_wp2_with fail
    refine (L9.out.has.down hdn).mono ?_
    rintro e w10 ⟨rfl, rfl⟩
    go_wp2_with fail
    exact HQ.out _ _ _ _ _ _  _ _ (by simp [hdn]) rfl

theorem p124 {w wc : World} {b p m n c' nk kc : Nat} {a' ka : Option Addr} {d3 : Dsk} {L3' : Lg} {al : List Ev} {x3 : Int} {ks : List Int} {tb : Bool} (htb : tb = decide (x3 = 0 ∧ d3.down = false)) (L9 : Hid (HasL (fun j => (Value.slice a' (m + n) c').ownBlock = some j) w wc p b d3 L3')) (S9 : Hid (Vec 5 wc (.slice a' (m + n) c') (m + n) (al.flatMap evV))) (R3 : Hid (Rd i64v w (.slice ka nk kc) ks)) (CE : Hid (x3 = 0 → L3'.l.length ≤ 2 ∧ (d3.down = false → ∃ g, scanD unpackB d3 = ⟨al, L3'.l, g, 0⟩))) (EVOK : Hid (∀ e ∈ al, e.Ok)) (M6 : Hid (al.length = m + n)) {u0 u1 u2 u4 u5 u6 u7 u8 u10 u12 u14 u15 u16 u17 u18 u19 u20 u21 u22 u23 u24 u25 u26 u27 u28 u29 u30 u31 u32 u33 u34 u35 u36 u37 u38 u39 u40 u41 u42 u43 u44 u45 u46 u47 u48 u49 u50 u51 u52 u53 u54 u55 u56 u57 u58 u59 u60 u61 u62 u63 u64 u65 u66 u67 u68 u69 u70 u71 u72 u73 u74 u75 u76 u77 u78 u79 u80 u81 u82 u83 u84 u85 u86 u87 u88 u89 u90 u91 u92 u93 u94 u95 u96 u97 u98 u99 u100 u101 u102 u103 u104 u105 u106 u107 u108 u109 u110 u111 u112 u113 u114 u115 u116 u117 u118 u119 u120 u121 u122 u123 u125 u126 u127 u128 u129 u130 u131 u132 u133 u134 u135 u136 u137 u138 u139 u140 u141 u142 u143 u144 u145 u146 u147 u148 u149 u150 u151 u152 u153 u154 u155 u156 u157 u158 u159 u160 u161 u162 u163 u164 u165 u166 u167 u168 u169 u170 u171 u172 u173 u174 u175 u176 u177 u178 u179 u180 u181 u182 u183 u184 u185 u186 u187 u188 u189 u190 u191 u192 u193 u194 u195 u196 u197 u198 u199 u200 u201 u202 u203 u204 u205 : Value} {Q : Exit → Act → World → Prop} (hP : PanicOk Q)
    (hQ : ∀ (s20 s21 s22 s125 s126 s127 s128 s129 s130 s131 s132 s133 s134 s135 s136 s137 s138 s139 s140 s141 s142 s143 s144 s145 s146 s147 s148 s149 s150 s151 s152 s153 s154 s155 s156 : Value) (kk : List Int) (wx : World), HasX (fun j => (Value.slice a' (m + n) c').ownBlock = some j) w wx b (d3.crash kk) → Vec 5 wx (.slice a' (m + n) c') (m + n) (al.flatMap evV) → Q .normal ⟨#[u0, u1, u2, .slice ka nk kc, u4, u5, u6, u7, u8, .pointer (some ⟨b, 0, none⟩), u10, .pointer (some ⟨p, 0, none⟩), u12, .slice a' (m + n) c', u14, u15, u16, u17, u18, u19, s20, s21, s22, u23, u24, u25, u26, u27, u28, u29, u30, u31, u32, u33, u34, u35, u36, u37, u38, u39, u40, u41, u42, u43, u44, u45, u46, u47, u48, u49, u50, u51, u52, u53, u54, u55, u56, u57, u58, u59, u60, u61, u62, u63, u64, u65, u66, u67, u68, u69, u70, u71, u72, u73, u74, u75, u76, u77, u78, u79, u80, u81, u82, u83, u84, u85, u86, u87, u88, u89, u90, u91, u92, u93, u94, u95, u96, u97, u98, u99, u100, u101, u102, u103, u104, u105, u106, u107, u108, u109, u110, u111, u112, u113, u114, u115, u116, u117, u118, u119, u120, u121, u122, u123, .bool tb, s125, s126, s127, s128, s129, s130, s131, s132, s133, s134, s135, s136, s137, s138, s139, s140, s141, s142, s143, s144, s145, s146, s147, s148, s149, s150, s151, s152, s153, s154, s155, s156, u157, u158, u159, u160, u161, u162, u163, u164, u165, u166, u167, u168, u169, u170, u171, u172, u173, u174, u175, u176, u177, u178, u179, u180, u181, u182, u183, u184, u185, u186, u187, u188, u189, u190, u191, u192, u193, u194, u195, u196, u197, u198, u199, u200, u201, u202, u203, u204, u205], []⟩ wx) :
    Code.wp Tryz.prog ((Tryz.f9.body.bind (condOf 124)).getD .skip) Q ⟨#[u0, u1, u2, .slice ka nk kc, u4, u5, u6, u7, u8, .pointer (some ⟨b, 0, none⟩), u10, .pointer (some ⟨p, 0, none⟩), u12, .slice a' (m + n) c', u14, u15, u16, u17, u18, u19, u20, u21, u22, u23, u24, u25, u26, u27, u28, u29, u30, u31, u32, u33, u34, u35, u36, u37, u38, u39, u40, u41, u42, u43, u44, u45, u46, u47, u48, u49, u50, u51, u52, u53, u54, u55, u56, u57, u58, u59, u60, u61, u62, u63, u64, u65, u66, u67, u68, u69, u70, u71, u72, u73, u74, u75, u76, u77, u78, u79, u80, u81, u82, u83, u84, u85, u86, u87, u88, u89, u90, u91, u92, u93, u94, u95, u96, u97, u98, u99, u100, u101, u102, u103, u104, u105, u106, u107, u108, u109, u110, u111, u112, u113, u114, u115, u116, u117, u118, u119, u120, u121, u122, u123, .bool tb, u125, u126, u127, u128, u129, u130, u131, u132, u133, u134, u135, u136, u137, u138, u139, u140, u141, u142, u143, u144, u145, u146, u147, u148, u149, u150, u151, u152, u153, u154, u155, u156, u157, u158, u159, u160, u161, u162, u163, u164, u165, u166, u167, u168, u169, u170, u171, u172, u173, u174, u175, u176, u177, u178, u179, u180, u181, u182, u183, u184, u185, u186, u187, u188, u189, u190, u191, u192, u193, u194, u195, u196, u197, u198, u199, u200, u201, u202, u203, u204, u205], []⟩ wc := by
  have _hP := hP
  dsimp only at hQ ⊢
  conv => arg 2; whnf
  have HQ := Lib.hid hQ
  clear hQ
  by_cases hgood : x3 = 0 ∧ d3.down = false
  case neg =>
    obtain rfl : tb = false := htb.trans (decide_eq_false hgood)
    clear htb hgood
    go_wp2_with fail
    refine (L9.out.has.crash (d' := d3.crash ks) _ ks (R3.out.nw L9.out.base) (fun hne g hg => .inr (R3.out.lt hne g hg)) rfl).mono ?_
    rintro e w10 ⟨rfl, h10, k10⟩
    have H10 := Lib.hid h10
    have S10 := Lib.hid (S9.out.kept k10 fun g hg => hg)
    clear h10 k10
    go_wp2_with fail
    exact HQ.out _ _ _ _ _ _ _ _ _ _ _ _ _ _ _ _ _ _ _ _ _ _ _ _ _ _ _ _ _ _ _ _ _ _ _  ks _ H10.out S10.out
  case pos =>
    obtain rfl : tb = true := htb.trans (decide_eq_true hgood)
    obtain ⟨rfl, hdn⟩ := hgood
    obtain ⟨hle2, hsc⟩ := CE.out rfl
    obtain ⟨gd, hsc⟩ := hsc hdn
    have SC := Lib.hid hsc
    obtain ⟨ps, hps⟩ : ∃ z, L3'.l = z := ⟨_, rfl⟩
    obtain ⟨np, hnp⟩ : ∃ z, ps.length = z := ⟨_, rfl⟩
    rw [hps, hnp] at hle2
    rw [hps] at SC
    have HPS := Lib.hid hps
    have HNP := Lib.hid hnp
    have E9 : Hid (Evs wc (.slice a' (m + n) c') al) := Lib.hid ⟨by rw [M6.out]; exact S9.out.src, EVOK.out⟩
    have hp2 : decide ((2 : Int) < (np : Int)) = false := by simp; omega
    clear hsc hps hnp htb
    go_wp2_with fail
    refine (Scan_ok L9.out.has (.inl den_unpack) SC.out).mono ?_
    rintro e w10 ⟨v10, u10', rfl, o1, o2⟩
    obtain ⟨xa, xc, rfl, -⟩ := o1.1.len
    have h2l := o2.1.len
    rw [HNP.out] at h2l
    obtain ⟨ya, yc, rfl, -⟩ := h2l
    have L10 := Lib.hid (L9.out.nw o1.2.1)
    have S10 := Lib.hid (S9.out.nw o1.2.1)
    have E10 := Lib.hid (E9.out.nw o1.2.1)
    have X10 : Hid (Evs w10 (.slice xa al.length xc) al) := Lib.hid ⟨o1.1.src, EVOK.out⟩
    have P10 : Hid (Pcs w10 (.slice ya np yc) ps) := Lib.hid o2.pcs
    clear o1 o2 E9 SC
    go_wp2_with fail
    refine (SameEvents_ok X10.out E10.out).mono ?_
    rintro e w11 ⟨rfl, n11⟩
    have L11 := Lib.hid (L10.out.nw n11)
    have S11 := Lib.hid (S10.out.nw n11)
    have P11 := Lib.hid (P10.out.nw n11)
    clear n11 L10 S10 E10 X10 P10
    go_wp2_with fail
    refine (L11.out.pieces HPS.out (by rw [HNP.out]; omega)).mono ?_
    rintro e w12 ⟨v12, rfl, q1, q2, -⟩
    have Q12 := Lib.hid (q1.pcs (by rw [← HPS.out]; exact L11.out.pok))
    rw [HNP.out] at q1
    obtain ⟨za, zc, rfl, -⟩ := q1.len
    have L12 := Lib.hid (L11.out.nw q2)
    have S12 := Lib.hid (S11.out.nw q2)
    have P12 := Lib.hid (P11.out.nw q2)
    clear q1 q2 L11 S11 P11
    go_wp2_with fail
    refine (SamePieces_ok P12.out Q12.out).mono ?_
    rintro e w13 ⟨rfl, n13⟩
    have H13 := Lib.hid (L12.out.nw n13).has
    have S13 := Lib.hid (S12.out.nw n13)
    clear n13 L12 S12 P12 Q12
    have R14 : Rd i64v (w13.alloc (.cells #[.int .i64 9999, .int .i64 9999, .int .i64 9999, .int .i64 9999, .int .i64 9999, .int .i64 9999, .int .i64 9999, .int .i64 9999] 3)) (.slice (some ⟨w13.heap.size, 0, none⟩) 8 8) [9999, 9999, 9999, 9999, 9999, 9999, 9999, 9999] := rd_lit (f := i64v) w13 3 (0, 0) [9999, 9999, 9999, 9999, 9999, 9999, 9999, 9999] _ 8 rfl (by decide) (by decide)
    have S14 := Lib.hid (S13.out.nw ((Nw.refl w13).alloc (.cells #[.int .i64 9999, .int .i64 9999, .int .i64 9999, .int .i64 9999, .int .i64 9999, .int .i64 9999, .int .i64 9999, .int .i64 9999] 3)))
    have C14 := Lib.hid (((H13.out).alloc (.cells #[.int .i64 9999, .int .i64 9999, .int .i64 9999, .int .i64 9999, .int .i64 9999, .int .i64 9999, .int .i64 9999, .int .i64 9999] 3)).crash (d' := d3.crash [9999, 9999, 9999, 9999, 9999, 9999, 9999, 9999]) _ [9999, 9999, 9999, 9999, 9999, 9999, 9999, 9999] R14 (fun _ g hg => .inl (.inr (by cases hg; rfl))) rfl)
    clear R14
    go_wp2_with fail
    refine C14.out.mono ?_
    rintro e w15 ⟨rfl, h15, k15⟩
    have H15 := Lib.hid (h15.weak (Y := (fun j => (Value.slice a' (m + n) c').ownBlock = some j)) fun k hk => .inl hk)
    have S15 := Lib.hid (S14.out.kept k15 fun g hg => .inl hg)
    clear h15 k15 C14 H13 S13 S14
    go_wp2_with fail
    exact HQ.out _ _ _ _ _ _ _ _ _ _ _ _ _ _ _ _ _ _ _ _ _ _ _ _ _ _ _ _ _ _ _ _ _ _ _  _ _ H15.out S15.out

theorem p30 {wc : World} {ak i m n xc c' : Nat} {a' xa : Option Addr} {al tl : List Ev} (h1 : ak ≤ i) (h2 : i ≤ m + n) (h3 : m + n ≤ 1230) (M6 : Hid (al.length = m + n)) (EVOK : Hid (∀ e ∈ al, e.Ok)) (HTL : Hid (al.take i = tl)) (E11 : Hid (Evs wc (.slice a' (m + n) c') al)) (X11 : Hid (Evs wc (.slice xa i xc) tl)) {u0 u1 u2 u3 u4 u5 u6 u7 u8 u9 u10 u11 u12 u14 u15 u16 u18 u19 u20 u21 u22 u23 u26 u27 u28 u29 u30 u31 u32 u33 u34 u35 u36 u37 u38 u39 u40 u41 u42 u43 u44 u45 u46 u47 u48 u49 u50 u51 u52 u53 u54 u55 u56 u57 u58 u59 u60 u61 u62 u63 u64 u65 u66 u67 u68 u69 u70 u71 u72 u73 u74 u75 u76 u77 u78 u79 u80 u81 u82 u83 u84 u85 u86 u87 u88 u89 u90 u91 u92 u93 u94 u95 u96 u97 u98 u99 u100 u101 u102 u103 u104 u105 u106 u107 u108 u109 u110 u111 u112 u113 u114 u115 u116 u117 u118 u119 u120 u121 u122 u123 u124 u125 u126 u127 u128 u129 u130 u131 u132 u133 u134 u135 u136 u137 u138 u139 u140 u141 u142 u143 u144 u145 u146 u147 u148 u149 u150 u151 u152 u153 u154 u155 u156 u157 u158 u159 u160 u161 u162 u163 u164 u165 u166 u167 u168 u169 u170 u171 u172 u173 u174 u175 u176 u177 u178 u179 u180 u181 u182 u183 u184 u185 u186 u187 u188 u189 u190 u191 u192 u193 u194 u195 u196 u197 u198 u199 u200 u201 u202 u203 u204 u205 : Value} {Q : Exit → Act → World → Prop} (hP : PanicOk Q)
    (hQ : ∀ (s164 s165 s166 s167 s168 s169 s170 s171 s172 s173 s174 s175 s176 s177 s178 s179 s180 s181 s182 s183 s184 s185 s186 : Value)  (wx : World), Nw wc wx → Q .normal ⟨#[u0, u1, u2, u3, u4, u5, u6, u7, u8, u9, u10, u11, u12, .slice a' (m + n) c', u14, u15, u16, .int .i64 ak, u18, u19, u20, u21, u22, u23, .slice xa i xc, .int .i64 0, u26, u27, u28, u29, u30, u31, u32, u33, u34, u35, u36, u37, u38, u39, u40, u41, u42, u43, u44, u45, u46, u47, u48, u49, u50, u51, u52, u53, u54, u55, u56, u57, u58, u59, u60, u61, u62, u63, u64, u65, u66, u67, u68, u69, u70, u71, u72, u73, u74, u75, u76, u77, u78, u79, u80, u81, u82, u83, u84, u85, u86, u87, u88, u89, u90, u91, u92, u93, u94, u95, u96, u97, u98, u99, u100, u101, u102, u103, u104, u105, u106, u107, u108, u109, u110, u111, u112, u113, u114, u115, u116, u117, u118, u119, u120, u121, u122, u123, u124, u125, u126, u127, u128, u129, u130, u131, u132, u133, u134, u135, u136, u137, u138, u139, u140, u141, u142, u143, u144, u145, u146, u147, u148, u149, u150, u151, u152, u153, u154, u155, u156, u157, u158, u159, u160, u161, u162, u163, s164, s165, s166, s167, s168, s169, s170, s171, s172, s173, s174, s175, s176, s177, s178, s179, s180, s181, s182, s183, s184, s185, s186, .bool false, u188, u189, u190, u191, u192, u193, u194, u195, u196, u197, u198, u199, u200, u201, u202, u203, u204, u205], []⟩ wx) :
    Code.wp Tryz.prog ((Tryz.f9.body.bind (regionOf 30)).getD .skip) Q ⟨#[u0, u1, u2, u3, u4, u5, u6, u7, u8, u9, u10, u11, u12, .slice a' (m + n) c', u14, u15, u16, .int .i64 ak, u18, u19, u20, u21, u22, u23, .slice xa i xc, .int .i64 0, u26, u27, u28, u29, u30, u31, u32, u33, u34, u35, u36, u37, u38, u39, u40, u41, u42, u43, u44, u45, u46, u47, u48, u49, u50, u51, u52, u53, u54, u55, u56, u57, u58, u59, u60, u61, u62, u63, u64, u65, u66, u67, u68, u69, u70, u71, u72, u73, u74, u75, u76, u77, u78, u79, u80, u81, u82, u83, u84, u85, u86, u87, u88, u89, u90, u91, u92, u93, u94, u95, u96, u97, u98, u99, u100, u101, u102, u103, u104, u105, u106, u107, u108, u109, u110, u111, u112, u113, u114, u115, u116, u117, u118, u119, u120, u121, u122, u123, u124, u125, u126, u127, u128, u129, u130, u131, u132, u133, u134, u135, u136, u137, u138, u139, u140, u141, u142, u143, u144, u145, u146, u147, u148, u149, u150, u151, u152, u153, u154, u155, u156, u157, u158, u159, u160, u161, u162, u163, u164, u165, u166, u167, u168, u169, u170, u171, u172, u173, u174, u175, u176, u177, u178, u179, u180, u181, u182, u183, u184, u185, u186, u187, u188, u189, u190, u191, u192, u193, u194, u195, u196, u197, u198, u199, u200, u201, u202, u203, u204, u205], []⟩ wc := by
  have _hP := hP
  dsimp only at hQ ⊢
  conv => arg 2; whnf
  have HQ := Lib.hid hQ
  clear hQ
  have hlt1 : ¬ i < ak := by omega
  have hlt2 : decide ((i : Int) < (ak : Int)) = false := by simp; omega
  have hlt3 : ¬ m + n < i := by omega
  have hlt4 : decide ((m : Int) + (n : Int) < (i : Int)) = false := by simp; omega
  obtain ⟨ya, yc, hsl, hev⟩ := evs_h (w := wc) (a := a') (n := m + n) (cap := c') (l := al) (by have := E11.out.src; rw [M6.out] at this; exact this) M6.out EVOK.out i h2
  rw [HTL.out] at hev
  have HV := Lib.hid hev
  clear hev E11
  go_wp2_with fail
  refine (SameEvents_ok X11.out HV.out).mono ?_
  rintro e w12 ⟨rfl, n12⟩
  have N12 := Lib.hid n12
  clear n12 hsl
  go_wp2_with fail
  exact HQ.out _ _ _ _ _ _ _ _ _ _ _ _ _ _ _ _ _ _ _ _ _ _ _  _ N12.out
end Go.Proofs.YtjapijndljknnaaGreatDoor.CompactKeeps
