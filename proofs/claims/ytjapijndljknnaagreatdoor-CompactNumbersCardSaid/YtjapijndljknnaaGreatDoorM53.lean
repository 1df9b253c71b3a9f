/-
  Texts merged by a program of this claim's: CkFree, CNPlain, NoLog, CompBad, LogDisk, Log7N.
-/
import Derived.Test.YtjapijndljknnaaGreatDoorM50
import Derived.Test.YtjapijndljknnaaGreatDoorM42
import Derived.Test.YtjapijndljknnaaGreatDoorM44
import Derived.Test.YtjapijndljknnaaGreatDoorM17
import Derived.Test.YtjapijndljknnaaGreatDoorM41
import Derived.Deep.DeepCutAuto
import Derived.Test.YtjapijndljknnaaGreatDoorM37
import Derived.Test.YtjapijndljknnaaGreatDoorLogJS
import Derived.Test.YtjapijndljknnaaGreatDoorM43
import Derived.Test.YtjapijndljknnaaGreatDoorM34
/-
  On a calm disk with room compaction has no error. Plain words.
-/
namespace Go.Proofs.YtjapijndljknnaaGreatDoor
open Go
set_option maxRecDepth 100000
section
variable {c : Nat} {z : Int} {d d2 : Dsk} {L : Lg} {all es : List Ev}
theorem Ci.free (h : Ci c z d L all) (hc : c ≤ 40) (hl : lone L.l.dropLast = false) :
    ∃ d', compD all L d = ⟨d', { L with l := [densePc (lastP L.l).first.toNat, lastP L.l] }, L.l.dropLast.length, 0⟩ ∧ Ci c z d' { L with l := [densePc (lastP L.l).first.toNat, lastP L.l] } all := by
  have hu := h.kin.used h.names (by have := h.len; omega)
  have hct := h.kin.count h.names
  have hle := h.len
  have hpc := h.pcs
  have hm := h.most
  have hkk := comp_keepsL (d := d) wb_whole wb_dense h.kin h.ok (by omega)
  have hkf := comp_files (d := d) (h.kin.imp wb_whole) hl
  obtain ⟨A, p, old, fs, m, k⟩ := h.kin
  have hU : KIn (WholeU unpackB) d.files L all A p old fs m := ⟨k.nd, k.l, k.right, k.man, sealedF_imp wb_whole k.old_, k.open_, k.m_, k.fr, k.first, k.all_, k.n, k.acked, k.free, k.pname⟩
  have hlast := k.last
  have hdl : L.l.dropLast = A := by rw [k.l]; simp
  have hb := right_bound k.right p (by simp)
  rw [hlast] at hkf ⊢
  rw [hdl] at hl ⊢
  have hfr := hU.fresh_name hl
  obtain ⟨n, hn⟩ : ∃ n, p.first.toNat = n := ⟨_, rfl⟩
  have hfi := k.first
  have hall := k.all_
  have hno : n = old.length := by omega
  have hn1 : n ≤ 1200 := by rw [hall, List.length_append] at hle; omega
  rw [hn] at hfr hkf ⊢
  have hto : all.take n = old := by rw [hall, hno, List.take_left]
  have hpb := packB_len (l := old) (by omega)
  have hdok := dName_ok (n := n) (by omega)
  have hf1 := fresh_calm (b := packB 0 old) h.calm (okPiece_name hdok).1 (by omega) (by omega)
  have c1 := h.calm.delF (dName n)
  have m1 := not_mem_delF h.calm.names (dName n)
  have u1 := usedF_delF d.files (dName n)
  have l1 := length_delF d.files (dName n)
  obtain ⟨F1, hF1⟩ : ∃ F, delF d.files (dName n) ++ [(dName n, (⟨packB 0 old, (packB 0 old).length⟩ : DFile))] = F := ⟨_, rfl⟩
  have u2 : usedF F1 = usedF (delF d.files (dName n)) + (packB 0 old).length := by rw [← hF1]; simp [usedF]
  have l2 : F1.length = (delF d.files (dName n)).length + 1 := by rw [← hF1]; simp
  have c2 : Calm ({ d with files := F1 } : Dsk) := h.calm.same _ (by rw [← hF1, ← setF_miss m1]; exact nodup_setF c1.names _ _)
  rw [hF1] at hf1
  have hn1' : ∀ x, x ∈ namesF F1 ↔ x = dName n ∨ x ∈ namesF d.files := fun x => by
    rw [← hF1]
    unfold namesF
    rw [List.map_append, List.mem_append]
    show x ∈ namesF (delF d.files (dName n)) ∨ _ ↔ _
    rw [namesF_delF, h.calm.names.mem_erase_iff]
    simp only [List.map_cons, List.map_nil, List.mem_singleton]
    constructor
    · rintro (⟨-, e⟩ | e)
      · exact .inr e
      · exact .inl e
    · rintro (e | e)
      · exact .inr e
      · by_cases he : x = dName n
        · exact .inr he
        · exact .inl ⟨he, e⟩
  have hpne : p.name ≠ dName n := hfr p (by rw [k.l]; simp)
  have hold1 : 1 ≤ old.length := by
    rcases sealed_pos k.right.sealed_ with rfl | hh
    · simp [lone] at hl
    · rw [← k.right.first] at hh; omega
  have hseal : sealedFrom [] 0 [densePc n] = true := by
    have e1 : decide (1 ≤ ((n : Nat) : Int)) = true := decide_eq_true (by omega)
    have e2 : decide (((n : Nat) : Int) ≤ 1099511627776) = true := decide_eq_true (by omega)
    show ((okPiece (dName n) && !decide (dName n ∈ ([] : List Str)) && decide ((0 : Int) = 0) && decide (1 ≤ ((n : Nat) : Int)) && decide (((n : Nat) : Int) ≤ 1099511627776)) && true) = true
    rw [hdok, e1, e2]
    simp
  have hr2 : rightL ([densePc n] ++ [p]) = true := (rightL_iff _ _).2 ⟨by simp, hseal, k.right.name, by simp only [List.map_cons, List.map_nil, List.mem_singleton]; exact hpne, by simp only [endOf, densePc]; omega, k.right.count, k.right.dense⟩
  have hml := manifestB_len hr2
  have hin := install_calm c2 hr2 (by simp only; omega) (by simp only; omega)
  have c3 := (c2.delF nextS).setF manifestS ⟨manifestB ([densePc n] ++ [p]), (manifestB ([densePc n] ++ [p])).length⟩
  simp only at hin c3
  obtain ⟨F2, hF2⟩ : ∃ F, setF (delF F1 nextS) manifestS ⟨manifestB ([densePc n] ++ [p]), (manifestB ([densePc n] ++ [p])).length⟩ = F := ⟨_, rfl⟩
  rw [hF2] at hin c3
  have hn2 : ∀ x, x ∈ namesF F2 ↔ x = manifestS ∨ (x ≠ nextS ∧ x ∈ namesF F1) := fun x => by
    rw [← hF2, nmF_setF, namesF_delF]
    have he : ∀ y, y ∈ (namesF F1).erase nextS ↔ y ≠ nextS ∧ y ∈ namesF F1 := fun y => c2.names.mem_erase_iff
    split
    · rename_i hh
      rw [he] at hh ⊢
      constructor
      · exact .inr
      · rintro (rfl | e)
        · exact hh
        · exact e
    · rw [List.mem_append, List.mem_singleton, he]
      exact or_comm
  have hok2 := right_name k.right
  have hAn : (A.map Pc.name).Nodup ∧ p.name ∉ A.map Pc.name := by
    refine ⟨?_, k.right.apart⟩
    exact sealed_nodup k.right.sealed_
  obtain ⟨F3, r1, r2, r3⟩ := rmEach_calm A _ c3 hAn.1 (fun q hq => by
    simp only
    refine (hn2 _).2 (.inr ⟨?_, (hn1' _).2 (.inr ?_)⟩)
    · exact (okPiece_name (hok2 q (by simp [hq]))).2.2
    · obtain ⟨b, e, hf, hw⟩ := sealedF_at hU.old_ q hq
      refine mem_of_ne ?_
      rw [hf]
      exact hw.2.2.1)
  have hcomp : compD all L d = ⟨{ d with files := F3 }, { L with l := [densePc n] ++ [p] }, A.length, 0⟩ := by
    have hsw : L.swap ({ d with files := F1 } : Dsk) [densePc n] = ⟨{ d with files := F2 }, { L with l := [densePc n] ++ [p] }, 0⟩ := by
      unfold Lg.swap
      rw [h.over, hlast, if_neg (by simp), if_neg (by rw [hr2]; decide), hin, if_neg (by simp)]
    unfold compD
    rw [hlast, hdl, hn, hto, h.over, if_neg (by simp), if_neg (by simp [hl]), if_neg (by simp [h.calm.up]), hf1]
    simp only
    rw [if_neg (by simp), hsw]
    simp only
    rw [if_neg (by simp), r1]
    simp only
    rw [if_neg (by simp), h.over]
  rw [hcomp] at hkk ⊢
  refine ⟨_, rfl, ⟨h.calm.up, h.calm.arm, r2⟩, hm, (hkk.2 rfl).2.2.2, fun x hx => ?_, h.over, by simp only [List.length_append, List.length_cons, List.length_nil]; omega, hle, ⟨h.rk.1, h.rk.2⟩, h.ok⟩
  have hx := (r3 x).1 hx
  simp only at hx
  obtain ⟨hx, hxa⟩ := hx
  show x ∈ manifestS :: ([densePc n] ++ [p]).map Pc.name
  rcases (hn2 x).1 hx with rfl | ⟨-, hx⟩
  · simp
  rcases (hn1' x).1 hx with rfl | hx
  · simp [densePc]
  have := h.names x hx
  unfold staysOf at this
  rw [k.l, List.map_append] at this
  simp only [List.mem_cons, List.mem_append, List.map_cons, List.map_nil, List.mem_nil_iff, or_false] at this
  rcases this with rfl | h1 | h1
  · simp
  · exact absurd h1 hxa
  · subst h1; simp
end
end Go.Proofs.YtjapijndljknnaaGreatDoor

/-
  The logs of the chapter's examples on compaction: what they hold, a file that lies in the way, files that are spoilt. Plain words (CompactNumbers).
-/
namespace Go.Proofs.YtjapijndljknnaaGreatDoor
open Go
set_option maxRecDepth 100000
theorem s7_four : [10, 10, 10, 1].foldl S7.step ⟨[pc0], 0, 9⟩ = ⟨[⟨segName 0, 0, 10, false⟩, ⟨segName 10, 10, 10, false⟩, ⟨segName 20, 20, 10, false⟩, ⟨segName 30, 30, 0, false⟩], 31, 20⟩ := by
  simp [List.foldl, S7.step, lastP, pc0, morePcs]
theorem s7_tens : [10, 10, 1].foldl S7.step ⟨[pc0], 0, 9⟩ = ⟨[⟨segName 0, 0, 10, false⟩, ⟨segName 10, 10, 10, false⟩, ⟨segName 20, 20, 0, false⟩], 21, 20⟩ := by
  simp [List.foldl, S7.step, lastP, pc0, morePcs]
section
variable {c : Nat} {z : Int} {d : Dsk} {L : Lg} {all : List Ev}
/-- A file that bears the name which compaction wants, ahead of it. -/
theorem comp_extra (h : Ci c z d L all) (hc : c ≤ 40) (hl : lone L.l.dropLast = false) {n : Nat} (hn : (lastP L.l).first.toNat = n) {b : List UInt8} (hb : b.length ≤ 100) :
    ∃ d', d.append (dName n) b = (d', 0) ∧ compD all L d' = compD all L d ∧ KInv (WholeU unpackB) d'.files L all := by
  have hu := h.kin.used h.names (by have := h.len; omega)
  have hct := h.kin.count h.names
  have hle := h.len
  have hpc := h.pcs
  have hm := h.most
  obtain ⟨A, p, old, fs, m, k⟩ := h.kin.imp wb_whole
  have hlast := k.last
  have hdl : L.l.dropLast = A := by rw [k.l]; simp
  rw [hdl] at hl
  have hfr := k.fresh_name hl
  have hfi := k.first
  have hall := k.all_
  have hn2 : n = old.length := by rw [hlast] at hn; omega
  rw [hlast] at hn
  rw [hn] at hfr
  have hn1 : n ≤ 1200 := by rw [hall, List.length_append] at hle; omega
  have hdok := (okPiece_name (dName_ok (n := n) (by omega))).1
  have hmiss : dName n ∉ namesF d.files := fun hx => by
    rcases List.mem_cons.1 (h.names _ hx) with h1 | h1
    · exact absurd (List.cons.inj h1).1 (by decide)
    · obtain ⟨q, hq, he⟩ := List.mem_map.1 h1
      exact hfr q hq he
  have hap := append_calm (b := b) h.calm hdok (by omega) (.inr (by omega))
  rw [setF_miss hmiss] at hap
  have hc1 : Calm ({ d with files := d.files ++ [(dName n, ⟨(fileOf d.files (dName n)).bytes ++ b, (fileOf d.files (dName n)).synced⟩)] } : Dsk) := by
    have := h.calm.setF (dName n) ⟨(fileOf d.files (dName n)).bytes ++ b, (fileOf d.files (dName n)).synced⟩
    rw [setF_miss hmiss] at this
    exact this
  have he : (fileOf d.files (dName n)).bytes = [] := by
    by_cases hx : (fileOf d.files (dName n)).bytes = []
    · exact hx
    · exact absurd (mem_of_ne hx) hmiss
  obtain ⟨f, hf⟩ : ∃ f, (⟨(fileOf d.files (dName n)).bytes ++ b, (fileOf d.files (dName n)).synced⟩ : DFile) = f := ⟨_, rfl⟩
  have hfb : f.bytes.length = b.length := by rw [← hf]; simp [he]
  rw [hf] at hap hc1
  have hus : usedF (d.files ++ [(dName n, f)]) = usedF d.files + b.length := by simp [usedF, hfb]
  have hpb := packB_len (l := all.take n) (by rw [List.length_take]; omega)
  have htk : (all.take n).length ≤ 1200 := by rw [List.length_take]; omega
  have h1 := fresh_calm (b := packB 0 (all.take n)) h.calm hdok (by omega) (by omega)
  have h2 := fresh_calm (b := packB 0 (all.take n)) hc1 hdok (by simp only; omega) (by simp only [List.length_append, List.length_singleton]; omega)
  have hd2 : delF (d.files ++ [(dName n, f)]) (dName n) = d.files := by
    have := delF_hit (g := f) (B := []) hmiss
    rw [List.append_nil] at this
    exact this
  simp only at h2
  rw [hd2] at h2
  rw [delF_miss hmiss] at h1
  refine ⟨_, hap, ?_, ⟨A, p, old, fs, m, k.files (by have := hc1.names; exact this) fun x hx => ?_⟩⟩
  · unfold compD
    rw [hlast, hn, hdl, h1, h2]
    simp only [h.over, hl, h.calm.up, Bool.false_eq_true, if_false]
  · simp only
    rw [← setF_miss hmiss, fileOf_setF, if_neg]
    rintro rfl
    rcases hx with h3 | ⟨q, hq, h3⟩
    · exact absurd (List.cons.inj h3).1 (by decide)
    · exact hfr q hq h3.symm
theorem putL_ge5 : ∀ (l : List Ev) (h : Ev), 5 * l.length ≤ (putL h l).length
  | [], _ => by simp
  | e :: l, h => by
    have h1 := putL_ge5 l e
    have hi : ∀ x, 1 ≤ (intB x).length := fun x => by unfold intB; have := uintB_pos (zig x); omega
    have h2 := hi (w64 (e.thread - h.thread))
    have h3 := hi (w64 (e.obj - h.obj))
    have h4 := hi (w64 (e.a - h.a))
    have h5 := hi (w64 (e.b - h.b))
    simp only [putL, putE, List.length_append, List.length_cons, List.append_assoc]
    omega
theorem frm_ge (l : List Ev) : 5 * l.length ≤ (frmB l).length := by
  have := putL_ge5 l Ev.zero
  show _ ≤ (frameB sumB l).length
  simp only [frameB, sealB, bodyB, List.length_append]
  omega
theorem segB_ge (n : Nat) : ∀ fs : List (List Ev), 5 * fs.flatten.length ≤ (segB n fs).length
  | [] => by simp
  | f :: fs => by
    have h1 := segB_ge n fs
    have h2 := frm_ge f
    simp only [segB, List.length_append, List.flatMap_cons, List.flatten_cons] at h1 ⊢
    omega
/-- A sealed segment of ten events is cut. -/
theorem cut_bad {A : List Pc} {p q : Pc} {old : List Ev} {fs : List (List Ev)} {m : Nat} {x : Nat} (hc : Calm d) (h : KIn SegWh d.files L all A p old fs m) (hq : q ∈ A) (h10 : q.count = 10) (hx : x < 50) :
    ∃ d', d.cut q.name x = (d', 0) ∧ scanD unpackB d' = ⟨[], [], 0, 14⟩ := by
  obtain ⟨d', h1, h2, h3⟩ := h.tin.spoilt (U := unpackB) hc hq (k := x) (by
    obtain ⟨b, e, f1, fs', f2, rfl, rfl, f3, f4, f5, f6⟩ := sealedF_at h.old_ q hq
    rw [f1]
    simp only
    have := segB_ge q.first.toNat fs'
    omega)
  exact ⟨d', h1, h3⟩
/-- A manifest that names the open piece as the first one. -/
theorem other_bad {p : Pc} (h : Ci c z d L all) (hc : c ≤ 40) (hp : lastP L.l = p) (h0 : 0 < p.first) (hd : p.dense = false) (hcn : p.count = 0) :
    ∃ d', d.install [{ p with first := 0 }] = (d', 0) ∧ scanD unpackB d' = ⟨[], [], 0, 14⟩ := by
  have hu := h.kin.used h.names (by have := h.len; omega)
  have hct := h.kin.count h.names
  have hle := h.len
  have hpc := h.pcs
  have hm := h.most
  obtain ⟨A, p', old, fs, m, k⟩ := h.kin
  obtain rfl : p = p' := by rw [← hp, k.last]
  have hb := right_bound k.right p (by simp)
  have hr : rightL ([] ++ [{ p with first := 0 }]) = true := (rightL_iff _ _).2 ⟨by simp, rfl, k.right.name, by simp, rfl, hcn, hd⟩
  have hr1 : rightL [{ p with first := 0 }] = true := hr
  have hml := manifestB_len hr1
  have hin := install_calm h.calm hr1 (by omega) (by omega)
  refine ⟨_, hin, ?_⟩
  have hdn : ∀ F, ({ d with files := F } : Dsk).down = false := fun F => h.calm.up
  have hmf : fileOf (setF (delF d.files nextS) manifestS ⟨manifestB [{ p with first := 0 }], (manifestB [{ p with first := 0 }]).length⟩) manifestS = ⟨manifestB [{ p with first := 0 }], (manifestB [{ p with first := 0 }]).length⟩ := by rw [fileOf_setF, if_pos rfl]
  have hpo := okPiece_name k.right.name
  have hpf : fileOf (setF (delF d.files nextS) manifestS ⟨manifestB [{ p with first := 0 }], (manifestB [{ p with first := 0 }]).length⟩) p.name = fileOf d.files p.name := by
    rw [fileOf_setF, if_neg (fun e => hpo.2.1 e.symm), fileOf_delF h.calm.names, if_neg (fun e => hpo.2.2 e.symm)]
  obtain ⟨F, hF⟩ : ∃ F, setF (delF d.files nextS) manifestS ⟨manifestB [{ p with first := 0 }], (manifestB [{ p with first := 0 }]).length⟩ = F := ⟨_, rfl⟩
  rw [hF] at hmf hpf ⊢
  have hrm := read_of (d := { d with files := F }) (hdn F) (congrArg DFile.bytes hmf) (manifestB_ne _)
  rw [k.open_] at hpf
  have hne : segB p.first.toNat fs ≠ [] := by unfold segB; exact fun hc => headB_ne _ (List.append_eq_nil_iff.1 hc).1
  have hrp := read_of (d := { d with files := F }) (hdn F) (congrArg DFile.bytes hpf) hne
  have hsc := scanB_at (n := p.first.toNat) (by omega) fs [] k.fr (fun a' => by rw [List.append_nil, readFr_end]; simp)
  rw [List.append_nil] at hsc
  have hsc : scanB (segB p.first.toNat fs) = _ := hsc
  have hpd : pieceD unpackB { d with files := F } { p with first := 0 } true = ([], 0, 14) := by
    unfold pieceD readFl
    simp only
    rw [hrp]
    simp only
    rw [if_neg (by simp), if_pos]
    right; left
    unfold segR
    simp only
    rw [hd, if_neg (by simp), hsc]
    simp only
    omega
  unfold scanD
  rw [hrm]
  simp only
  rw [listedB_at hr1, if_neg (by simp), if_neg (by simp), if_neg (by simp)]
  have hpcs : pcsD unpackB { d with files := F } [{ p with first := 0 }] [] 0 = ([], 0, 14) := by
    unfold pcsD
    rw [show decide (([] : List Pc) = []) = true from rfl, hpd, if_pos (by simp)]
  rw [hpcs, if_pos (by simp)]
/-- The power fails in Sync. -/
theorem sync_down (h : Ci c z d L all) : (L.sync (d.armed 0)).L.over = true ∧ KInv (WholeU unpackB) (L.sync (d.armed 0)).d.files (L.sync (d.armed 0)).L all := by
  have hk := ((by rw [armed_files]; exact h.kin.imp wb_whole : KInv (WholeU unpackB) (d.armed 0).files L all)).sync.1
  refine ⟨?_, hk⟩
  have hp : (lastP L.l).name ∈ namesF d.files := by
    obtain ⟨A, p, old, fs, m, k⟩ := h.kin
    rw [k.last]
    exact mem_of_ne (by rw [k.open_]; unfold segB; exact fun hc => headB_ne _ (List.append_eq_nil_iff.1 hc).1)
  have hs : ((d.armed 0).sync (lastP L.l).name).2 = 15 := by
    unfold Dsk.armed Dsk.sync Dsk.op Dsk.there
    rw [h.calm.up]
    simp [hp, h.calm.up]
  unfold Lg.sync
  rw [h.over, if_neg (by simp), if_pos (by rw [hs]; simp)]
theorem tens_bad (bt : Bt 64 3 d L all) (ci : Ci 3 64 d L all) (hs : L.s7 = ⟨[⟨segName 0, 0, 10, false⟩, ⟨segName 10, 10, 10, false⟩, ⟨segName 20, 20, 0, false⟩], 21, 20⟩) :
    ∃ d', d.cut [115, 48] 20 = (d', 0) ∧ scanD unpackB d' = ⟨[], [], 0, 14⟩ ∧ lone L.l.dropLast = false ∧ L.l ≠ [] ∧ L.l.length ≤ 100 ∧ (lastP L.l).first = ((20 : Nat) : Int) ∧ L.over = false := by
  have hl : L.l = [⟨segName 0, 0, 10, false⟩, ⟨segName 10, 10, 10, false⟩, ⟨segName 20, 20, 0, false⟩] := congrArg S7.l hs
  obtain ⟨A, p, old, fs, m, k⟩ := bt.kin
  have hA : A = [⟨segName 0, 0, 10, false⟩, ⟨segName 10, 10, 10, false⟩] := by
    have h1 : L.l.dropLast = A := by rw [k.l]; simp
    rw [← h1, hl]; rfl
  obtain ⟨d', h1, h2⟩ := cut_bad ci.calm k (q := ⟨segName 0, 0, 10, false⟩) (by rw [hA]; simp) rfl (x := 20) (by omega)
  rw [seg0_eq] at h1
  exact ⟨d', h1, h2, by rw [hl]; rfl, by rw [hl]; simp, by rw [hl]; decide, by rw [hl]; rfl, ci.over⟩
theorem tens_other (ci : Ci 3 64 d L all) (hs : L.s7 = ⟨[⟨segName 0, 0, 10, false⟩, ⟨segName 10, 10, 10, false⟩, ⟨segName 20, 20, 0, false⟩], 21, 20⟩) :
    ∃ d', d.install [⟨[115, 50, 48], 0, 0, false⟩] = (d', 0) ∧ scanD unpackB d' = ⟨[], [], 0, 14⟩ := by
  have hl : L.l = [⟨segName 0, 0, 10, false⟩, ⟨segName 10, 10, 10, false⟩, ⟨segName 20, 20, 0, false⟩] := congrArg S7.l hs
  have e : segName 20 = [115, 50, 48] := by rw [segName, Lib.decDigits_two (by omega) (by omega)]; rfl
  have := other_bad ci (by omega) (p := ⟨segName 20, 20, 0, false⟩) (by rw [hl]; rfl) (by simp) rfl rfl
  rw [e] at this
  exact this
/-- The log that goes on: what each call does. -/
theorem cn_run (h : Ci 4 64 d L all) (hs : L.s7 = ⟨[⟨segName 0, 0, 10, false⟩, ⟨segName 10, 10, 10, false⟩, ⟨segName 20, 20, 10, false⟩, ⟨segName 30, 30, 0, false⟩], 31, 20⟩) :
    ∃ d1 d2 d3 d4 d5 L2 L3 L4 L5 g, d.append (dName 30) [114, 117, 98, 98, 105, 115, 104] = (d1, 0) ∧ KInv (WholeU unpackB) d1.files L all ∧ compD all L d1 = ⟨d2, L2, 3, 0⟩ ∧ Ci 4 64 d2 L2 all ∧
    L2.add d2 (zs 20) = ⟨d3, L3, 0⟩ ∧ Ci 5 64 d3 L3 (all ++ zs 20) ∧ L3.add d3 [⟨0, 0, 0, 9, 0⟩] = ⟨d4, L4, 0⟩ ∧ Ci 6 64 d4 L4 (all ++ zs 20 ++ [⟨0, 0, 0, 9, 0⟩]) ∧
    compD (all ++ zs 20 ++ [⟨0, 0, 0, 9, 0⟩]) L4 d4 = ⟨d5, L5, 2, 0⟩ ∧ scanD unpackB d5 = ⟨all ++ zs 20 ++ [⟨0, 0, 0, 9, 0⟩], [densePc 51, ⟨segName 51, 51, 0, false⟩], g, 0⟩ := by
  have hl : L.l = [⟨segName 0, 0, 10, false⟩, ⟨segName 10, 10, 10, false⟩, ⟨segName 20, 20, 10, false⟩, ⟨segName 30, 30, 0, false⟩] := congrArg S7.l hs
  have hn : L.n = 31 := congrArg S7.n hs
  have hb : L.bytes = 20 := congrArg S7.bytes hs
  have hlast : lastP L.l = ⟨segName 30, 30, 0, false⟩ := by rw [hl]; rfl
  have hlo : lone L.l.dropLast = false := by rw [hl]; rfl
  obtain ⟨d1, a1, a2, a3⟩ := comp_extra h (by omega) hlo (n := 30) (by rw [hlast]; rfl) (b := [114, 117, 98, 98, 105, 115, 104]) (by decide)
  obtain ⟨d2, b1, b2⟩ := h.free (by omega) hlo
  have hz := h.rk.2
  rw [hlast] at b1 b2
  have hdl : L.l.dropLast.length = 3 := by rw [hl]; rfl
  rw [hdl] at b1
  rw [b1] at a2
  obtain ⟨L2, hL2⟩ : ∃ M : Lg, { L with l := [densePc 30, ⟨segName 30, 30, 0, false⟩] } = M := ⟨_, rfl⟩
  have hL2' : ({ L with l := [densePc (30 : Int).toNat, ⟨segName 30, 30, 0, false⟩] } : Lg) = L2 := hL2
  simp only at a2 b2
  rw [hL2'] at a2 b2
  have hs2 : L2.s7 = ⟨[densePc 30, ⟨segName 30, 30, 0, false⟩], 31, 20⟩ := by rw [← hL2]; unfold Lg.s7; simp only [hn, hb]
  have hz2 : L2.size = 64 := by rw [← hL2]; exact hz
  obtain ⟨c1, c2⟩ := b2.add (by omega) (es := zs 20) (by rw [zs_len]; omega) (by rw [zs_len]; omega) (zs_ok 20)
  obtain ⟨R3, hR3⟩ : ∃ R, L2.add d2 (zs 20) = R := ⟨_, rfl⟩
  rw [hR3] at c1 c2
  obtain ⟨d3, L3, e3⟩ := R3
  simp only at c1 c2
  subst c1
  obtain ⟨s3, n3, z3⟩ := s7_add (by omega) (by rw [congrArg S7.n hs2 |> (show L2.n = 31 from ·)]; omega) hz2 hR3
  rw [hs2] at s3
  have s3 : L3.s7 = ⟨[densePc 30, ⟨segName 30, 30, 0, false⟩], 51, 126⟩ := by rw [s3]; simp [S7.step, lastP]
  have l3 : L3.l = [densePc 30, ⟨segName 30, 30, 0, false⟩] := congrArg S7.l s3
  have n3 : L3.n = 51 := congrArg S7.n s3
  have y3 : L3.bytes = 126 := congrArg S7.bytes s3
  have hz9 : ∀ e ∈ ([⟨0, 0, 0, 9, 0⟩] : List Ev), e.Ok := fun e he => by
    rw [List.mem_singleton.1 he]
    exact ⟨by unfold in64; simp, by unfold in64; simp, by unfold in64; simp, by unfold in64; simp⟩
  obtain ⟨c3, c4⟩ := c2.add (by omega) (es := [⟨0, 0, 0, 9, 0⟩]) (by simp) (by simp) hz9
  obtain ⟨R4, hR4⟩ : ∃ R, L3.add d3 [⟨0, 0, 0, 9, 0⟩] = R := ⟨_, rfl⟩
  rw [hR4] at c3 c4
  obtain ⟨d4, L4, e4⟩ := R4
  simp only at c3 c4
  subst c3
  obtain ⟨n4, z4, hh⟩ := add_fields hR4
  have hfst : (lastP L3.l).first = 30 := by rw [l3]; rfl
  have l4 : L4.l = [densePc 30, ⟨segName 30, 30, 21, false⟩, ⟨segName 51, 51, 0, false⟩] := by
    rcases hh with ⟨-, h2, -⟩ | ⟨h1, -, -⟩
    · rw [h2]
      unfold morePcs
      rw [l3, n3]
      simp [lastP]
    · exact absurd ⟨by rw [hfst, n3]; decide, by rw [z3, y3]; decide⟩ h1
  have hlo4 : lone L4.l.dropLast = false := by rw [l4]; rfl
  obtain ⟨d5, f1, f2⟩ := c4.free (by omega) hlo4
  have hlast4 : lastP L4.l = ⟨segName 51, 51, 0, false⟩ := by rw [l4]; rfl
  have hdl4 : L4.l.dropLast.length = 2 := by rw [l4]; rfl
  rw [hlast4] at f1 f2
  rw [hdl4] at f1
  obtain ⟨g, hg⟩ := (f2.kin.rtl).scan wb_whole f2.calm.up
  exact ⟨d1, d2, d3, d4, d5, L2, L3, L4, _, g, a1, a3, a2, b2, hR3, c2, hR4, c4, f1, hg⟩
theorem comp_over {dd : Dsk} {M : Lg} (h : M.over = true) : compD all M dd = ⟨dd, M, 0, 16⟩ := by unfold compD; rw [if_pos h]
end
end Go.Proofs.YtjapijndljknnaaGreatDoor

/-
  What a log that neither Create nor Resume made answers: nothing, and ErrNil.
-/
namespace Go.Proofs.YtjapijndljknnaaGreatDoor
open Go Go.RowKit Go.Sort
set_option maxRecDepth 100000
set_option maxHeartbeats 800000

/-- The cells of a log without a disk, at b. -/
structure ZeroLog (w : World) (b : Nat) : Prop where
  c0 : w.cell? ⟨b, 0, none⟩ = some (.pointer none)
  c2 : w.cell? ⟨b, 2, none⟩ = some (.slice none 0 0)
  c3 : w.cell? ⟨b, 3, none⟩ = some (.int .i64 0)
  c4 : w.cell? ⟨b, 4, none⟩ = some (.int .i64 0)
  c6 : w.cell? ⟨b, 6, none⟩ = some (.bool false)
theorem ZeroLog.nw {w w' : World} {b : Nat} (h : ZeroLog w b) (hw : Nw w w') : ZeroLog w' b := ⟨hw.cell h.c0, hw.cell h.c2, hw.cell h.c3, hw.cell h.c4, hw.cell h.c6⟩
/-- No pointer, or one to a log without a disk. -/
def NoLog (w : World) (v : Value) : Prop := v = .pointer none ∨ ∃ b, v = .pointer (some ⟨b, 0, none⟩) ∧ ZeroLog w b
theorem NoLog.nw {w w' : World} {v : Value} (h : NoLog w v) (hw : Nw w w') : NoLog w' v :=
  h.imp id fun ⟨b, h1, h2⟩ => ⟨b, h1, ⟨hw.cell h2.c0, hw.cell h2.c2, hw.cell h2.c3, hw.cell h2.c4, hw.cell h2.c6⟩⟩
theorem NoLog.ptr {w : World} {v : Value} (h : NoLog w v) : ∃ p, v = .pointer p := by rcases h with rfl | ⟨b, rfl, -⟩ <;> exact ⟨_, rfl⟩
section
variable {w : World} {v : Value}
theorem lup_no (h : NoLog w v) : Calls Tryz.prog 87 #[v] w fun e w' => e = .returned (.int .i64 1) ∧ w = w' := by
  rcases h with rfl | ⟨b, rfl, ⟨c0, -, -, -, -⟩⟩
  · go_enter Tryz.func87, Tryz.ntmps87
    go_wp2
    go_ret
    exact ⟨rfl, rfl⟩
  · have hp := World.block_lt_of_cell? _ _ c0
    go_enter Tryz.func87, Tryz.ntmps87
    go_wp2
    go_ret
    exact ⟨rfl, rfl⟩
theorem Len_no (h : NoLog w v) : Calls Tryz.prog 19 #[v] w fun e w' => e = .returned (.int .i64 0) ∧ w = w' := by
  rcases h with rfl | ⟨b, rfl, ⟨-, -, c3, -, -⟩⟩
  all_goals
    go_enter Tryz.func19, Tryz.ntmps19
    go_wp2
    go_ret
    exact ⟨rfl, rfl⟩
theorem Acked_no (h : NoLog w v) : Calls Tryz.prog 18 #[v] w fun e w' => e = .returned (.int .i64 0) ∧ w = w' := by
  rcases h with rfl | ⟨b, rfl, ⟨-, -, -, c4, -⟩⟩
  all_goals
    go_enter Tryz.func18, Tryz.ntmps18
    go_wp2
    go_ret
    exact ⟨rfl, rfl⟩
theorem Over_no (h : NoLog w v) : Calls Tryz.prog 32 #[v] w fun e w' => e = .returned (.bool false) ∧ w = w' := by
  rcases h with rfl | ⟨b, rfl, ⟨-, -, -, -, c6⟩⟩
  all_goals
    go_enter Tryz.func32, Tryz.ntmps32
    go_wp2
    go_ret
    exact ⟨rfl, rfl⟩
theorem LDisk_no (h : NoLog w v) : Calls Tryz.prog 30 #[v] w fun e w' => e = .returned (.pointer none) ∧ w = w' := by
  rcases h with rfl | ⟨b, rfl, ⟨c0, -, -, -, -⟩⟩
  all_goals
    go_enter Tryz.func30, Tryz.ntmps30
    go_wp2
    go_ret
    exact ⟨rfl, rfl⟩
theorem NPieces_no (h : NoLog w v) : Calls Tryz.prog 12 #[v] w fun e w' => (∃ a c, e = .returned (.slice a 0 c)) ∧ Nw w w' := by
  rcases h with rfl | ⟨b, rfl, ⟨-, c2, -, -, -⟩⟩
  · go_enter Tryz.func12, Tryz.ntmps12
    go_wp2
    go_ret
    exact ⟨⟨_, _, rfl⟩, Nw.refl _⟩
  · have HC := Lib.hid (PClone_ok (w := w) (v := .slice none 0 0) (l := []) ⟨⟨rfl, .inl ⟨none, rfl, rfl⟩⟩, fun q hq => by cases hq⟩ (by simp))
    go_enter Tryz.func12, Tryz.ntmps12
    go_wp2_with fail
    refine HC.out.mono ?_
    rintro e w1 ⟨v, rfl, q1, q2, -⟩
    obtain ⟨a, c, rfl, -⟩ := q1.len
    have N1 := Lib.hid q2
    clear q1 q2
    go_wp2
    go_ret
    exact ⟨⟨_, _, rfl⟩, N1.out⟩
theorem LAppend_no (h : NoLog w v) (s : Value) (hs : ∃ a l c, s = .slice a l c) : Calls Tryz.prog 31 #[v, s] w fun e w' => e = .returned (.int .i64 1) ∧ w = w' := by
  obtain ⟨a, l, c, rfl⟩ := hs
  have H := Lib.hid h
  obtain ⟨p, rfl⟩ := h.ptr
  clear h
  go_enter Tryz.func31, Tryz.ntmps31
  go_wp2_with fail
  refine (lup_no H.out).mono ?_
  rintro e w' ⟨rfl, rfl⟩
  go_wp2
  go_ret
  exact ⟨rfl, rfl⟩
theorem LSync_no (h : NoLog w v) : Calls Tryz.prog 46 #[v] w fun e w' => e = .returned (.int .i64 1) ∧ w = w' := by
  have H := Lib.hid h
  obtain ⟨p, rfl⟩ := h.ptr
  clear h
  go_enter Tryz.func46, Tryz.ntmps46
  go_wp2_with fail
  refine (lup_no H.out).mono ?_
  rintro e w' ⟨rfl, rfl⟩
  go_wp2
  go_ret
  exact ⟨rfl, rfl⟩
theorem Swap_no (h : NoLog w v) (s : Value) (hs : ∃ a l c, s = .slice a l c) : Calls Tryz.prog 33 #[v, s] w fun e w' => e = .returned (.int .i64 1) ∧ w = w' := by
  obtain ⟨a, l, c, rfl⟩ := hs
  have H := Lib.hid h
  obtain ⟨p, rfl⟩ := h.ptr
  clear h
  go_enter Tryz.func33, Tryz.ntmps33
  go_wp2_with fail
  refine (lup_no H.out).mono ?_
  rintro e w' ⟨rfl, rfl⟩
  go_wp2
  go_ret
  exact ⟨rfl, rfl⟩
end
end Go.Proofs.YtjapijndljknnaaGreatDoor

/-
  Package compact, walked: Compact of a log whose files are spoilt, of nil, of a log that nobody made.
-/
namespace Go.Proofs.YtjapijndljknnaaGreatDoor
open Go Go.RowKit Go.Sort
set_option maxRecDepth 100000
set_option maxHeartbeats 1600000
section
variable {X : Nat → Prop} {w0 w : World} {p b : Nat} {d : Dsk} {L : Lg}
theorem packed_bad (h : HasL X w0 w p b d L) {gd x : Int} (hs : scanD unpackB d = ⟨[], [], gd, x⟩) (hx : x ≠ 0) (n : Int) :
    Calls Tryz.prog 92 #[.pointer (some ⟨p, 0, none⟩), .int .i64 n] w fun e w' => e = .returned (.tuple #[.slice none 0 0, .int .i64 x]) ∧ Nw w w' := by
  have H := Lib.hid h
  have S := Lib.hid (Scan_ok h.has (.inl den_unpack) hs)
  have D := Lib.hid (LDisk_ok h)
  have q1 : (x != 0) = true := by simpa using hx
  clear h hx
  go_enter Tryz.func92, Tryz.ntmps92
  go_wp2_with fail
  refine D.out.mono ?_
  rintro e w1 ⟨rfl, rfl⟩
  go_wp2_with fail
  refine S.out.mono ?_
  rintro e w1 ⟨v1, p1, rfl, o1, o2⟩
  have N1 := Lib.hid o1.2.1
  clear o1 o2
  go_wp2
  refine bodyPost_ret (v := .tuple #[.slice none 0 0, .int .i64 x]) (by simp [results, Tryz.results92, go_sem]) rfl ⟨rfl, N1.out⟩
theorem Compact_bad (h : HasL X w0 w p b d L) {gd x : Int} (hs : scanD unpackB d = ⟨[], [], gd, x⟩) (hx : x ≠ 0) (hov : L.over = false) (hlo : lone L.l.dropLast = false) (hne : L.l ≠ []) (h100 : L.l.length ≤ 100) {k : Nat} (hk : (lastP L.l).first = k) :
    Calls Tryz.prog 37 #[.pointer (some ⟨p, 0, none⟩)] w fun e w' => e = .returned (.tuple #[.int .i64 0, .int .i64 x]) ∧ HasL X w0 w' p b d L ∧ Kept X w w' := by
  have H0 := Lib.hid h
  have HOV := Lib.hid hov
  have SC := Lib.hid hs
  have HX := Lib.hid hx
  obtain ⟨l, hl⟩ : ∃ l, L.l = l := ⟨_, rfl⟩
  have HL := Lib.hid hl
  have hsp := split_last hne
  obtain ⟨A, hA⟩ : ∃ A, L.l.dropLast = A := ⟨_, rfl⟩
  obtain ⟨q, hq⟩ : ∃ q, lastP L.l = q := ⟨_, rfl⟩
  rw [hA, hq, hl] at hsp
  have HA := Lib.hid hA
  rw [hA] at hlo
  rw [hq] at hk
  have HQ := Lib.hid hq
  have HSP := Lib.hid hsp
  have hll : l.length ≤ 100 := by rw [← hl]; exact h100
  obtain ⟨na, hna⟩ : ∃ n, A.length = n := ⟨_, rfl⟩
  have HNA := Lib.hid hna
  have hln : l.length = na + 1 := by rw [hsp, List.length_append, hna]; rfl
  rw [hln] at hll
  have HLN := Lib.hid hln
  have HPO := Lib.hid h.pok
  obtain ⟨xb, hxb⟩ : ∃ x, w.heap.size = x := ⟨_, rfl⟩
  have hn1 := (Nw.refl w).alloc (.cells #[.pointer (some ⟨p, 0, none⟩)] 24 (0, 0))
  have N1 := Lib.hid hn1
  have H1 := Lib.hid (h.nw hn1)
  have B1 := heap_alloc_new w (.cells #[.pointer (some ⟨p, 0, none⟩)] 24 (0, 0))
  rw [hxb] at B1
  have HB1 := Lib.hid B1
  clear h hs hov hx hl hne h100 hA hq hsp hna hln hn1 B1
  go_enter Tryz.func37, Tryz.ntmps37
  go_wp2_with fail
  refine (H1.out.pieces HL.out (by rw [HLN.out]; omega)).mono ?_
  rintro e w2 ⟨v2, rfl, q1, q2, q3⟩
  rw [HLN.out] at q1
  obtain ⟨qa, qc, rfl, -⟩ := q1.len
  have N2 := Lib.hid (N1.out.trans q2)
  have V2 := Lib.hid q1
  have F2 := Lib.hid q3
  have HB2 := Lib.hid (q2.at_ HB1.out)
  have H2 := Lib.hid (H1.out.nw q2)
  clear q1 q2 q3 HB1 H1
  have e0 : (((na : Int) + 1) == 0) = false := by simp; omega
  have y0 := cell_of HB2.out (i := 0) rfl
  have hxl := lt_of_block HB2.out
  have hov := HOV.out
  go_wp2_with fail
  refine (H2.out.over hov).mono ?_
  rintro e w3 ⟨rfl, rfl⟩
  have PP2 : Pcs w2 (.slice qa (na + 1) qc) l := ⟨by rw [HLN.out]; exact V2.out.src, by rw [← HL.out]; exact HPO.out⟩
  obtain ⟨a', cap', he, hc1, hc2, hel⟩ := PP2.elem
  rw [HLN.out] at he hc1
  obtain ⟨rfl, rfl⟩ : qa = a' ∧ qc = cap' := by simpa using he
  obtain ⟨g, o, rfl, hg, c0, c1, c2, c3⟩ := hel na (by rw [HLN.out]; omega)
  have hlq : l[na]'(by rw [HLN.out]; omega) = q := by
    have := HSP.out
    subst this
    rw [List.getElem_append_right (by rw [HNA.out]; exact Nat.le_refl _)]
    simp
  rw [hlq] at c0 c1 c2 c3
  have hsl := fun W => pcs_h (g := g) (o := o) hc1 hc2 (by omega) na (by omega) W
  have HEL := Lib.hid hel
  have hw1 : IntKind.i64.wrap ((na : Int) + 1 - 1) = (na : Int) := by rw [show (na : Int) + 1 - 1 = na by omega]; exact IntWalk.i64_in _ (by omega)
  have hi1 : ((na : Int) + 1 - 1) = (na : Int) := by omega
  clear hel hlq he PP2 e0
  go_upto_region 6 with fail
  go_cut [5, 6] (fun s t wx => s = .slice (some ⟨g, o, none⟩) na qc ∧ t = .pointer (some ⟨w2.heap.size, 0, none⟩) ∧ Nw w2 wx ∧ wx.heap[w2.heap.size]? = some (.cells #[.string ⟨q.name.toArray⟩, .int .i64 k, .int .i64 q.count, .bool q.dense] 32 (0, 0)))
  case first =>
    go_region
    go_wp2_with fail
    go_meet
    case rel => exact ⟨rfl, rfl, ((Nw.refl w2).alloc _).drew, by exact heap_alloc_new w2 _⟩
  case rest =>
    obtain ⟨rfl, rfl, n3, b3⟩ := hcut
    obtain ⟨po, hpo⟩ : ∃ x, w2.heap.size = x := ⟨_, rfl⟩
    rw [hpo] at b3 ⊢
    have N3 := Lib.hid (N2.out.trans n3)
    have HB3 := Lib.hid (n3.at_ HB2.out)
    have HO3 := Lib.hid b3
    have H3 := Lib.hid (H2.out.nw n3)
    have PG3 : Hid (g < wc.heap.size ∧ ∀ j (hj : j < l.length), wc.cell? ⟨g, o + j * 4, none⟩ = some (.string ⟨l[j].name.toArray⟩) ∧ wc.cell? ⟨g, o + j * 4 + 1, none⟩ = some (.int .i64 l[j].first) ∧ wc.cell? ⟨g, o + j * 4 + 2, none⟩ = some (.int .i64 l[j].count) ∧ wc.cell? ⟨g, o + j * 4 + 3, none⟩ = some (.bool l[j].dense)) := Lib.hid ⟨Nat.lt_of_lt_of_le hg n3.size, fun j hj => by
      obtain ⟨g2, o2, he2, -, z0, z1, z2, z3⟩ := HEL.out j hj
      obtain ⟨rfl, rfl⟩ : g = g2 ∧ o = o2 := by simpa using he2
      exact ⟨n3.cell z0, n3.cell z1, n3.cell z2, n3.cell z3⟩⟩
    have KX3 : Hid (Kept X w wc) := Lib.hid N3.out.kept
    have hwsz : xb < po := by omega
    clear n3 b3 HB2 H2 HEL c0 c1 c2 c3 y0 hxl hg hsl hw1 hi1 V2 N2
    go_upto_region 7 with fail
    go_cut [48] (fun t wx => t = .bool (lone A) ∧ wx = wc)
    case first =>
      by_cases h0 : na = 0
      case pos =>
        have q1 : ((na : Int) == 0) = true := by simp [h0]
        have hA0 : A = [] := List.eq_nil_of_length_eq_zero (by rw [HNA.out]; exact h0)
        go_wp2_with fail
        go_meet
        case rel => exact ⟨by rw [hA0]; rfl, rfl⟩
      have q1 : ((na : Int) == 0) = false := by simp; omega
      by_cases h1 : na = 1
      case pos =>
        have q2 : ((na : Int) == 1) = true := by simp [h1]
        obtain ⟨x, hA1⟩ : ∃ x, A = [x] := List.length_eq_one_iff.1 (by rw [HNA.out]; exact h1)
        obtain ⟨hg3, hz⟩ := PG3.out
        have z3 := (hz 0 (by rw [HLN.out]; omega)).2.2.2
        have hx0 : l[0]'(by rw [HLN.out]; omega) = x := by
          have := HSP.out
          subst this
          simp [hA1]
        rw [hx0] at z3
        simp only [Nat.zero_mul, Nat.add_zero] at z3
        have hna0 : 0 < na := by omega
        go_wp2_with fail
        go_meet
        case rel => exact ⟨by rw [hA1]; rfl, rfl⟩
      have q2 : ((na : Int) == 1) = false := by simp; omega
      have hA2 : lone A = false := by
        have := HNA.out
        match A, this with
        | [], h => simp at h; omega
        | [x], h => simp at h; omega
        | _ :: _ :: _, _ => rfl
      go_wp2_with fail
      go_meet
      case rel => exact ⟨by rw [hA2], rfl⟩
    case rest =>
      obtain ⟨rfl, rfl⟩ := hcut
      rw [hlo]
      have y0 := cell_of HB3.out (i := 0) rfl
      have y1 := cell_of HO3.out (i := 1) rfl
      have hxl := lt_of_block HB3.out
      have hol := lt_of_block HO3.out
      have q4 : (x != 0) = true := by simpa using HX.out
      go_wp2_with fail
      refine (packed_bad H3.out SC.out HX.out k).mono ?_
      rintro e w4 ⟨rfl, n4⟩
      have N4 := Lib.hid n4
      clear n4
      go_wp2
      refine bodyPost_ret (v := .tuple #[.int .i64 0, .int .i64 x]) (by simp [results, Tryz.results37, go_sem]) rfl ⟨rfl, (H3.out.nw N4.out).nw ((Nw.refl _).alloc _), KX3.out.trans (N4.out.trans ((Nw.refl _).alloc _)).kept⟩
end
theorem Compact_none {w : World} {v : Value} (h : NoLog w v) :
    Calls Tryz.prog 37 #[v] w fun e w' => e = .returned (.tuple #[.int .i64 0, .int .i64 1]) ∧ Nw w w' := by
  obtain ⟨pt, rfl⟩ := h.ptr
  have hn1 := (Nw.refl w).alloc (.cells #[.pointer pt] 24 (0, 0))
  have N1 := Lib.hid hn1
  have H1 := Lib.hid (NPieces_no (h.nw hn1))
  have B1 := heap_alloc_new w (.cells #[.pointer pt] 24 (0, 0))
  have y0 := cell_of B1 (i := 0) rfl
  have hxl := lt_of_block B1
  clear h hn1
  go_enter Tryz.func37, Tryz.ntmps37
  go_wp2_with fail
  refine H1.out.mono ?_
  rintro e w2 ⟨⟨a, c, rfl⟩, n2⟩
  have N2 := Lib.hid (N1.out.trans n2)
  clear n2 H1
  go_wp2
  refine bodyPost_ret (v := .tuple #[.int .i64 0, .int .i64 1]) (by simp [results, Tryz.results37, go_sem]) rfl ⟨rfl, N2.out⟩
end Go.Proofs.YtjapijndljknnaaGreatDoor

/-
  A log's disk, used beside the log: Append, Cut, Install.
-/
namespace Go.Proofs.YtjapijndljknnaaGreatDoor
open Go Go.RowKit Go.Sort
section
variable {X : Nat → Prop} {w0 w w' : World} {p b : Nat} {d d' : Dsk} {L : Lg} {x : Int}
theorem HasL.dAppend (h : HasL X w0 w p b d L) (n : Str) (l : List UInt8) (src : Value) (hs : Bs w src l) (hg : l ≠ [] → ∀ g, src.ownBlock = some g → X g ∨ g < w0.heap.size) (hnl : n.length ≤ 9223372036854775807) (hll : l.length ≤ 140737488355328) (hr : d.append n l = (d', x)) :
    Calls Tryz.prog 27 #[.pointer (some ⟨b, 0, none⟩), .string ⟨n.toArray⟩, src] w (DidL X w0 w p b d' L (.int .i64 x)) :=
  h.step fun _ hY hx => hx.append n l src hs (fun a g e => (hg a g e).imp (hY g) id) hnl hll hr
theorem HasL.dCut (h : HasL X w0 w p b d L) (n : Str) (k : Int) (hr : d.cut n k = (d', x)) :
    Calls Tryz.prog 52 #[.pointer (some ⟨b, 0, none⟩), .string ⟨n.toArray⟩, .int .i64 k] w (DidL X w0 w p b d' L (.int .i64 x)) :=
  h.step fun _ _ hx => hx.cut n k hr
theorem HasL.dInstall (h : HasL X w0 w p b d L) {v : Value} {l : List Pc} (hv : Pcs w v l) (hr : d.install l = (d', x)) :
    Calls Tryz.prog 25 #[.pointer (some ⟨b, 0, none⟩), v] w (DidL X w0 w p b d' L (.int .i64 x)) :=
  h.step fun _ _ hx => by have := Install_ok hx hv; rw [hr] at this; exact this
end
end Go.Proofs.YtjapijndljknnaaGreatDoor

/-
  amanuensislaw07.logged, walked: with the invariant Ci.
-/
namespace Go.Proofs.YtjapijndljknnaaGreatDoor
open Go Go.RowKit Go.Sort
set_option maxRecDepth 100000
set_option maxHeartbeats 1600000
theorem logged7n_ok (w : World) (ht : Tab w) (v : Value) (cs : List Nat) (hcs : ∀ c ∈ cs, 1 ≤ c ∧ c ≤ 25) (hl5 : cs.length ≤ 5) (hv : Rd i64v w v (cnts cs)) :
    Calls Tryz.prog 51 #[v] w fun e w' => ∃ (b p : Nat) (d : Dsk) (L : Lg), e = .returned (.tuple #[.pointer (some ⟨p, 0, none⟩), .bool true]) ∧ HasL (fun _ => False) w w' p b d L ∧
      Bt 64 cs.length d L (cs.flatMap zs) ∧ KInv (WholeU unpackB) d.files L (cs.flatMap zs) ∧ L.s7 = cs.foldl S7.step ⟨[pc0], 0, 9⟩ ∧ Ci cs.length 64 d L (cs.flatMap zs) := by
  have HT := Lib.hid ht
  have HV := Lib.hid hv
  have HCS := Lib.hid hcs
  obtain ⟨a0, c0, rfl, -⟩ := hv.len
  obtain ⟨n, hn⟩ : ∃ n, cs.length = n := ⟨_, rfl⟩
  have hcl : (cnts cs).length = n := by unfold cnts; rw [List.length_map, hn]
  rw [hcl] at HV ⊢
  rw [hn] at hl5 ⊢
  have HN := Lib.hid hn
  clear ht hv hcs hn hcl
  obtain ⟨d0, cr, bt⟩ := Bt.new (size := 64) (by omega) (by omega)
  have hz0 : (newLg 64).s7 = (⟨[pc0], 0, 9⟩ : S7) := by unfold Lg.s7 newLg; simp only [head0]; rfl
  have ci : Ci 0 64 d0 (newLg 64) [] := by
    obtain ⟨d9, c9, h9⟩ := Ci.new (z := 64) (by omega) (by omega)
    obtain rfl : d9 = d0 := by rw [cr] at c9; exact (Prod.mk.inj c9).1.symm
    exact h9
  have CI := Lib.hid ci
  clear ci
  have ki : KInv (WholeU unpackB) d0.files (newLg 64) [] := KInv.new 1048576 (by omega) (by omega) (by omega) cr
  have CR := Lib.hid cr
  have KI := Lib.hid ki
  have BT := Lib.hid bt
  have HZ0 := Lib.hid hz0
  clear cr ki bt hz0
  go_enter Tryz.func51, Tryz.ntmps51
  go_wp2_with fail
  refine (HasX.new 1048576 w (by omega) (by omega)).mono ?_
  rintro e w1 ⟨b, rfl, H1⟩
  have H1 := Lib.hid H1
  have C := Create_ok H1.out HT.out 64
  rw [CR.out] at C
  have C := Lib.hid C
  go_wp2_with fail
  refine C.out.mono ?_
  rintro e w3 ⟨-, ⟨-, p, rfl, L3⟩ | ⟨hx, -⟩⟩
  case inr => exact absurd rfl hx
  have L3 := Lib.hid (L3.less (Y := fun _ => False) fun k hk => hk.elim)
  clear C H1 CR
  go_wp2
  go_loopw [8] (fun i wr => ∃ (k : Nat) (d : Dsk) (L : Lg), k ≤ n ∧ i = .int .i64 k ∧ Bt 64 k d L ((cs.take k).flatMap zs) ∧ KInv (WholeU unpackB) d.files L ((cs.take k).flatMap zs) ∧ L.s7 = (cs.take k).foldl S7.step ⟨[pc0], 0, 9⟩ ∧ L.n ≤ 25 * k ∧ HasL (fun _ => False) w wr p b d L ∧ Ci k 64 d L ((cs.take k).flatMap zs)) (fun i _ => n - (intOf i).toNat)
  case atStart => exact ⟨0, d0, _, by omega, rfl, BT.out, KI.out, HZ0.out, by simp [newLg], L3.out, CI.out⟩
  case round =>
    obtain ⟨k, d, L, hk, rfl, hbt, hki, hs7, hLn, hL, hci⟩ := hrel
    have CK := Lib.hid hci
    clear hci CI
    have BT := Lib.hid hbt
    have KK := Lib.hid hki
    have HS := Lib.hid hs7
    have HLn := Lib.hid hLn
    have HL := Lib.hid hL
    clear hbt hki hs7 hLn hL L3 KI HZ0
    by_cases h1 : k < n
    case neg =>
      obtain rfl : k = n := by omega
      go_wp2
      refine bodyPost_ret (v := .tuple #[.pointer (some ⟨p, 0, none⟩), .bool true]) (by simp [results, Tryz.results51, go_sem]) rfl ⟨b, p, d, L, rfl, HL.out, ?_, ?_, ?_, ?_⟩
      · have := BT.out; rw [List.take_of_length_le (by rw [HN.out]; exact Nat.le_refl _)] at this; exact this
      · have := KK.out; rw [List.take_of_length_le (by rw [HN.out]; exact Nat.le_refl _)] at this; exact this
      · have := HS.out; rw [List.take_of_length_le (by rw [HN.out]; exact Nat.le_refl _)] at this; exact this
      · have := CK.out; rw [List.take_of_length_le (by rw [HN.out]; exact Nat.le_refl _)] at this; exact this
    have hkl : k < cs.length := by rw [HN.out]; exact h1
    obtain ⟨c, hc⟩ : ∃ c, cs[k] = c := ⟨_, rfl⟩
    have hcb : 1 ≤ c ∧ c ≤ 25 := HCS.out c (by rw [← hc]; exact List.getElem_mem _)
    have htk : cs.take (k + 1) = cs.take k ++ [c] := by rw [List.take_succ_eq_append_getElem hkl, hc]
    have HTK := Lib.hid htk
    obtain ⟨a', cap', hv', h2, h3, hel⟩ := HV.out.elems
    obtain ⟨rfl, rfl⟩ : a0 = a' ∧ c0 = cap' := by injection hv' with e1 e2 e3; exact ⟨e1, e3⟩
    obtain ⟨g, o, rfl, hg, hcell⟩ := hel k (by unfold cnts; rw [List.length_map]; exact hkl)
    have hcv : i64v ((cnts cs)[k]'(by unfold cnts; rw [List.length_map]; exact hkl)) = .int .i64 (c : Int) := by simp only [cnts, List.getElem_map, hc, i64v]
    rw [hcv] at hcell
    have hcell := HL.out.base.cell hcell
    have hg := Nat.lt_of_lt_of_le hg HL.out.base.size
    clear hv' hel hcv htk hc
    obtain ⟨W5, hmk, nw5, vc5⟩ := makeN wr c (by omega) .i64
    have EV5 := Lib.hid (⟨by rw [zs_len]; exact vc5.src, zs_ok c⟩ : Evs W5 (.slice (some ⟨wr.heap.size, 0, none⟩) c c) (zs c))
    have L5 := Lib.hid (HL.out.nw nw5)
    obtain ⟨d', L', ad, bt'⟩ := BT.out.add (es := zs c) (by omega) (by rw [zs_len]; omega) (by rw [zs_len]; omega) (zs_ok c)
    have CA := Ak.call L5.out BT.out.ak (by omega) (by unfold in64; omega) HT.out EV5.out
    rw [ad] at CA
    have kk := KK.out.add (d := d) (es := zs c) (seals_wholeU unpackB) (zs_ok c)
    rw [ad, if_pos rfl] at kk
    have ca := (CK.out.add (by omega) (es := zs c) (by rw [zs_len]; omega) (by rw [zs_len]; omega) (zs_ok c)).2
    rw [ad] at ca
    have CC := Lib.hid ca
    clear ca
    have s7 := s7_add hcb.2 (by have := HLn.out; omega) BT.out.ak.size ad
    have CA := Lib.hid CA
    have KA := Lib.hid kk
    have BA := Lib.hid bt'
    have SA := Lib.hid s7
    clear kk bt' s7 ad nw5 vc5
    go_wp2_with fail
    refine CA.out.mono ?_
    rintro e w6 ⟨rfl, L6, -⟩
    have L6 := Lib.hid L6
    clear CA L5 EV5 hmk hcell hg
    go_wp2
    go_roundw
    case rel =>
      refine ⟨k + 1, d', L', by omega, by go_num, ?_, ?_, ?_, ?_, L6.out, ?_⟩
      · rw [HTK.out, List.flatMap_append]; simpa using BA.out
      · rw [HTK.out, List.flatMap_append]; simpa using KA.out
      · rw [HTK.out, List.foldl_append, ← HS.out]; exact SA.out.1
      · have h1 := SA.out.2.1; have h2 := HLn.out; omega
      · rw [HTK.out, List.flatMap_append]; simpa using CC.out
    case measure => simp [intOf]; omega
end Go.Proofs.YtjapijndljknnaaGreatDoor
