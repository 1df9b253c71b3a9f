/-
  Texts merged by a program of this claim's: OkPlain, SameDisk, Cut.
-/
import Derived.Test.YtkhcdbafcigeoaaGreatDoorM5
import Derived.Test.YtkhcdbafcigeoaaGreatDoorM6
import Derived.Test.YtkhcdbafcigeoaaGreatDoorM21
import Derived.Test.YtkhcdbafcigeoaaGreatDoorM10
import Derived.Test.YtkhcdbafcigeoaaGreatDoorM1
import Derived.Laws.Slices
namespace Go.Proofs.YtkhcdbafcigeoaaGreatDoor
open Go Go.RowKit Go.Sort
set_option maxRecDepth 100000
set_option maxHeartbeats 800000
section
variable {d d' : Dsk} {n : Str} {x : Int}
theorem ok_setF (ok : d.Ok) {g : DFile} (hok : okName n = true) (hs : g.synced ≤ g.bytes.length) (hf : n ∈ namesF d.files ∨ d.files.length < 200) (hu : (usedF (setF d.files n g) : Int) ≤ d.most) : ({ d with files := setF d.files n g } : Dsk).Ok := by
  rcases split_name n d.files with h | ⟨A, f, B, hd, hA⟩
  · have hl : d.files.length < 200 := hf.resolve_left h
    have h1 := ok.add h hok hl
    rw [setF_miss h] at hu ⊢
    refine ⟨ok.most0, ok.most1, ok.arm0, ok.arm1, ?_, ?_, ?_, hu, ?_⟩
    · have := h1.names
      simpa [namesF] using this
    · have := h1.named
      simpa [namesF] using this
    · have := h1.few
      simpa using this
    · intro y hy
      rcases List.mem_append.1 hy with hy | hy
      · exact ok.synced y hy
      · rw [List.mem_singleton.1 hy]; exact hs
  · rw [hd, setF_hit hA] at hu ⊢
    exact ok.upd hd hs (by rw [usedF_mid] at hu; exact hu)
theorem ok_op (ok : d.Ok) {may : Int} {act : List (Str × DFile) → List (Str × DFile)} (hact : may = 0 → ({ d with files := act d.files } : Dsk).Ok) (hr : d.op may act = (d', x)) : d'.Ok := by
  unfold Dsk.op at hr
  split at hr
  · obtain ⟨rfl, -⟩ := Prod.mk.inj hr; exact ok
  · split at hr
    · obtain ⟨rfl, -⟩ := Prod.mk.inj hr; exact ok
    · rename_i hm
      split at hr
      · obtain ⟨rfl, -⟩ := Prod.mk.inj hr
        exact ⟨ok.most0, ok.most1, by simp, by simp, ok.names, ok.named, ok.few, ok.used, ok.synced⟩
      · obtain ⟨rfl, -⟩ := Prod.mk.inj hr
        have h := hact (by omega)
        have := ok.arm0; have := ok.arm1
        exact ⟨h.most0, h.most1, by simp only; omega, by simp only; omega, h.names, h.named, h.few, h.used, h.synced⟩
theorem mem_of_there (h : d.there n = 0) : n ∈ namesF d.files := by
  unfold Dsk.there at h
  split at h
  · assumption
  · exact absurd h (by decide)
theorem ok_append (ok : d.Ok) {l : List UInt8} (hr : d.append n l = (d', x)) : d'.Ok := by
  refine ok_op ok (fun hm => ?_) hr
  unfold Dsk.mayAppend at hm
  split at hm
  · rename_i hok
    split at hm
    · exact absurd hm (by decide)
    · rename_i hc
      have h2 := usedF_setF d.files n ⟨(fileOf d.files n).bytes ++ l, (fileOf d.files n).synced⟩
      have h3 := ok.le n
      simp only [List.length_append] at h2
      have hc1 : ¬ (d.most < (usedF d.files + l.length : Nat)) := fun h => hc (.inl h)
      have hc2 : ¬ (n ∉ namesF d.files ∧ 200 ≤ d.files.length) := fun h => hc (.inr h)
      refine ok_setF ok hok (by simp only [List.length_append]; omega) ?_ (by omega)
      by_cases hn : n ∈ namesF d.files
      · exact .inl hn
      · refine .inr ?_
        exact Nat.lt_of_not_le fun h => hc2 ⟨hn, h⟩
  · exact absurd hm (by decide)
theorem ok_sync (ok : d.Ok) (hr : d.sync n = (d', x)) : d'.Ok := by
  refine ok_op ok (fun hm => ?_) hr
  have hn := mem_of_there hm
  have h2 := usedF_setF d.files n ⟨(fileOf d.files n).bytes, (fileOf d.files n).bytes.length⟩
  have := ok.used
  exact ok_setF ok (ok.named n hn) (by simp) (.inl hn) (by simp only at h2; omega)
theorem ok_cut (ok : d.Ok) {k : Int} (hr : d.cut n k = (d', x)) : d'.Ok := by
  refine ok_op ok (fun hm => ?_) hr
  unfold Dsk.mayCut at hm
  split at hm
  · exact absurd hm (by decide)
  · rename_i f hg
    split at hm
    · exact absurd hm (by decide)
    · rename_i hc
      have hn : n ∈ namesF d.files := by
        rcases split_name n d.files with h | ⟨A, g, B, hd, hA⟩
        · rw [(getF_none _ _).2 h] at hg; cases hg
        · rw [hd]; simp [namesF]
      have hfo : fileOf d.files n = f := by unfold fileOf; rw [hg]; rfl
      have h2 := usedF_setF d.files n ⟨(fileOf d.files n).bytes.take k.toNat, k.toNat⟩
      have := ok.used
      simp only [List.length_take] at h2
      rw [hfo] at h2 ⊢
      have hk : ¬ (k < 0) := fun h => hc (.inl h)
      have hk2 : ¬ ((f.bytes.length : Int) < k) := fun h => hc (.inr h)
      exact ok_setF ok (ok.named n hn) (by simp; omega) (.inl hn) (by omega)
theorem ok_remove (ok : d.Ok) (hr : d.remove n = (d', x)) : d'.Ok := by
  refine ok_op ok (fun hm => ?_) hr
  have hn := mem_of_there hm
  rcases split_name n d.files with h | ⟨A, g, B, hd, hA⟩
  · exact absurd hn h
  · rw [show delF d.files n = A ++ B by rw [hd]; exact delF_hit hA]
    exact ok.del hd
theorem ok_rename (ok : d.Ok) {a b : Str} (hr : d.rename a b = (d', x)) : d'.Ok := by
  refine ok_op ok (fun hm => ?_) hr
  split at hm
  · rename_i hb
    exact ok.rename (mem_of_there hm) hb
  · exact absurd hm (by decide)
theorem ok_crashF (ok : d.Ok) : ∀ (ns : List Str) (ks : List Int) (L : List (Str × DFile)), ({ d with files := L } : Dsk).Ok → (∀ m ∈ ns, m ∈ namesF L) → ({ d with files := crashF ns ks L } : Dsk).Ok
  | [], _, _, h, _ => h
  | m :: ns, ks, L, h, hn => by
    have hm := hn m List.mem_cons_self
    have h2 := usedF_setF L m (leaves (fileOf L m) (ks.headD 0))
    have h3 := h.le m
    have hl : (leaves (fileOf L m) (ks.headD 0)).bytes.length ≤ (fileOf L m).bytes.length := by simp only [leaves, List.length_take]; omega
    have hu : (usedF L : Int) ≤ d.most := h.used
    have h4 := ok_setF (d := { d with files := L }) h (g := leaves (fileOf L m) (ks.headD 0)) (h.named m hm) (Nat.le_of_eq (leaves_le _ _ h3)) (.inl hm) (by show (usedF (setF L m _) : Int) ≤ d.most; omega)
    refine ok_crashF ok ns ks.tail _ h4 (fun y hy => ?_)
    have hy' := hn y (List.mem_cons_of_mem _ hy)
    rcases split_name m L with hx | ⟨A, g, B, hd, hA⟩
    · exact absurd hm hx
    · rw [hd, setF_hit hA]; rw [hd] at hy'; simpa [namesF] using hy'
theorem ok_crash (ok : d.Ok) (ks : List Int) : (d.crash ks).Ok := by
  have h := ok_crashF ok d.list ks d.files ok (fun m hm => by unfold Dsk.list at hm; exact List.mem_mergeSort.1 hm)
  exact ⟨h.most0, h.most1, by simp [Dsk.crash], by simp [Dsk.crash], h.names, h.named, h.few, h.used, h.synced⟩
end
end Go.Proofs.YtkhcdbafcigeoaaGreatDoor

namespace Go.Proofs.YtkhcdbafcigeoaaGreatDoor
open Go Go.RowKit Go.Sort
set_option maxRecDepth 100000
set_option maxHeartbeats 3200000
section
variable {X : Nat → Prop}

theorem getF_at {L : List (Str × DFile)} (hn : (namesF L).Nodup) (k : Nat) (hk : k < L.length) : getF L L[k].1 = some L[k].2 := by
  induction L generalizing k with
  | nil => exact absurd hk (by simp)
  | cons x L ih =>
    obtain ⟨m, f⟩ := x
    have hn' : m ∉ namesF L ∧ (namesF L).Nodup := by simpa [namesF] using hn
    cases k with
    | zero => simp [getF]
    | succ k =>
      have hk' : k < L.length := by simpa using hk
      have hne : ¬ m = L[k].1 := fun e => hn'.1 (by rw [e]; exact List.mem_map_of_mem (List.getElem_mem hk'))
      simp only [List.getElem_cons_succ, getF, if_neg hne]
      exact ih hn'.2 k hk'

theorem sd2 {wc : World} {b p : Nat} {S : Nat → Prop} {d : Dsk} {most left : Int} {a la : Option Addr} {cap lc : Nat} {down : Bool} {L : List (Str × DFile)} (HD : Hid (DiskIn wc b d S)) (HB : Hid (wc.heap[p]? = some (DB (.int .i64 most) (.slice a L.length cap) (.int .i64 left) (.bool down)))) (HR : Hid (RefD X wc (.agg #[.int .i64 most, .slice a L.length cap, .int .i64 left, .bool down]) ⟨most, L, left, down⟩)) (hdn : Hid (d.down = down)) (hus : Hid (usedF d.files = usedF L)) (hul : Hid (usedF L ≤ 16777216))  {u1 u2 u4 u6 u7 u8 u9 u10 u11 u12 u13 u14 u15 u16 u17 u18 u19 u20 u21 u22 u23 u24 u25 u26 u27 u28 u29 u30 u31 u32 u33 u34 u35 u36 u37 u38 u39 u40 u41 u42 u43 u44 u45 u46 u47 u48 u49 u50 u51 u52 u53 u54 u55 u56 u57 u58 u59 u60 u61 u62 u63 u64 u65 u66 u67 u68 u69 u70 u71 u72 u73 u74 u75 u76 u77 u78 u79 u80 u81 u82 u83 u84 u85 u86 u87 u88 u89 u90 u91 u92 u93 u94 u95 u96 u97 : Value} {Q : Exit → Act → World → Prop} (hP : PanicOk Q)
    (hQ : ∀ (s12 s13 s14 s15 s16 s17 s18 s19 s20 s21 s22 s23 s24 s25 s26 s27 s28 s29 s30 : Value)  (wx : World), Nw wc wx → Q .normal ⟨#[.pointer (some ⟨b, 0, none⟩), u1, u2, .pointer (some ⟨p, 0, none⟩), u4, .slice la L.length lc, u6, u7, u8, u9, u10, u11, s12, s13, s14, s15, s16, s17, s18, s19, s20, s21, s22, s23, s24, s25, s26, s27, s28, s29, s30, .bool false, u32, u33, u34, u35, u36, u37, u38, u39, u40, u41, u42, u43, u44, u45, u46, u47, u48, u49, u50, u51, u52, u53, u54, u55, u56, u57, u58, u59, u60, u61, u62, u63, u64, u65, u66, u67, u68, u69, u70, u71, u72, u73, u74, u75, u76, u77, u78, u79, u80, u81, u82, u83, u84, u85, u86, u87, u88, u89, u90, u91, u92, u93, u94, u95, u96, u97], []⟩ wx) :
    Code.wp Tryz.prog ((Tryz.f36.body.bind (regionOf 2)).getD .skip) Q ⟨#[.pointer (some ⟨b, 0, none⟩), u1, u2, .pointer (some ⟨p, 0, none⟩), u4, .slice la L.length lc, u6, u7, u8, u9, u10, u11, u12, u13, u14, u15, u16, u17, u18, u19, u20, u21, u22, u23, u24, u25, u26, u27, u28, u29, u30, u31, u32, u33, u34, u35, u36, u37, u38, u39, u40, u41, u42, u43, u44, u45, u46, u47, u48, u49, u50, u51, u52, u53, u54, u55, u56, u57, u58, u59, u60, u61, u62, u63, u64, u65, u66, u67, u68, u69, u70, u71, u72, u73, u74, u75, u76, u77, u78, u79, u80, u81, u82, u83, u84, u85, u86, u87, u88, u89, u90, u91, u92, u93, u94, u95, u96, u97], []⟩ wc := by
  have _hP := hP
  dsimp only at hQ ⊢
  conv => arg 2; whnf
  have HQ := Lib.hid hQ
  clear hQ
  obtain ⟨b0, b1, b2, b3, -⟩ := box_cells HB.out
  have d0 := cellG b0
  have d1 := cellG b1
  have d2 := cellG b2
  have d3 := cellG b3
  clear b0 b1 b2 b3
  have C1 : Hid (∀ p' : Regrown, Calls Tryz.prog 93 #[.pointer (some ⟨b, 0, none⟩)] (grow (redrawn wc p'.d) p'.os) fun e w'' => e = .returned (.bool down) ∧ ∃ p'' : Regrown, w'' = grow (redrawn wc p''.d) p''.os) := Lib.hid (fun p' => quiet_nw fun w2 hw2 => (Down_ok (HD.out.nw hw2)).mono fun e w' ⟨he, hw⟩ => ⟨by rw [he, hdn.out], by rw [← hw]; exact Nw.refl _⟩)
  have C2 : Hid (∀ p' : Regrown, Calls Tryz.prog 94 #[.pointer (some ⟨b, 0, none⟩)] (grow (redrawn wc p'.d) p'.os) fun e w'' => e = .returned (.int .i64 (usedF L)) ∧ ∃ p'' : Regrown, w'' = grow (redrawn wc p''.d) p''.os) := Lib.hid (fun p' => quiet_nw fun w2 hw2 => by have := Used_ok (HD.out.nw hw2); rw [hus.out] at this; exact this)
  have C3 : Hid (∀ p' : Regrown, Calls Tryz.prog 95 #[.agg #[.int .i64 most, .slice a L.length cap, .int .i64 left, .bool down]] (grow (redrawn wc p'.d) p'.os) fun e w'' => e = .returned (.int .i64 (usedF L)) ∧ ∃ p'' : Regrown, w'' = grow (redrawn wc p''.d) p''.os) := Lib.hid (fun p' => quiet_nw fun w2 hw2 => rUsed_ok (HR.out.nw hw2) (by show usedF L ≤ _; have := hul.out; omega))
  refine wp_region_quiet_below (by kernel_rfl) (by kernel_rfl) ?_
  repeat (first | go_big_quiet_step (first | with_reducible exact C1.out _ | with_reducible exact C2.out _ | with_reducible exact C3.out _) | quiet_step (first | with_reducible exact C1.out _ | with_reducible exact C2.out _ | with_reducible exact C3.out _))
  refine wpQuiet_nil ?_
  intro w2 hw2
  exact HQ.out _ _ _ _ _ _ _ _ _ _ _ _ _ _ _ _ _ _ _  _ (Nw.of_regrown hw2)

theorem sd8 {wc : World} {b pf lg lo nl lc k xc : Nat} {S : Nat → Prop} {d : Dsk} {nm : Str} {x2 : List UInt8} {x3 : Nat} {xa : Option Addr} (hk : k < nl) (hnl : nl ≤ lc) (HD : Hid (DiskIn wc b d S)) (HL : Hid (wc.cell? ⟨lg, lo + k, none⟩ = some (.string ⟨nm.toArray⟩))) (HF : Hid (wc.heap[pf]? = some (.cells #[.string ⟨nm.toArray⟩, .slice xa x2.length xc, .int .i64 x3] 143 (0, 0)))) (hf : Hid (fileOf d.files nm = ⟨x2, x3⟩))  {u1 u2 u3 u4 u8 u9 u10 u11 u12 u13 u14 u15 u16 u17 u18 u19 u20 u21 u22 u23 u24 u25 u26 u27 u28 u29 u30 u31 u32 u33 u34 u35 u36 u37 u38 u39 u40 u41 u42 u43 u44 u45 u46 u47 u48 u49 u50 u51 u52 u53 u54 u55 u56 u57 u58 u59 u60 u61 u62 u63 u64 u65 u66 u67 u68 u69 u70 u71 u72 u73 u74 u75 u76 u77 u78 u79 u80 u81 u82 u83 u84 u85 u86 u87 u88 u89 u90 u91 u92 u93 u94 u95 u96 u97 : Value} {Q : Exit → Act → World → Prop} (hP : PanicOk Q)
    (hQ : ∀ (s43 s44 s45 s46 s47 s48 s49 s50 s51 s52 s53 s54 s55 s56 s57 s58 s59 s60 s61 s62 s63 s64 s65 s66 s67 s68 s69 s70 s71 : Value)  (wx : World), Nw wc wx → Q .normal ⟨#[.pointer (some ⟨b, 0, none⟩), u1, u2, u3, u4, .slice (some ⟨lg, lo, none⟩) nl lc, .int .i64 k, .pointer (some ⟨pf, 0, none⟩), u8, u9, u10, u11, u12, u13, u14, u15, u16, u17, u18, u19, u20, u21, u22, u23, u24, u25, u26, u27, u28, u29, u30, u31, u32, u33, u34, u35, u36, u37, u38, u39, u40, u41, u42, s43, s44, s45, s46, s47, s48, s49, s50, s51, s52, s53, s54, s55, s56, s57, s58, s59, s60, s61, s62, s63, s64, s65, s66, s67, s68, s69, s70, s71, .bool false, u73, u74, u75, u76, u77, u78, u79, u80, u81, u82, u83, u84, u85, u86, u87, u88, u89, u90, u91, u92, u93, u94, u95, u96, u97], []⟩ wx) :
    Code.wp Tryz.prog ((Tryz.f36.body.bind (regionOf 8)).getD .skip) Q ⟨#[.pointer (some ⟨b, 0, none⟩), u1, u2, u3, u4, .slice (some ⟨lg, lo, none⟩) nl lc, .int .i64 k, .pointer (some ⟨pf, 0, none⟩), u8, u9, u10, u11, u12, u13, u14, u15, u16, u17, u18, u19, u20, u21, u22, u23, u24, u25, u26, u27, u28, u29, u30, u31, u32, u33, u34, u35, u36, u37, u38, u39, u40, u41, u42, u43, u44, u45, u46, u47, u48, u49, u50, u51, u52, u53, u54, u55, u56, u57, u58, u59, u60, u61, u62, u63, u64, u65, u66, u67, u68, u69, u70, u71, u72, u73, u74, u75, u76, u77, u78, u79, u80, u81, u82, u83, u84, u85, u86, u87, u88, u89, u90, u91, u92, u93, u94, u95, u96, u97], []⟩ wc := by
  have _hP := hP
  dsimp only at hQ ⊢
  conv => arg 2; whnf
  have HQ := Lib.hid hQ
  clear hQ
  obtain ⟨f0, f1, f2, -⟩ := box_cells3 HF.out
  have d0 := cellG f0
  have d1 := cellG f1
  have d2 := cellG f2
  have d3 := cellG HL.out
  clear f0 f1 f2
  have hk0 : (0 : Int) ≤ (k : Int) := by omega
  have hk1 : (k : Int) < (nl : Int) := by omega
  have C1 : Hid (∀ p' : Regrown, Calls Tryz.prog 26 #[.pointer (some ⟨b, 0, none⟩), .string ⟨nm.toArray⟩] (grow (redrawn wc p'.d) p'.os) fun e w'' => e = .returned (.int .i64 x2.length) ∧ ∃ p'' : Regrown, w'' = grow (redrawn wc p''.d) p''.os) := Lib.hid (fun p' => quiet_nw fun w2 hw2 => by have := Size_ok (HD.out.nw hw2) nm; rw [hf.out] at this; exact this)
  have C2 : Hid (∀ p' : Regrown, Calls Tryz.prog 96 #[.pointer (some ⟨b, 0, none⟩), .string ⟨nm.toArray⟩] (grow (redrawn wc p'.d) p'.os) fun e w'' => e = .returned (.int .i64 x3) ∧ ∃ p'' : Regrown, w'' = grow (redrawn wc p''.d) p''.os) := Lib.hid (fun p' => quiet_nw fun w2 hw2 => by have := Synced_ok (HD.out.nw hw2) nm; rw [hf.out] at this; exact this)
  have C3 := C2
  refine wp_region_quiet_below (by kernel_rfl) (by kernel_rfl) ?_
  repeat (first | go_big_quiet_step (first | with_reducible exact C1.out _ | with_reducible exact C2.out _ | with_reducible exact C3.out _) | quiet_step (first | with_reducible exact C1.out _ | with_reducible exact C2.out _ | with_reducible exact C3.out _))
  refine wpQuiet_nil ?_
  intro w2 hw2
  exact HQ.out _ _ _ _ _ _ _ _ _ _ _ _ _ _ _ _ _ _ _ _ _ _ _ _ _ _ _ _ _  _ (Nw.of_regrown hw2)

theorem sd11 {wc : World} {p pf xc bc cap : Nat} {most left : Int} {a xa ba : Option Addr} {down : Bool} {L : List (Str × DFile)} {nm : Str} {x2 bl : List UInt8} {x3 : Nat} {e : Int} (HB : Hid (wc.heap[p]? = some (DB (.int .i64 most) (.slice a L.length cap) (.int .i64 left) (.bool down)))) (HF : Hid (wc.heap[pf]? = some (.cells #[.string ⟨nm.toArray⟩, .slice xa x2.length xc, .int .i64 x3] 143 (0, 0)))) (HX : Hid (Bs wc (.slice xa x2.length xc) x2)) (HBL : Hid (Bs wc (.slice ba bl.length bc) bl)) (hrd : Hid ((bl, e) = if down then ([], 15) else (x2, 0)))  {u0 u1 u2 u4 u5 u6 u10 u11 u12 u13 u14 u15 u16 u17 u18 u19 u20 u21 u22 u23 u24 u25 u26 u27 u28 u29 u30 u31 u32 u33 u34 u35 u36 u37 u38 u39 u40 u41 u42 u43 u44 u45 u46 u47 u48 u49 u50 u51 u52 u53 u54 u55 u56 u57 u58 u59 u60 u61 u62 u63 u64 u65 u66 u67 u68 u69 u70 u71 u72 u73 u74 u75 u76 u77 u78 u79 u80 u81 u82 u83 u84 u85 u86 u87 u88 u89 u90 u91 u92 u93 u94 u95 u96 u97 : Value} {Q : Exit → Act → World → Prop} (hP : PanicOk Q)
    (hQ : ∀ (s82 s83 s84 s85 s86 s87 s88 s89 s90 s91 s92 s93 s94 s95 s96 : Value)  (wx : World), wx = wc → Q .normal ⟨#[u0, u1, u2, .pointer (some ⟨p, 0, none⟩), u4, u5, u6, .pointer (some ⟨pf, 0, none⟩), .slice ba bl.length bc, .int .i64 e, u10, u11, u12, u13, u14, u15, u16, u17, u18, u19, u20, u21, u22, u23, u24, u25, u26, u27, u28, u29, u30, u31, u32, u33, u34, u35, u36, u37, u38, u39, u40, u41, u42, u43, u44, u45, u46, u47, u48, u49, u50, u51, u52, u53, u54, u55, u56, u57, u58, u59, u60, u61, u62, u63, u64, u65, u66, u67, u68, u69, u70, u71, u72, u73, u74, u75, u76, u77, u78, u79, u80, u81, s82, s83, s84, s85, s86, s87, s88, s89, s90, s91, s92, s93, s94, s95, s96, .bool false], []⟩ wx) :
    Code.wp Tryz.prog ((Tryz.f36.body.bind (regionOf 11)).getD .skip) Q ⟨#[u0, u1, u2, .pointer (some ⟨p, 0, none⟩), u4, u5, u6, .pointer (some ⟨pf, 0, none⟩), .slice ba bl.length bc, .int .i64 e, u10, u11, u12, u13, u14, u15, u16, u17, u18, u19, u20, u21, u22, u23, u24, u25, u26, u27, u28, u29, u30, u31, u32, u33, u34, u35, u36, u37, u38, u39, u40, u41, u42, u43, u44, u45, u46, u47, u48, u49, u50, u51, u52, u53, u54, u55, u56, u57, u58, u59, u60, u61, u62, u63, u64, u65, u66, u67, u68, u69, u70, u71, u72, u73, u74, u75, u76, u77, u78, u79, u80, u81, u82, u83, u84, u85, u86, u87, u88, u89, u90, u91, u92, u93, u94, u95, u96, u97], []⟩ wc := by
  have _hP := hP
  dsimp only at hQ ⊢
  conv => arg 2; whnf
  have HQ := Lib.hid hQ
  clear hQ
  obtain ⟨b0, b1, b2, b3, -⟩ := box_cells HB.out
  obtain ⟨f0, f1, f2, -⟩ := box_cells3 HF.out
  have h := hrd.out
  cases down
  · simp only [Bool.false_eq_true, if_false] at h
    obtain ⟨rfl, rfl⟩ := Prod.mk.inj h
    clear h
    go_wp2_with fail
    refine (SameBytes_ok HBL.out HX.out).mono ?_
    rintro e w2 ⟨rfl, rfl⟩
    rw [show (bl == bl) = true by simp]
    go_wp2_with fail
    exact HQ.out _ _ _ _ _ _ _ _ _ _ _ _ _ _ _  _ rfl
  · simp only [if_true] at h
    obtain ⟨rfl, rfl⟩ := Prod.mk.inj h
    clear h
    go_wp2_with fail
    exact HQ.out _ _ _ _ _ _ _ _ _ _ _ _ _ _ _  _ rfl

theorem SameDisk_ok {w : World} {b : Nat} {d r : Dsk} {S : Nat → Prop} {v : Value} (h : DiskIn w b d S) (hr : RefD X w v r) (ho : RefOf d r) :
    Calls Tryz.prog 36 #[.pointer (some ⟨b, 0, none⟩), v] w fun e w' => e = .returned (.bool true) ∧ Nw w w' := by
  have ok := h.ok
  have hlist := ho.list ok
  have HD := Lib.hid h
  have HR := Lib.hid hr
  obtain ⟨sv, rfl, hFL⟩ := hr
  obtain ⟨a, cap, rfl, h1, h2, hel⟩ := hFL.elem
  obtain ⟨most, L, left, down⟩ := r
  have hus : Hid (usedF d.files = usedF L) := Lib.hid (ho.used ok).symm
  have hdn : Hid (d.down = down) := Lib.hid ho.down.symm
  have hul : Hid (usedF L ≤ 16777216) := Lib.hid (ROk.of ok ho).used
  have HO := Lib.hid ho
  simp only at h1 h2 hel hlist HR
  have HE := Lib.hid hel
  have HLS := Lib.hid hlist
  clear hFL hel hlist h ho ok
  unfold maxLen at h2
  have HB0 := Lib.hid (heap_alloc_new w (DB (.int .i64 most) (.slice a L.length cap) (.int .i64 left) (.bool down)))
  have N0 := Lib.hid ((Nw.refl w).alloc (DB (.int .i64 most) (.slice a L.length cap) (.int .i64 left) (.bool down)))
  go_enter Tryz.func36, Tryz.ntmps36
  go_wp2_with fail
  generalize w.alloc (.cells #[.int .i64 most, .slice a L.length cap, .int .i64 left, .bool down] 43) = W0 at HB0 N0 ⊢
  have LO := List_ok (HD.out.nw N0.out)
  rw [HLS.out] at LO
  refine LO.mono ?_
  clear LO
  rintro e w1 ⟨v1, rfl, hv1, n1, -⟩
  obtain ⟨la, lc, rfl, hl1, hl2, hle⟩ := hv1.elems
  have HLE := Lib.hid hle
  have N1 := Lib.hid (N0.out.trans n1)
  have B1 := Lib.hid (n1.at_ HB0.out)
  have hnl : (namesF L).length = L.length := by simp [namesF]
  rw [hnl] at hl1
  clear hv1 hle n1
  rw [hnl]
  have HNL := Lib.hid hnl
  clear hnl
  unfold maxLen at hl2
  go_upto_region 2 with fail
  refine sd2 (Lib.hid (HD.out.nw N1.out)) B1 (Lib.hid (HR.out.nw N1.out)) hdn hus hul (fun _ _ _ _ _ h => h) ?_
  intro s12 s13 s14 s15 s16 s17 s18 s19 s20 s21 s22 s23 s24 s25 s26 s27 s28 s29 s30 w2 hw2
  have N2 := Lib.hid hw2
  have B2 := Lib.hid (hw2.at_ B1.out)
  clear hw2
  go_wp2
  go_loopw [6] (fun i wr => ∃ k : Nat, k ≤ L.length ∧ i = .int .i64 k ∧ Nw w2 wr) (fun i _ => L.length - (intOf i).toNat)
  case atStart => exact ⟨0, Nat.zero_le _, rfl, Nw.refl _⟩
  case round =>
    obtain ⟨k, hk, rfl, hwr⟩ := hrel
    have HW := Lib.hid hwr
    clear hwr
    have NR := Lib.hid ((N1.out.trans N2.out).trans HW.out)
    have BR := Lib.hid (HW.out.at_ B2.out)
    by_cases hlt : k < L.length
    · obtain ⟨g, o, bb, rfl, c0, c1, c2, hb⟩ := HE.out k hlt
      have c0 := NR.out.cell c0
      have c1 := NR.out.cell c1
      have c2 := NR.out.cell c2
      obtain ⟨xa, xc, rfl, -⟩ := hb.len
      obtain ⟨lg, lo, rfl, -, hcl⟩ := HLE.out k (by rw [HNL.out]; exact hlt)
      have hcl := (N2.out.trans HW.out).cell hcl
      have hname : (namesF L)[k]'(by rw [HNL.out]; exact hlt) = L[k].1 := by simp [namesF]
      rw [hname] at hcl
      have hget : getF L L[k].1 = some L[k].2 := getF_at (srt_nodup HO.out.srt) k hlt
      have HX := Lib.hid hb
      have HG := Lib.hid hget
      clear hb hname hget
      obtain ⟨b0, b1, b2, b3, -⟩ := box_cells BR.out
      generalize L[k] = x at *
      obtain ⟨x1, x2, x3⟩ := x
      simp only at c0 c1 c2 hcl HG HX
      have HCL := Lib.hid (show wr.cell? ⟨lg, lo + k, none⟩ = some (.string ⟨x1.toArray⟩) from hcl)
      clear hcl
      go_upto_region 8 with fail
      have F2 := Lib.hid (heap_alloc_new wr (.cells #[.string ⟨x1.toArray⟩, .slice xa x2.length xc, .int .i64 x3] 143))
      have NA := Lib.hid ((Nw.refl wr).alloc (.cells #[.string ⟨x1.toArray⟩, .slice xa x2.length xc, .int .i64 x3] 143))
      generalize hpf : wr.heap.size = pf at F2 ⊢
      generalize wr.alloc (.cells #[.string ⟨x1.toArray⟩, .slice xa x2.length xc, .int .i64 x3] 143) = W3 at F2 NA ⊢
      clear c0 c1 c2 b0 b1 b2 b3 hpf
      have hfd : fileOf d.files x1 = ⟨x2, x3⟩ := by rw [← HO.out.file]; simp [fileOf, HG.out]
      have HFD := Lib.hid hfd
      have hrd0 : d.read x1 = if down then ([], 15) else (x2, 0) := by
        unfold Dsk.read
        rw [hdn.out, ← HO.out.get, HG.out]
      have HRD := Lib.hid hrd0
      clear hfd hrd0
      have N3 := Lib.hid (NR.out.trans NA.out)
      refine sd8 hlt hl1 (Lib.hid (HD.out.nw N3.out)) (Lib.hid (NA.out.cell HCL.out)) F2 HFD (fun _ _ _ _ _ h => h) ?_
      intro s43 s44 s45 s46 s47 s48 s49 s50 s51 s52 s53 s54 s55 s56 s57 s58 s59 s60 s61 s62 s63 s64 s65 s66 s67 s68 s69 s70 s71 w4 hw4
      have N4 := Lib.hid hw4
      clear hw4
      have hcl := N4.out.cell (NA.out.cell HCL.out)
      have hk0 : (0 : Int) ≤ (k : Int) := by omega
      have hk1 : (k : Int) < (L.length : Int) := by omega
      go_wp2_with fail
      refine (Read_ok (HD.out.nw (N3.out.trans N4.out)) x1).mono ?_
      rintro e w5 ⟨v5, rfl, hown, n5, -⟩
      obtain ⟨ba, bc, hbv, -⟩ := hown.rd.len
      obtain ⟨bl, ee, hbe⟩ : ∃ bl ee, d.read x1 = (bl, ee) := ⟨_, _, rfl⟩
      rw [hbe] at hown hbv ⊢
      simp only at hown hbv
      subst hbv
      have BL := Lib.hid hown.rd
      have N5 := Lib.hid n5
      have HBE := Lib.hid hbe
      clear hown n5 hbe hcl
      go_upto_region 11 with fail
      have N35 := Lib.hid ((NA.out.trans N4.out).trans N5.out)
      refine sd11 (Lib.hid (N35.out.at_ BR.out)) (Lib.hid (N5.out.at_ (N4.out.at_ F2.out))) (Lib.hid (HX.out.1.nw (NR.out.trans N35.out))) BL (Lib.hid (HBE.out.symm.trans HRD.out)) (fun _ _ _ _ _ h => h) ?_
      intro s82 s83 s84 s85 s86 s87 s88 s89 s90 s91 s92 s93 s94 s95 s96 w6 hw6
      subst hw6
      go_wp2
      go_roundw
      case rel => exact ⟨k + 1, by omega, by go_num, HW.out.trans N35.out⟩
      case measure => simp [intOf]; omega
    · go_wp2
      go_ret
      exact ⟨rfl, NR.out⟩

end
end Go.Proofs.YtkhcdbafcigeoaaGreatDoor

namespace Go.Proofs.YtkhcdbafcigeoaaGreatDoor
open Go Go.RowKit
section
variable {α : Type} {f : α → Value} {w : World} {a : Option Addr} {n c k : Nat} {l : List α}
theorem Rd.take (h : Rd f w (.slice a n c) l) (hk : k ≤ l.length) : Rd f w (sliced a 0 k c 1) (l.take k) := by
  rcases h with ⟨a', h1, rfl⟩ | ⟨g, o, cap, h1, h2, h3, h4, h5⟩
  · cases h1
    obtain rfl : k = 0 := by simpa using hk
    exact .inl ⟨a, by simp [sliced], by simp⟩
  · cases h1
    refine .inr ⟨g, o, c, ?_, ?_, h3, h4, fun i hi => ?_⟩
    · unfold sliced; split <;> simp [Addr.add, Nat.min_eq_left hk]
    · rw [List.length_take]; omega
    · rw [List.length_take] at hi
      rw [List.getElem_take]
      exact h5 i (by omega)
theorem Rd.drop (h : Rd f w (.slice a n c) l) (hk : k ≤ l.length) : Rd f w (sliced a k n c 1) (l.drop k) := by
  rcases h with ⟨a', h1, rfl⟩ | ⟨g, o, cap, h1, h2, h3, h4, h5⟩
  · cases h1
    obtain rfl : k = 0 := by simpa using hk
    exact .inl ⟨a, by simp [sliced], by simp⟩
  · cases h1
    by_cases hc : c = k
    · subst hc
      have : l.length = c := by omega
      refine .inr ⟨g, o, 0, ?_, ?_, by simp, h4, fun i hi => ?_⟩
      · unfold sliced; simp
      · rw [List.length_drop]; omega
      · rw [List.length_drop] at hi; omega
    · refine .inr ⟨g, o + k, c - k, ?_, ?_, by omega, h4, fun i hi => ?_⟩
      · unfold sliced; simp [hc, Addr.add]
      · rw [List.length_drop]; omega
      · rw [List.length_drop] at hi
        rw [List.getElem_drop, Nat.add_assoc]
        exact h5 (k + i) (by omega)
end
end Go.Proofs.YtkhcdbafcigeoaaGreatDoor
