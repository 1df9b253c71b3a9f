/-
  The statements' scripts: what a call of a script is, what it does to a disk; two disks held against one another.
-/
import Derived.Test.YtihagdadbeoeoaaDoorHasX
import Derived.Test.YtihagdadbeoeoaaDoorOpens
namespace Go.Proofs.YtihagdadbeoeoaaDoor
open Go Go.RowKit Go.Sort
set_option maxRecDepth 100000
set_option maxHeartbeats 1600000

structure OpR where
  kind : Int
  n : Int
  name : Str
  tgt : Str
  b : List UInt8
  keeps : List Int
/-- What an element's cells say. -/
structure OpIs (W : World) (cs : List Value) (o : OpR) (vb vk : Value) : Prop where
  cells : cs = [.int .i64 o.kind, .int .i64 o.n, .string ⟨o.name.toArray⟩, .string ⟨o.tgt.toArray⟩, vb, vk]
  bs : Bs W vb o.b
  ks : Rd i64v W vk o.keeps
  name : o.name.length ≤ 9223372036854775807
  tgt : o.tgt.length ≤ 9223372036854775807
  n0 : -9223372036854775808 ≤ o.n
  n1 : o.n ≤ 9223372036854775807
def isOp (W : World) (cs : List Value) (o : OpR) : Prop := ∃ vb vk, OpIs W cs o vb vk

theorem opener_op {H : Type} {enc : TypeId × Value → H} {W : World} : Opener enc Tryd.prog W 57 (isOp W) := by
  refine Opener.imp (Opener.struct6 Tryd.underlying57 (by kernel_rfl) (by kernel_rfl) (Opener.i64 Tryd.underlying3) (Opener.i64 Tryd.underlying3) (Opener.str Tryd.underlying9) (Opener.str Tryd.underlying9)
    (Opener.bytes Tryd.underlying29 Tryd.underlying5 (by kernel_rfl)) (Opener.i64s Tryd.underlying23 Tryd.underlying3 (by kernel_rfl))) ?_
  rintro cs ⟨k, n, a, b, l, ks⟩ ⟨v0, v1, v2, v3, v4, v5, rfl, h0, h1, h2, h3, ⟨u4, h4, hb⟩, ⟨u5, h5, hk, -⟩⟩
  have e0 := List.singleton_inj.1 h0.1
  have e1 := List.singleton_inj.1 h1.1
  have e2 := List.singleton_inj.1 h2.1
  have e3 := List.singleton_inj.1 h3.1
  have e4 := List.singleton_inj.1 h4
  have e5 := List.singleton_inj.1 h5
  exact ⟨⟨k, n, a, b, l, ks⟩, u4, u5, by rw [e0, e1, e2, e3, e4, e5], hb, hk, h2.2, h3.2, h1.2.1, h1.2.2⟩

/-- What a call does. -/
def Dsk.does (d : Dsk) (o : OpR) : Dsk × Int :=
  if o.kind = 1 ∨ o.kind = 2 ∨ o.kind = 3 then d.append o.name o.b
  else if o.kind = 4 ∨ o.kind = 5 then d.sync o.name
  else if o.kind = 6 then d.rename o.name o.tgt
  else if o.kind = 7 then d.remove o.name
  else if o.kind = 8 then d.cut o.name o.n
  else if o.kind = 9 then (d.armed o.n, 0)
  else if o.kind = 10 then (d.crash o.keeps, 0)
  else (d, 0)
def OpR.small (o : OpR) : Bool := decide (o.b.length ≤ 200) && decide (o.name.length ≤ 100) && decide (o.tgt.length ≤ 100) && decide (o.keeps.length ≤ 300)
def OpR.agg (o : OpR) (vb vk : Value) : Value := .agg #[.int .i64 o.kind, .int .i64 o.n, .string ⟨o.name.toArray⟩, .string ⟨o.tgt.toArray⟩, vb, vk]

section
variable {X : Nat → Prop} {w0 w : World} {b : Nat} {d d' : Dsk}
theorem DidX.nw {w1 w2 : World} {v : Value} {e : Ending} (hw : Nw w w1) (h : DidX X w0 w1 b d' v e w2) : DidX X w0 w b d' v e w2 := ⟨h.1, h.2.1, hw.kept.trans h.2.2⟩
/-- What is handed in, behind some new blocks. -/
theorem does_append (h : HasX X w0 w b d) (k n : Int) (name tgt : Str) (l : List UInt8) (_ks : List Int) (vb vk : Value) (hk : k = 1 ∨ k = 2 ∨ k = 3) (hb : Bs w0 vb l) (hnl : name.length ≤ 9223372036854775807) (hl : l.length ≤ 140737488355328)
    {x : Int} (hr : d.append name l = (d', x)) :
    Calls Tryd.prog 44 #[.pointer (some ⟨b, 0, none⟩), .agg #[.int .i64 k, .int .i64 n, .string ⟨name.toArray⟩, .string ⟨tgt.toArray⟩, vb, vk]] w (DidX X w0 w b d' (.int .i64 x)) := by
  have hn : Nw w (w.alloc (.cells #[.int .i64 k, .int .i64 n, .string ⟨name.toArray⟩, .string ⟨tgt.toArray⟩, vb, vk] 57)) := (Nw.refl w).alloc _
  have C := Lib.hid ((h.nw hn).append name l vb ((hb.nw h.base).nw hn) (fun hne g hg => .inr (hb.lt hne g hg)) hnl hl hr)
  have HN := Lib.hid hn
  clear h hb hr hn
  rcases hk with rfl | rfl | rfl
  all_goals
    go_enter Tryd.func44, Tryd.ntmps44
    go_wp2_with fail
    refine C.out.mono ?_
    rintro e w1 ⟨rfl, h1⟩
    go_wp2
    go_ret
    exact DidX.nw HN.out ⟨rfl, h1⟩
theorem does_sync (h : HasX X w0 w b d) (k n : Int) (name tgt : Str) (vb vk : Value) (hk : k = 4 ∨ k = 5) {x : Int} (hr : d.sync name = (d', x)) :
    Calls Tryd.prog 44 #[.pointer (some ⟨b, 0, none⟩), .agg #[.int .i64 k, .int .i64 n, .string ⟨name.toArray⟩, .string ⟨tgt.toArray⟩, vb, vk]] w (DidX X w0 w b d' (.int .i64 x)) := by
  have hn : Nw w (w.alloc (.cells #[.int .i64 k, .int .i64 n, .string ⟨name.toArray⟩, .string ⟨tgt.toArray⟩, vb, vk] 57)) := (Nw.refl w).alloc _
  have C := Lib.hid ((h.nw hn).sync name hr)
  have HN := Lib.hid hn
  clear h hr hn
  rcases hk with rfl | rfl
  all_goals
    go_enter Tryd.func44, Tryd.ntmps44
    go_wp2_with fail
    refine C.out.mono ?_
    rintro e w1 ⟨rfl, h1⟩
    go_wp2
    go_ret
    exact DidX.nw HN.out ⟨rfl, h1⟩
theorem does_rename (h : HasX X w0 w b d) (n : Int) (name tgt : Str) (vb vk : Value) (htl : tgt.length ≤ 9223372036854775807) {x : Int} (hr : d.rename name tgt = (d', x)) :
    Calls Tryd.prog 44 #[.pointer (some ⟨b, 0, none⟩), .agg #[.int .i64 6, .int .i64 n, .string ⟨name.toArray⟩, .string ⟨tgt.toArray⟩, vb, vk]] w (DidX X w0 w b d' (.int .i64 x)) := by
  have hn : Nw w (w.alloc (.cells #[.int .i64 6, .int .i64 n, .string ⟨name.toArray⟩, .string ⟨tgt.toArray⟩, vb, vk] 57)) := (Nw.refl w).alloc _
  have C := Lib.hid ((h.nw hn).rename name tgt htl hr)
  have HN := Lib.hid hn
  clear h hr hn
  go_enter Tryd.func44, Tryd.ntmps44
  go_wp2_with fail
  refine C.out.mono ?_
  rintro e w1 ⟨rfl, h1⟩
  go_wp2
  go_ret
  exact DidX.nw HN.out ⟨rfl, h1⟩
theorem does_remove (h : HasX X w0 w b d) (n : Int) (name tgt : Str) (vb vk : Value) {x : Int} (hr : d.remove name = (d', x)) :
    Calls Tryd.prog 44 #[.pointer (some ⟨b, 0, none⟩), .agg #[.int .i64 7, .int .i64 n, .string ⟨name.toArray⟩, .string ⟨tgt.toArray⟩, vb, vk]] w (DidX X w0 w b d' (.int .i64 x)) := by
  have hn : Nw w (w.alloc (.cells #[.int .i64 7, .int .i64 n, .string ⟨name.toArray⟩, .string ⟨tgt.toArray⟩, vb, vk] 57)) := (Nw.refl w).alloc _
  have C := Lib.hid ((h.nw hn).remove name hr)
  have HN := Lib.hid hn
  clear h hr hn
  go_enter Tryd.func44, Tryd.ntmps44
  go_wp2_with fail
  refine C.out.mono ?_
  rintro e w1 ⟨rfl, h1⟩
  go_wp2
  go_ret
  exact DidX.nw HN.out ⟨rfl, h1⟩
theorem does_cut (h : HasX X w0 w b d) (n : Int) (name tgt : Str) (vb vk : Value) {x : Int} (hr : d.cut name n = (d', x)) :
    Calls Tryd.prog 44 #[.pointer (some ⟨b, 0, none⟩), .agg #[.int .i64 8, .int .i64 n, .string ⟨name.toArray⟩, .string ⟨tgt.toArray⟩, vb, vk]] w (DidX X w0 w b d' (.int .i64 x)) := by
  have hn : Nw w (w.alloc (.cells #[.int .i64 8, .int .i64 n, .string ⟨name.toArray⟩, .string ⟨tgt.toArray⟩, vb, vk] 57)) := (Nw.refl w).alloc _
  have C := Lib.hid ((h.nw hn).cut name n hr)
  have HN := Lib.hid hn
  clear h hr hn
  go_enter Tryd.func44, Tryd.ntmps44
  go_wp2_with fail
  refine C.out.mono ?_
  rintro e w1 ⟨rfl, h1⟩
  go_wp2
  go_ret
  exact DidX.nw HN.out ⟨rfl, h1⟩
theorem does_arm (h : HasX X w0 w b d) (n : Int) (name tgt : Str) (vb vk : Value) (hn1 : n ≤ 9223372036854775807) (hr : d.armed n = d') :
    Calls Tryd.prog 44 #[.pointer (some ⟨b, 0, none⟩), .agg #[.int .i64 9, .int .i64 n, .string ⟨name.toArray⟩, .string ⟨tgt.toArray⟩, vb, vk]] w (DidX X w0 w b d' (.int .i64 0)) := by
  have hn : Nw w (w.alloc (.cells #[.int .i64 9, .int .i64 n, .string ⟨name.toArray⟩, .string ⟨tgt.toArray⟩, vb, vk] 57)) := (Nw.refl w).alloc _
  have C := Lib.hid ((h.nw hn).arm n hn1 hr)
  have HN := Lib.hid hn
  clear h hr hn
  go_enter Tryd.func44, Tryd.ntmps44
  go_wp2_with fail
  refine C.out.mono ?_
  rintro e w1 ⟨rfl, h1⟩
  go_wp2
  go_ret
  exact DidX.nw HN.out ⟨rfl, h1⟩
theorem does_crash (h : HasX X w0 w b d) (n : Int) (name tgt : Str) (ks : List Int) (vb vk : Value) (hk : Rd i64v w0 vk ks) (hr : d.crash ks = d') :
    Calls Tryd.prog 44 #[.pointer (some ⟨b, 0, none⟩), .agg #[.int .i64 10, .int .i64 n, .string ⟨name.toArray⟩, .string ⟨tgt.toArray⟩, vb, vk]] w (DidX X w0 w b d' (.int .i64 0)) := by
  have hn : Nw w (w.alloc (.cells #[.int .i64 10, .int .i64 n, .string ⟨name.toArray⟩, .string ⟨tgt.toArray⟩, vb, vk] 57)) := (Nw.refl w).alloc _
  have C := Lib.hid ((h.nw hn).crash vk ks ((hk.nw h.base).nw hn) (fun hne g hg => .inr (hk.lt hne g hg)) hr)
  have HN := Lib.hid hn
  clear h hk hr hn
  go_enter Tryd.func44, Tryd.ntmps44
  go_wp2_with fail
  refine C.out.mono ?_
  rintro e w1 ⟨rfl, h1⟩
  go_wp2
  go_ret
  exact DidX.nw HN.out ⟨rfl, h1⟩
theorem does_else (h : HasX X w0 w b d) (k n : Int) (name tgt : Str) (vb vk : Value) (hk : ∀ i : Int, 1 ≤ i → i ≤ 10 → k ≠ i) :
    Calls Tryd.prog 44 #[.pointer (some ⟨b, 0, none⟩), .agg #[.int .i64 k, .int .i64 n, .string ⟨name.toArray⟩, .string ⟨tgt.toArray⟩, vb, vk]] w (DidX X w0 w b d (.int .i64 0)) := by
  have hn : Nw w (w.alloc (.cells #[.int .i64 k, .int .i64 n, .string ⟨name.toArray⟩, .string ⟨tgt.toArray⟩, vb, vk] 57)) := (Nw.refl w).alloc _
  have HH := Lib.hid (h.nw hn)
  have HN := Lib.hid hn
  have k1 : (k == 1) = false := beq_eq_false_iff_ne.2 (hk 1 (by decide) (by decide))
  have k2 : (k == 2) = false := beq_eq_false_iff_ne.2 (hk 2 (by decide) (by decide))
  have k3 : (k == 3) = false := beq_eq_false_iff_ne.2 (hk 3 (by decide) (by decide))
  have k4 : (k == 4) = false := beq_eq_false_iff_ne.2 (hk 4 (by decide) (by decide))
  have k5 : (k == 5) = false := beq_eq_false_iff_ne.2 (hk 5 (by decide) (by decide))
  have k6 : (k == 6) = false := beq_eq_false_iff_ne.2 (hk 6 (by decide) (by decide))
  have k7 : (k == 7) = false := beq_eq_false_iff_ne.2 (hk 7 (by decide) (by decide))
  have k8 : (k == 8) = false := beq_eq_false_iff_ne.2 (hk 8 (by decide) (by decide))
  have k9 : (k == 9) = false := beq_eq_false_iff_ne.2 (hk 9 (by decide) (by decide))
  have k10 : (k == 10) = false := beq_eq_false_iff_ne.2 (hk 10 (by decide) (by decide))
  clear h hk hn
  go_enter Tryd.func44, Tryd.ntmps44
  go_wp2
  go_ret
  exact DidX.nw HN.out ⟨rfl, HH.out, Kept.refl _⟩

theorem does_ok (h : HasX X w0 w b d) (o : OpR) (cs : List Value) (vb vk : Value) (ho : OpIs w0 cs o vb vk) (hs : o.small = true) {x : Int} (hr : d.does o = (d', x)) :
    Calls Tryd.prog 44 #[.pointer (some ⟨b, 0, none⟩), .agg cs.toArray] w (DidX X w0 w b d' (.int .i64 x)) := by
  have hl : o.b.length ≤ 140737488355328 := by
    simp only [OpR.small, Bool.and_eq_true, decide_eq_true_eq] at hs; omega
  rw [ho.cells]
  unfold Dsk.does at hr
  by_cases h1 : o.kind = 1 ∨ o.kind = 2 ∨ o.kind = 3
  · rw [if_pos h1] at hr; exact does_append h _ _ _ _ _ o.keeps _ _ h1 ho.bs ho.name hl hr
  rw [if_neg h1] at hr
  by_cases h2 : o.kind = 4 ∨ o.kind = 5
  · rw [if_pos h2] at hr; exact does_sync h _ _ _ _ _ _ h2 hr
  rw [if_neg h2] at hr
  by_cases h3 : o.kind = 6
  · rw [if_pos h3] at hr; rw [h3]; exact does_rename h _ _ _ _ _ ho.tgt hr
  rw [if_neg h3] at hr
  by_cases h4 : o.kind = 7
  · rw [if_pos h4] at hr; rw [h4]; exact does_remove h _ _ _ _ _ hr
  rw [if_neg h4] at hr
  by_cases h5 : o.kind = 8
  · rw [if_pos h5] at hr; rw [h5]; exact does_cut h _ _ _ _ _ hr
  rw [if_neg h5] at hr
  by_cases h6 : o.kind = 9
  · rw [if_pos h6] at hr; rw [h6]
    obtain ⟨e1, rfl⟩ := Prod.mk.inj hr
    exact does_arm h _ _ _ _ _ ho.n1 e1
  rw [if_neg h6] at hr
  by_cases h7 : o.kind = 10
  · rw [if_pos h7] at hr; rw [h7]
    obtain ⟨e1, rfl⟩ := Prod.mk.inj hr
    exact does_crash h _ _ _ _ _ _ ho.ks e1
  rw [if_neg h7] at hr
  obtain ⟨rfl, rfl⟩ := Prod.mk.inj hr
  refine does_else h _ _ _ _ _ _ (fun i hi1 hi2 e => ?_)
  omega
end

theorem ret_small {a b : Bool} (h : a = b) : Ending.returned (.bool b) = .returned (.bool a) := by rw [h]
theorem small_ok {w0 w : World} (o : OpR) (cs : List Value) (vb vk : Value) (ho : OpIs w0 cs o vb vk) :
    Calls Tryd.prog 43 #[.agg cs.toArray] w fun e w' => e = .returned (.bool o.small) ∧ Nw w w' := by
  rw [ho.cells]
  obtain ⟨ba, bc, hvb, -⟩ := ho.bs.len
  obtain ⟨ka, kc, hvk, -⟩ := ho.ks.len
  rw [hvb, hvk]
  obtain ⟨k, n, name, tgt, l, ks⟩ := o
  clear ho hvb hvk
  have hn : Hid (Nw w (w.alloc (.cells #[.int .i64 k, .int .i64 n, .string ⟨name.toArray⟩, .string ⟨tgt.toArray⟩, .slice ba l.length bc, .slice ka ks.length kc] 57))) := Lib.hid ((Nw.refl w).alloc _)
  by_cases h1 : l.length ≤ 200
  · by_cases h2 : name.length ≤ 100
    · by_cases h3 : tgt.length ≤ 100
      · by_cases h4 : ks.length ≤ 300
        · have r : Hid (OpR.small ⟨k, n, name, tgt, l, ks⟩ = true) := Lib.hid (by simp [OpR.small, h1, h2, h3, h4])
          have f0 : decide ((l.length : Int) ≤ 200) = true := by simp; omega
          have f1 : decide ((name.length : Int) ≤ 100) = true := by simp; omega
          have f2 : decide ((tgt.length : Int) ≤ 100) = true := by simp; omega
          have f3 : decide ((ks.length : Int) ≤ 300) = true := by simp; omega
          go_enter Tryd.func43, Tryd.ntmps43
          go_wp2
          go_ret
          exact ⟨ret_small r.out, hn.out⟩
        · have r : Hid (OpR.small ⟨k, n, name, tgt, l, ks⟩ = false) := Lib.hid (by simp [OpR.small, h4])
          have f0 : decide ((l.length : Int) ≤ 200) = true := by simp; omega
          have f1 : decide ((name.length : Int) ≤ 100) = true := by simp; omega
          have f2 : decide ((tgt.length : Int) ≤ 100) = true := by simp; omega
          have f3 : decide ((ks.length : Int) ≤ 300) = false := by simp; omega
          go_enter Tryd.func43, Tryd.ntmps43
          go_wp2
          go_ret
          exact ⟨ret_small r.out, hn.out⟩
      · have r : Hid (OpR.small ⟨k, n, name, tgt, l, ks⟩ = false) := Lib.hid (by simp [OpR.small, h3])
        have f0 : decide ((l.length : Int) ≤ 200) = true := by simp; omega
        have f1 : decide ((name.length : Int) ≤ 100) = true := by simp; omega
        have f2 : decide ((tgt.length : Int) ≤ 100) = false := by simp; omega
        go_enter Tryd.func43, Tryd.ntmps43
        go_wp2
        go_ret
        exact ⟨ret_small r.out, hn.out⟩
    · have r : Hid (OpR.small ⟨k, n, name, tgt, l, ks⟩ = false) := Lib.hid (by simp [OpR.small, h2])
      have f0 : decide ((l.length : Int) ≤ 200) = true := by simp; omega
      have f1 : decide ((name.length : Int) ≤ 100) = false := by simp; omega
      go_enter Tryd.func43, Tryd.ntmps43
      go_wp2
      go_ret
      exact ⟨ret_small r.out, hn.out⟩
  · have r : Hid (OpR.small ⟨k, n, name, tgt, l, ks⟩ = false) := Lib.hid (by simp [OpR.small, h1])
    have f0 : decide ((l.length : Int) ≤ 200) = false := by simp; omega
    go_enter Tryd.func43, Tryd.ntmps43
    go_wp2
    go_ret
    exact ⟨ret_small r.out, hn.out⟩
end Go.Proofs.YtihagdadbeoeoaaDoor
