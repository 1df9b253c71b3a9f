/-
  Texts merged by a program of this claim's: ShowP, ShowQ, ShowR, ShowS, ShowBack1.
-/
import Derived.Test.YtcmaedoolinijaaGreatDoorM10
import Derived.Lib.SplitLaws
import Derived.Deep.DeepCutAuto
import Derived.Lib.AtoiErrMem
import Derived.Test.YtcmaedoolinijaaGreatDoorM9
import Derived.Lib.ParseIntBCases
namespace Go.Proofs.YtcmaedoolinijaaGreatDoor
open Go Go.RowKit Go.Sort
set_option maxRecDepth 100000
set_option maxHeartbeats 3200000
theorem split_ok {w : World} (hM : Mx w) (s : List UInt8) (hs : s.length < 4294967281) :
    Calls Tryz.prog 49 #[.string ⟨s.toArray⟩, .string ⟨#[32]⟩] w fun z w' => z = .returned (.slice (some ⟨w.heap.size, 0, none⟩) (Lib.split s [32]).length (Lib.split s [32]).length) ∧ w' = w.alloc (.cells ((Lib.split s [32]).map fun s => Value.string ⟨s.toArray⟩).toArray 9) := by
  obtain ⟨m, hm⟩ := hM
  have hd : (Lib.splitB ⟨#[32]⟩ 0 (Lib.countB ⟨s.toArray⟩ ⟨#[32]⟩) ⟨s.toArray⟩).map (fun x : ByteArray => x.data.toList) = Lib.split s [32] := Lib.splitB_data ⟨#[32]⟩ 0 _ ⟨s.toArray⟩
  have hl : (Lib.split s [32]).length = Lib.countB ⟨s.toArray⟩ ⟨#[32]⟩ + 1 := by
    rw [← hd, List.length_map]
    exact Lib.splitB_all ⟨#[32]⟩ (by decide) 0 _ _ rfl
  have hv : (Lib.splitB ⟨#[32]⟩ 0 (Lib.countB ⟨s.toArray⟩ ⟨#[32]⟩) ⟨s.toArray⟩).map Value.string = (Lib.split s [32]).map fun s => Value.string ⟨s.toArray⟩ := by
    rw [← hd, List.map_map]
    exact List.map_congr_left fun x _ => rfl
  refine (Tryz.strings_Split ⟨s.toArray⟩ ⟨#[32]⟩ m w hs hm (by decide)).mono ?_
  rintro z w' ⟨rfl, rfl⟩
  rw [hl, hv]
  exact ⟨rfl, rfl⟩
structure FB (w : World) (fb sg : Nat) (f : List (List UInt8)) : Prop where
  bx : w.heap[fb]? = some (.cells #[.slice (some ⟨sg, 0, none⟩) f.length f.length] 70 (0, 0))
  rw : w.heap[sg]? = some (.cells (f.map fun s => Value.string ⟨s.toArray⟩).toArray 9 (0, 0))
theorem FB.nw {w w' : World} {fb sg : Nat} {f : List (List UInt8)} (h : FB w fb sg f) (hn : Nw w w') : FB w' fb sg f := ⟨hn.at_ h.bx, hn.at_ h.rw⟩
theorem FB.box {w : World} {fb sg : Nat} {f : List (List UInt8)} (h : FB w fb sg f) : w.cell? ⟨fb, 0, none⟩ = some (.slice (some ⟨sg, 0, none⟩) f.length f.length) ∧ fb < w.heap.size ∧ sg < w.heap.size := ⟨by simp [World.cell?, h.bx], lt_of_block h.bx, lt_of_block h.rw⟩
theorem FB.cell {w : World} {fb sg : Nat} {f : List (List UInt8)} (h : FB w fb sg f) {i : Nat} {s : List UInt8} (hi : f[i]? = some s) : w.cell? ⟨sg, i, none⟩ = some (.string ⟨s.toArray⟩) := by
  rw [cell_of_row _ _ _ _ _ _ h.rw]
  simp [hi]
theorem key1_ok {w : World} {fb sg : Nat} {f : List (List UInt8)} (hF : FB w fb sg f) {s : List UInt8} (hs : f[0]? = some s) (hl : f.length ≤ 9223372036854775807) (nm : List UInt8) (a b : Value) (ha : a.oneCell' = true) (hb : b.oneCell' = true) :
    Calls Tryz.prog 51 #[.agg #[.string ⟨nm.toArray⟩, a, b], .pointer (some ⟨fb, 0, none⟩)] w fun z w' => z = .returned (.bool (nm == s)) ∧ Nw w w' := by
  have N := (Nw.refl w).alloc (.cells #[.string ⟨nm.toArray⟩, a, b] 73)
  have hF' := hF.nw N
  obtain ⟨f0, f1, f2⟩ := hF.box
  have f3 := hF.cell hs
  have hfl : 0 < f.length := by
    obtain ⟨h, -⟩ := List.getElem?_eq_some_iff.1 hs
    exact h
  have hfi : (0 : Int) < (f.length : Int) := by omega
  obtain ⟨n, hn⟩ : ∃ n, f.length = n := ⟨_, rfl⟩
  rw [hn] at f0 hfl hl hfi
  have HN := Lib.hid N
  clear hF hF' hs hn N
  go_enter Tryz.func51, Tryz.ntmps51
  go_wp2_with (go_quiet (fail))
  go_ret
  exact ⟨rfl, Nw.drewN HN.out _⟩
theorem key2_ok {w : World} {fb sg : Nat} {f : List (List UInt8)} (hF : FB w fb sg f) {s : List UInt8} (hs : f[2]? = some s) (hl : f.length ≤ 9223372036854775807) (d : Dcl) :
    Calls Tryz.prog 54 #[.agg (dclA d), .pointer (some ⟨fb, 0, none⟩)] w fun z w' => z = .returned (.bool (d.name == s)) ∧ Nw w w' := by
  have N := (Nw.refl w).alloc (.cells (dclA d) 76)
  unfold dclA at N ⊢
  have hF' := hF.nw N
  obtain ⟨f0, f1, f2⟩ := hF.box
  have f3 := hF.cell hs
  have hfl : 2 < f.length := by
    obtain ⟨h, -⟩ := List.getElem?_eq_some_iff.1 hs
    exact h
  have hfi : (2 : Int) < (f.length : Int) := by omega
  obtain ⟨n, hn⟩ : ∃ n, f.length = n := ⟨_, rfl⟩
  rw [hn] at f0 hfl hl hfi
  have HN := Lib.hid N
  clear hF hF' hs hn N
  go_enter Tryz.func54, Tryz.ntmps54
  go_wp2_with (go_quiet (fail))
  go_ret
  exact ⟨rfl, Nw.drewN HN.out _⟩
theorem placeI_hit {l : List (List UInt8)} {s : List UInt8} {k : Nat} (h : s ∉ l.take k) (h2 : l[k]? = some s) : placeI l s = k := by
  obtain ⟨hlt, e⟩ := List.getElem?_eq_some_iff.1 h2
  have hl : l = l.take k ++ s :: l.drop (k + 1) := by rw [← e, ← List.drop_eq_getElem_cons hlt, List.take_append_drop]
  have hm : s ∈ l := by rw [← e]; exact List.getElem_mem hlt
  unfold placeI
  rw [if_pos hm]
  have : l.idxOf s = k := by
    rw [hl, List.idxOf_append, if_neg h, List.length_take]
    simp; omega
  rw [this]
theorem not_take {l : List (List UInt8)} {s x : List UInt8} {k : Nat} (h : s ∉ l.take k) (h2 : l[k]? = some x ∧ x ≠ s) : s ∉ l.take (k + 1) := by
  obtain ⟨hlt, e⟩ := List.getElem?_eq_some_iff.1 h2.1
  rw [List.take_succ_eq_append_getElem hlt, e]
  simp [h, Ne.symm h2.2]
theorem idxText_ok {w : World} {fb sg : Nat} {f : List (List UInt8)} (hF : FB w fb sg f) {s : List UInt8} (hs : f[0]? = some s) (hl : f.length ≤ 9223372036854775807) {v : Value} {l : List TextP} (h : RdK 3 (isText w) w v l) :
    Calls Tryz.prog 50 #[v, .func (.func 51) #[] #[.pointer (some ⟨fb, 0, none⟩)]] w fun z w' => z = .returned (.int .i64 (placeI (l.map (·.name)) s)) ∧ Nw w w' := by
  obtain ⟨a0, c0, rfl, hc0, hm0, -⟩ := h.len
  have hm0' : c0 ≤ 9223372036854775807 := by unfold maxLen at hm0; omega
  have H0 := Lib.hid (fun (W : World) (hW : Nw w W) => h.nw hW)
  have HF := Lib.hid (fun (W : World) (hW : Nw w W) => hF.nw hW)
  obtain ⟨no, hno⟩ : ∃ n, l.length = n := ⟨_, rfl⟩
  have NO := Lib.hid hno
  rw [hno] at hc0 H0 ⊢
  have HS := Lib.hid hs
  have HL := Lib.hid hl
  have hin1 := enters_of Tryz.func51 (by kernel_rfl) rfl
  clear h hno hF hs hl
  go_enter Tryz.func50, Tryz.ntmps50
  go_wp2_with fail
  go_loopw [8] (fun v wr => ∃ k : Nat, k ≤ no ∧ v = .int .i64 k ∧ s ∉ (l.map (·.name)).take k ∧ Nw w wr) (fun v _ => no - (intOf v).toNat)
  case atStart => exact ⟨0, by omega, rfl, by simp, Nw.refl _⟩
  case round =>
    obtain ⟨k, hk, rfl, hn, hw⟩ := hrel
    have HN := Lib.hid hn
    have HW := Lib.hid hw
    clear hn hw
    by_cases hkn : k < no
    · have q : decide ((k : Int) < (no : Int)) = true := by simp; omega
      have hkl : k < l.length := by have := NO.out; omega
      rcases H0.out wr HW.out with ⟨a, -, e2⟩ | ⟨gv, ov, cap, e1, -, -, hgv, h3⟩
      · rw [e2] at NO; exact absurd NO.out (by simp; omega)
      obtain ⟨rfl, -, rfl⟩ : a0 = some ⟨gv, ov, none⟩ ∧ no = l.length ∧ c0 = cap := by simpa using e1
      obtain ⟨cs, -, hc, hd⟩ := h3 k hkl
      obtain ⟨d, hdd⟩ : ∃ d, l[k]'hkl = d := ⟨_, rfl⟩
      rw [hdd] at hd
      obtain ⟨u1, u2, rfl, -, hu1, hu2⟩ := hd
      obtain ⟨p1, m1, rfl, -⟩ := hu1.len
      obtain ⟨p2, m2, rfl, -⟩ := hu2.len
      have e0 := hc 0 (by simp)
      have e1' := hc 1 (by simp)
      have e2 := hc 2 (by simp)
      simp only [List.getElem_cons_zero, List.getElem_cons_succ, Nat.add_zero] at e0 e1' e2
      have KC := fun (W : World) (hW : Nw w W) => key1_ok (HF.out W hW) HS.out HL.out d.name (.slice p1 d.locals.length m1) (.slice p2 d.code.length m2) rfl rfl
      have hgl : gv < wr.heap.size := hgv
      have hnx : ∀ b : Bool, (d.name == s) = b → if b then placeI (l.map (·.name)) s = k else s ∉ (l.map (·.name)).take (k + 1) := fun b hb => by
        cases b with
        | true => exact placeI_hit HN.out (by rw [List.getElem?_map, List.getElem?_eq_getElem hkl, hdd]; simp at hb; simp [hb])
        | false => exact not_take (x := d.name) HN.out ⟨by rw [List.getElem?_map, List.getElem?_eq_getElem hkl, hdd]; rfl, by simpa using hb⟩
      have HX := Lib.hid hnx
      clear hc h3 e1 hdd hgv hnx
      go_wp2_with fail
      refine (KC wr HW.out).mono ?_
      rintro z w1 ⟨rfl, n1⟩
      obtain ⟨y, hy⟩ : ∃ y, (d.name == s) = y := ⟨_, rfl⟩
      have HY := Lib.hid (HX.out y hy)
      have N1 := Lib.hid (HW.out.trans n1)
      rw [hy]
      clear hy KC n1 hgl e0 e1' e2 hu1 hu2
      cases y with
      | true =>
        go_wp2_with fail
        go_ret
        exact ⟨by rw [show placeI (l.map (·.name)) s = (k : Int) from HY.out]; rfl, N1.out⟩
      | false =>
        go_wp2_with fail
        refine ⟨⟨k + 1, by omega, by simp, HY.out, N1.out⟩, by simp [intOf]; omega⟩
    · have q : decide ((k : Int) < (no : Int)) = false := by simp; omega
      have hall := HN.out
      rw [List.take_of_length_le (by rw [List.length_map]; have := NO.out; omega)] at hall
      have HA := Lib.hid hall
      clear hall
      go_wp2_with fail
      go_ret
      exact ⟨by unfold placeI; rw [if_neg HA.out]; rfl, HW.out⟩
theorem idxDecl_ok {w : World} {fb sg : Nat} {f : List (List UInt8)} (hF : FB w fb sg f) {s : List UInt8} (hs : f[2]? = some s) (hl : f.length ≤ 9223372036854775807) {v : Value} {l : List Dcl} (h : RdK 5 isDcl w v l) :
    Calls Tryz.prog 53 #[v, .func (.func 54) #[] #[.pointer (some ⟨fb, 0, none⟩)]] w fun z w' => z = .returned (.int .i64 (placeI (l.map (·.name)) s)) ∧ Nw w w' := by
  obtain ⟨a0, c0, rfl, hc0, hm0, -⟩ := h.len
  have hm0' : c0 ≤ 9223372036854775807 := by unfold maxLen at hm0; omega
  have H0 := Lib.hid (fun (W : World) (hW : Nw w W) => h.nw hW)
  have HF := Lib.hid (fun (W : World) (hW : Nw w W) => hF.nw hW)
  obtain ⟨no, hno⟩ : ∃ n, l.length = n := ⟨_, rfl⟩
  have NO := Lib.hid hno
  rw [hno] at hc0 H0 ⊢
  have HS := Lib.hid hs
  have HL := Lib.hid hl
  have hin1 := enters_of Tryz.func54 (by kernel_rfl) rfl
  clear h hno hF hs hl
  go_enter Tryz.func53, Tryz.ntmps53
  go_wp2_with fail
  go_loopw [8] (fun v wr => ∃ k : Nat, k ≤ no ∧ v = .int .i64 k ∧ s ∉ (l.map (·.name)).take k ∧ Nw w wr) (fun v _ => no - (intOf v).toNat)
  case atStart => exact ⟨0, by omega, rfl, by simp, Nw.refl _⟩
  case round =>
    obtain ⟨k, hk, rfl, hn, hw⟩ := hrel
    have HN := Lib.hid hn
    have HW := Lib.hid hw
    clear hn hw
    by_cases hkn : k < no
    · have q : decide ((k : Int) < (no : Int)) = true := by simp; omega
      have hkl : k < l.length := by have := NO.out; omega
      rcases H0.out wr HW.out with ⟨a, -, e2⟩ | ⟨gv, ov, cap, e1, -, -, hgv, h3⟩
      · rw [e2] at NO; exact absurd NO.out (by simp; omega)
      obtain ⟨rfl, -, rfl⟩ : a0 = some ⟨gv, ov, none⟩ ∧ no = l.length ∧ c0 = cap := by simpa using e1
      obtain ⟨cs, -, hc, hd⟩ := h3 k hkl
      obtain ⟨d, hdd⟩ : ∃ d, l[k]'hkl = d := ⟨_, rfl⟩
      rw [hdd] at hd
      obtain ⟨rfl, -⟩ := hd
      have e0 := hc 0 (by simp)
      have e1' := hc 1 (by simp)
      have e2 := hc 2 (by simp)
      have e3 := hc 3 (by simp)
      have e4 := hc 4 (by simp)
      simp only [List.getElem_cons_zero, List.getElem_cons_succ, Nat.add_zero] at e0 e1' e2 e3 e4
      have KC := fun (W : World) (hW : Nw w W) => key2_ok (HF.out W hW) HS.out HL.out d
      unfold dclA at KC
      have hgl : gv < wr.heap.size := hgv
      have hnx : ∀ b : Bool, (d.name == s) = b → if b then placeI (l.map (·.name)) s = k else s ∉ (l.map (·.name)).take (k + 1) := fun b hb => by
        cases b with
        | true => exact placeI_hit HN.out (by rw [List.getElem?_map, List.getElem?_eq_getElem hkl, hdd]; simp at hb; simp [hb])
        | false => exact not_take (x := d.name) HN.out ⟨by rw [List.getElem?_map, List.getElem?_eq_getElem hkl, hdd]; rfl, by simpa using hb⟩
      have HX := Lib.hid hnx
      clear hc h3 e1 hdd hgv hnx
      go_wp2_with fail
      refine (KC wr HW.out).mono ?_
      rintro z w1 ⟨rfl, n1⟩
      obtain ⟨y, hy⟩ : ∃ y, (d.name == s) = y := ⟨_, rfl⟩
      have HY := Lib.hid (HX.out y hy)
      have N1 := Lib.hid (HW.out.trans n1)
      rw [hy]
      clear hy KC n1 hgl e0 e1' e2 e3 e4
      cases y with
      | true =>
        go_wp2_with fail
        go_ret
        exact ⟨by rw [show placeI (l.map (·.name)) s = (k : Int) from HY.out]; rfl, N1.out⟩
      | false =>
        go_wp2_with fail
        refine ⟨⟨k + 1, by omega, by simp, HY.out, N1.out⟩, by simp [intOf]; omega⟩
    · have q : decide ((k : Int) < (no : Int)) = false := by simp; omega
      have hall := HN.out
      rw [List.take_of_length_le (by rw [List.length_map]; have := NO.out; omega)] at hall
      have HA := Lib.hid hall
      clear hall
      go_wp2_with fail
      go_ret
      exact ⟨by unfold placeI; rw [if_neg HA.out]; rfl, HW.out⟩
end Go.Proofs.YtcmaedoolinijaaGreatDoor

namespace Go.Proofs.YtcmaedoolinijaaGreatDoor
open Go Go.RowKit Go.Sort
set_option maxRecDepth 100000
set_option maxHeartbeats 6400000
theorem pint_ok {w : World} (hT : STab w) (s : List UInt8) (hs : s.length ≤ 281474976710656) :
    Calls Tryz.prog 55 #[.string ⟨s.toArray⟩, .int .i64 10, .int .i64 64] w fun z w' => (∃ x er, z = .returned (.tuple #[.int .i64 x, er]) ∧ ((numOf s = some x ∧ er = .nilIface) ∨ (numOf s = none ∧ ∃ t p, er = .iface t p))) ∧ Nw w w' := by
  unfold numOf
  cases h : Lib.parseIntB 64 s with
  | ok v =>
    refine (Tryz.strconv_ParseInt_10_at64_ok ⟨s.toArray⟩ (show s.length ≤ _ by omega) v h w).mono ?_
    rintro z w' ⟨rfl, hw⟩
    refine ⟨⟨v, .nilIface, rfl, .inl ⟨rfl, rfl⟩⟩, ?_⟩
    rcases hw with rfl | ⟨t, rfl⟩
    · exact Nw.refl _
    · exact Nw.of_below (Lib.bytesWorld_below _ _ _)
  | range =>
    obtain ⟨ev, e1, e2⟩ := hT.er
    refine (Tryz.strconv_ParseInt_10_at64_range ⟨s.toArray⟩ hs h ev w e1 e2).mono ?_
    rintro z w' ⟨N, rfl, -, -, hb⟩
    exact ⟨⟨_, _, rfl, .inr ⟨rfl, _, _, rfl⟩⟩, Nw.of_below hb⟩
  | _ =>
    obtain ⟨ev, e1, e2⟩ := hT.es
    refine (Go.Proofs.Any.strconv_ParseInt_10_at64_syntax Tryz.laysC174 ⟨s.toArray⟩ hs h ev w e1 e2).mono ?_
    rintro z w' ⟨N, rfl, -, -, hb⟩
    exact ⟨⟨0, _, rfl, .inr ⟨rfl, _, _, rfl⟩⟩, Nw.of_below hb⟩
structure PaM (w wr : World) (cb rb fb sg eb : Nat) (v0 v1 : Value) (f : List (List UInt8)) (A : Array Value) : Prop where
  nw : Nw w wr
  code : wr.heap[cb]? = some (.cells #[v0, v1] 25 (0, 0))
  res : wr.heap[rb]? = some (.cells (evA 0 0 0 0 0) 29 (0, 0))
  fs : FB wr fb sg f
  ev : wr.heap[eb]? = some (.cells A 29 (0, 0))
  b1 : w.heap.size ≤ eb
  b2 : cb < eb
  b3 : rb < eb
  b4 : fb < eb
  b5 : sg < eb
section
variable {w wr w' : World} {cb rb fb sg eb : Nat} {v0 v1 : Value} {f : List (List UInt8)} {A : Array Value}
theorem PaM.on (h : PaM w wr cb rb fb sg eb v0 v1 f A) (hn : Nw wr w') : PaM w w' cb rb fb sg eb v0 v1 f A :=
  ⟨h.nw.trans hn, hn.at_ h.code, hn.at_ h.res, h.fs.nw hn, hn.at_ h.ev, h.b1, h.b2, h.b3, h.b4, h.b5⟩
theorem PaM.put (h : PaM w wr cb rb fb sg eb v0 v1 f A) (i : Nat) (v : Value) : PaM w (wr.setCell ⟨eb, i, none⟩ v) cb rb fb sg eb v0 v1 f (A.setIfInBounds i v) := by
  have hO : Only (fun k => k = eb) wr (wr.setCell ⟨eb, i, none⟩ v) := Only.put (S := fun k => k = eb) (Only.refl _) rfl _ _
  have h1 := h.b1
  have h2 := h.b2
  have h3 := h.b3
  have h4 := h.b4
  have h5 := h.b5
  exact ⟨h.nw.trans' hO (fun k hk e => by omega), hO.at_ h.code (by omega), hO.at_ h.res (by omega), ⟨hO.at_ h.fs.bx (by omega), hO.at_ h.fs.rw (by omega)⟩, heap_put h.ev v, h1, h2, h3, h4, h5⟩
end
theorem numOf_in {s : List UInt8} {n : Int} (h : numOf s = some n) : in64 n := by
  unfold numOf Lib.parseIntB at h
  cases s with
  | nil => simp at h
  | cons c r =>
    simp only at h
    cases hu : Lib.parseUintB 64 (if c.toNat = 43 ∨ c.toNat = 45 then r else c :: r) with
    | range => rw [hu] at h; simp at h
    | ok u =>
      rw [hu] at h
      simp only at h
      unfold in64
      by_cases hn : c.toNat = 45
      · by_cases h2 : 2 ^ (64 - 1) < u
        · simp [hn, h2] at h
        · simp [hn, h2] at h
          subst h
          simp at h2
          omega
      · by_cases h2 : 2 ^ (64 - 1) ≤ u
        · simp [hn, h2] at h
        · simp [hn, h2] at h
          subst h
          simp at h2
          omega
    | _ => rw [hu] at h; simp at h
def evO (o : Option Ev) : Value := .tuple #[evV (o.getD Ev.zero), .bool o.isSome]
theorem parseE_len {c : CodeP} {s : List UInt8} (h : (Lib.split s [32]).length < 4 ∨ 5 < (Lib.split s [32]).length) : parseE c s = none := by
  unfold parseE
  split
  · rename_i e; rw [e] at h; simp at h
  · rename_i e; rw [e] at h; simp at h
  · rfl
structure PaF (w wr : World) (cb rb fb sg : Nat) (v0 v1 : Value) (f : List (List UInt8)) : Prop where
  nw : Nw w wr
  code : wr.heap[cb]? = some (.cells #[v0, v1] 25 (0, 0))
  res : wr.heap[rb]? = some (.cells (evA 0 0 0 0 0) 29 (0, 0))
  fs : FB wr fb sg f
  b3 : w.heap.size ≤ rb
theorem PaF.mk' {w w3 : World} {cb rb sg : Nat} {v0 v1 : Value} {f : List (List UInt8)} (hn : Nw w w3) (hc : w3.heap[cb]? = some (.cells #[v0, v1] 25 (0, 0))) (hr : w3.heap[rb]? = some (.cells (evA 0 0 0 0 0) 29 (0, 0))) (hs : w3.heap[sg]? = some (.cells (f.map fun s => Value.string ⟨s.toArray⟩).toArray 9 (0, 0))) (hb : w.heap.size ≤ rb) :
    PaF w (w3.alloc (.cells #[.slice (some ⟨sg, 0, none⟩) f.length f.length] 70)) cb rb w3.heap.size sg v0 v1 f := by
  have n1 := Nw.alloc (Nw.refl w3) (.cells #[.slice (some ⟨sg, 0, none⟩) f.length f.length] 70)
  exact ⟨hn.trans n1, n1.at_ hc, n1.at_ hr, ⟨heap_alloc_new w3 _, n1.at_ hs⟩, hb⟩
theorem set5 {w : World} {p : Nat} {x0 x1 x2 x3 x4 : Value} {t : TypeId} (h : w.heap[p]? = some (.cells #[x0, x1, x2, x3, x4] t (0, 0))) (a b c d e : Value) :
    (((((w.setCell ⟨p, 0, none⟩ a).setCell ⟨p, 1, none⟩ b).setCell ⟨p, 2, none⟩ c).setCell ⟨p, 3, none⟩ d).setCell ⟨p, 4, none⟩ e).heap[p]? = some (.cells #[a, b, c, d, e] t (0, 0)) ∧
    Only (fun k => k = p) w (((((w.setCell ⟨p, 0, none⟩ a).setCell ⟨p, 1, none⟩ b).setCell ⟨p, 2, none⟩ c).setCell ⟨p, 3, none⟩ d).setCell ⟨p, 4, none⟩ e) := by
  refine ⟨?_, ?_⟩
  · have h0 := heap_put (i := 0) h a
    have h1 := heap_put (i := 1) h0 b
    have h2 := heap_put (i := 2) h1 c
    have h3 := heap_put (i := 3) h2 d
    have h4 := heap_put (i := 4) h3 e
    simpa using h4
  · have O : Only (fun k => k = p) w w := Only.refl _
    exact Only.put (Only.put (Only.put (Only.put (Only.put O rfl _ _) rfl _ _) rfl _ _) rfl _ _) rfl _ _
theorem parse_ret {w : World} {rb : Nat} {a : Act} {th ob na nb : Int} {op : Nat} {b : Bool} {Q : Ending → World → Prop} (h : w.heap[rb]? = some (.cells (evA th op ob na nb) 29 (0, 0)))
    (h4 : a.tmps[4]? = some (.pointer (some ⟨rb, 0, none⟩))) (h5 : a.tmps[5]? = some (.bool b)) (hd : a.defers = []) (hQ : Q (.returned (.tuple #[.agg (evA th op ob na nb), .bool b])) w) : bodyPost Tryz.prog Tryz.f19 Q .ret a w := by
  unfold evA at h hQ
  obtain ⟨r0, r1, r2, r3, r4, -⟩ := box5 h
  refine bodyPost_ret (v := .tuple #[.agg #[.int .i64 th, .int .u8 (op : Int), .int .i64 ob, .int .i64 na, .int .i64 nb], .bool b]) ?_ hd hQ
  simp [results, Tryz.results19, go_sem, h4, h5, r0, r1, r2, r3, r4]
theorem sParse_bad {w : World} (hM : Mx w) {a0 a1 : Option Addr} {n0 c0 n1 c1 : Nat} {s : List UInt8} (hs : s.length < 4294967281) (hl : (Lib.split s [32]).length < 4 ∨ 5 < (Lib.split s [32]).length) (hn : (Lib.split s [32]).length ≤ 9223372036854775807) :
    Calls Tryz.prog 19 #[.agg #[.slice a0 n0 c0, .slice a1 n1 c1], .string ⟨s.toArray⟩] w fun z w' => z = .returned (evO none) ∧ Nw w w' := by
  have TB := Lib.hid (two_blk w #[.slice a0 n0 c0, .slice a1 n1 c1] #[.int .i64 0, .int .u8 0, .int .i64 0, .int .i64 0, .int .i64 0] 25 29)
  have HM := Lib.hid (hM.nw TB.out.1)
  obtain ⟨F, hF⟩ : ∃ F, Lib.split s [32] = F := ⟨_, rfl⟩
  have HF := Lib.hid hF
  have HS := Lib.hid hs
  rw [hF] at hn hl
  obtain ⟨n, hFn⟩ : ∃ n, F.length = n := ⟨_, rfl⟩
  have HFN := Lib.hid hFn
  rw [hFn] at hn hl
  clear hF hM hFn hs
  go_enter Tryz.func19, Tryz.ntmps19
  go_wp2_with fail
  obtain ⟨w2, hw2⟩ : ∃ w2, ((w.alloc (.cells #[.slice a0 n0 c0, .slice a1 n1 c1] 25)).alloc (.cells #[.int .i64 0, .int .u8 0, .int .i64 0, .int .i64 0, .int .i64 0] 29)) = w2 := ⟨_, rfl⟩
  have hrb : Hid (w.heap.size ≤ w.heap.size + 1) := Lib.hid (by omega)
  obtain ⟨cb, hcb⟩ : ∃ cb, w.heap.size = cb := ⟨_, rfl⟩
  rw [hw2, hcb] at TB
  rw [hcb] at hrb
  obtain ⟨rb, hrbe⟩ : ∃ rb, cb + 1 = rb := ⟨_, rfl⟩
  rw [hrbe] at TB hrb
  rw [hw2] at HM
  rw [hw2, hcb, hrbe]
  have SP := split_ok HM.out s HS.out
  rw [HF.out, HFN.out] at SP
  have P2 := Lib.hid TB.out
  clear TB hw2
  refine SP.mono ?_
  rintro z w3 ⟨rfl, hw3⟩
  have n3 : Nw w2 w3 := by rw [hw3]; exact (Nw.refl w2).alloc _
  have hs3 := heap_alloc_new w2 (.cells (F.map fun s => Value.string ⟨s.toArray⟩).toArray 9)
  rw [← hw3] at hs3
  have PF := PaF.mk' (f := F) (P2.out.1.trans n3) (n3.at_ P2.out.2.1) (n3.at_ P2.out.2.2) hs3 (by rw [hcb]; exact hrb.out)
  rw [HFN.out] at PF
  have PF := Lib.hid PF
  clear SP hs3 n3 hw3 hcb hrbe P2
  obtain ⟨sg, hsg⟩ : ∃ sg, w2.heap.size = sg := ⟨_, rfl⟩
  rw [hsg] at PF ⊢
  clear hsg
  go_upto_region 2 with fail
  obtain ⟨w4, hw4⟩ : ∃ w4, w3.alloc (.cells #[.slice (some ⟨sg, 0, none⟩) n n] 70) = w4 := ⟨_, rfl⟩
  obtain ⟨fb, hfb⟩ : ∃ fb, w3.heap.size = fb := ⟨_, rfl⟩
  rw [hw4, hfb] at PF
  rw [hw4, hfb]
  clear hw4 hfb
  obtain ⟨x0, x1, x2⟩ := PF.out.fs.box
  rw [HFN.out] at x0
  obtain ⟨r0, r1, r2, r3, r4, rf⟩ := box5 (by have := PF.out.res; unfold evA at this; exact this)
  by_cases q : n < 4
  · have q1 : decide ((n : Int) < 4) = true := by simp; omega
    clear hl q
    go_wp2_with fail
    obtain ⟨y1, y2⟩ := set5 (by have := PF.out.res; unfold evA at this; exact this) (.int .i64 0) (.int .u8 0) (.int .i64 0) (.int .i64 0) (.int .i64 0)
    exact parse_ret (th := 0) (op := 0) (ob := 0) (na := 0) (nb := 0) (b := false) y1 rfl rfl rfl ⟨rfl, PF.out.nw.trans' y2 (fun k hk e => by have := PF.out.b3; omega)⟩
  · have q1 : decide ((n : Int) < 4) = false := by simp; omega
    have q2 : decide (5 < (n : Int)) = true := by simp; omega
    clear hl q
    go_wp2_with fail
    obtain ⟨y1, y2⟩ := set5 (by have := PF.out.res; unfold evA at this; exact this) (.int .i64 0) (.int .u8 0) (.int .i64 0) (.int .i64 0) (.int .i64 0)
    exact parse_ret (th := 0) (op := 0) (ob := 0) (na := 0) (nb := 0) (b := false) y1 rfl rfl rfl ⟨rfl, PF.out.nw.trans' y2 (fun k hk e => by have := PF.out.b3; omega)⟩
end Go.Proofs.YtcmaedoolinijaaGreatDoor

namespace Go.Proofs.YtcmaedoolinijaaGreatDoor
open Go Go.RowKit Go.Sort
set_option maxRecDepth 100000
set_option maxHeartbeats 6400000
theorem splitK_le (sep : List UInt8) : ∀ (k : Nat) (s y : List UInt8), y ∈ Lib.splitK sep 0 k s → y.length ≤ s.length
  | 0, s, y, h => by rw [Lib.splitK, List.mem_singleton] at h; rw [h]; exact Nat.le_refl _
  | k + 1, s, y, h => by
    rw [Lib.splitK] at h
    split at h
    · rw [List.mem_singleton] at h; rw [h]; exact Nat.le_refl _
    · rcases List.mem_cons.1 h with rfl | h
      · rw [List.length_take]; omega
      · have := splitK_le sep k _ y h
        rw [List.length_drop] at this
        omega
theorem split_le {s y : List UInt8} (h : y ∈ Lib.split s [32]) : y.length ≤ s.length := splitK_le _ _ _ _ h
theorem placeN_show (s : List UInt8) : placeN showW s ≤ 27 := by
  unfold placeN
  split
  · rename_i h
    have := List.idxOf_lt_length_of_mem h
    rw [showW_len] at this
    omega
  · omega
def parse3 (c : CodeP) (s k0 k1 k2 : List UInt8) (na nb : Int) : Option Ev :=
  let e : Ev := ⟨placeI (c.threads.map (·.name)) k0, UInt8.ofNat (placeN showW k1), placeI (c.objs.map (·.name)) k2, na, nb⟩
  if lineF c e = (s, 0) then some e else none
theorem parseE_four {c : CodeP} {s k0 k1 k2 k3 : List UInt8} (h : Lib.split s [32] = [k0, k1, k2, k3]) : parseE c s = (numOf k3).bind fun a => parse3 c s k0 k1 k2 a 0 := by
  unfold parseE; rw [h]; rfl
theorem parseE_five {c : CodeP} {s k0 k1 k2 k3 k4 : List UInt8} (h : Lib.split s [32] = [k0, k1, k2, k3, k4]) : parseE c s = (numOf k3).bind fun a => (numOf k4).bind fun b => parse3 c s k0 k1 k2 a b := by
  unfold parseE; rw [h]; rfl
theorem wrap_u8' {j : Nat} (h : j ≤ 27) : IntKind.u8.wrap (j : Int) = (j : Int) := by
  have : ∀ j : Fin 28, IntKind.u8.wrap ((j.val : Nat) : Int) = ((j.val : Nat) : Int) := by decide
  exact this ⟨j, by omega⟩
theorem CodeM.th {w : World} {v0 v1 : Value} {c : CodeP} (h : CodeM w [v0, v1] c) : RdK 3 (isText w) w v1 c.threads := by
  obtain ⟨a, b, e, -, h1⟩ := h
  obtain ⟨rfl, rfl⟩ : v0 = a ∧ v1 = b := by simpa using e
  exact h1
theorem CodeM.ob {w : World} {v0 v1 : Value} {c : CodeP} (h : CodeM w [v0, v1] c) : RdK 5 isDcl w v0 c.objs := by
  obtain ⟨a, b, e, h0, -⟩ := h
  obtain ⟨rfl, rfl⟩ : v0 = a ∧ v1 = b := by simpa using e
  exact h0
theorem PaM.mk' {w w4 : World} {cb rb fb sg : Nat} {v0 v1 : Value} {f : List (List UInt8)} (h : PaF w w4 cb rb fb sg v0 v1 f) : PaM w (w4.alloc (.cells (evA 0 0 0 0 0) 29)) cb rb fb sg w4.heap.size v0 v1 f (evA 0 0 0 0 0) := by
  have n1 := Nw.alloc (Nw.refl w4) (.cells (evA 0 0 0 0 0) 29)
  exact ⟨h.nw.trans n1, n1.at_ h.code, n1.at_ h.res, h.fs.nw n1, heap_alloc_new w4 _, h.nw.size, lt_of_block h.code, lt_of_block h.res, lt_of_block h.fs.bx, lt_of_block h.fs.rw⟩
theorem placeI_in {l : List (List UInt8)} {s : List UInt8} {x : Int} (h : placeI l s = x) (hl : l.length ≤ maxLen) : in64 x := by
  subst h
  unfold placeI in64
  unfold maxLen at hl
  split
  · rename_i hm
    have := List.idxOf_lt_length_of_mem hm
    omega
  · omega
theorem parse_fail {c : CodeP} {s k0 k1 k2 k3 fk : List UInt8} {r : List (List UInt8)} (hF : Lib.split s [32] = k0 :: k1 :: k2 :: k3 :: r) (hr : r.length ≤ 1) {k : Nat} {na : Int} (hfk : (k0 :: k1 :: k2 :: k3 :: r)[3 + k]? = some fk) (h1 : 1 ≤ k → numOf k3 = some na) (hf : numOf fk = none) : parseE c s = none := by
  match r, hr with
  | [], _ =>
    rw [parseE_four hF]
    match k with
    | 0 => obtain rfl : k3 = fk := by simpa using hfk
           rw [hf]; rfl
    | k + 1 =>
      have := (List.getElem?_eq_some_iff.1 hfk).1
      simp at this
      omega
  | [k4], _ =>
    rw [parseE_five hF]
    match k with
    | 0 => obtain rfl : k3 = fk := by simpa using hfk
           rw [hf]; rfl
    | 1 => obtain rfl : k4 = fk := by simpa using hfk
           rw [h1 (Nat.le_refl _), hf]; rfl
    | k + 2 =>
      have := (List.getElem?_eq_some_iff.1 hfk).1
      simp at this
      omega
theorem parse_done {c : CodeP} {s k0 k1 k2 k3 : List UInt8} {r : List (List UInt8)} (hF : Lib.split s [32] = k0 :: k1 :: k2 :: k3 :: r) (hr : r.length ≤ 1) {k : Nat} {na nb : Int} (hk : k = r.length + 1) (h1 : 1 ≤ k → numOf k3 = some na) (h2 : k ≤ 1 → nb = 0) (h3 : 2 ≤ k → ∃ k4, r = [k4] ∧ numOf k4 = some nb) : parseE c s = parse3 c s k0 k1 k2 na nb := by
  match r, hr with
  | [], _ =>
    rw [parseE_four hF, h1 (by omega), h2 (by simp at hk; omega)]; rfl
  | [k4], _ =>
    obtain ⟨k4', e, h4⟩ := h3 (by simp at hk; omega)
    obtain rfl : k4 = k4' := by simpa using e
    rw [parseE_five hF, h1 (by omega)]
    simp only [Option.bind_some, h4]
structure PaL (w wr : World) (cb rb fb sg eb pb : Nat) (v0 v1 : Value) (k0 k1 k2 k3 : List UInt8) (r : List (List UInt8)) (th ob : Int) (pn k : Nat) (na nb : Int) : Prop where
  m : PaM w wr cb rb fb sg eb v0 v1 (k0 :: k1 :: k2 :: k3 :: r) #[.int .i64 th, .int .u8 (pn : Int), .int .i64 ob, .int .i64 na, .int .i64 nb]
  pr : wr.heap[pb]? = some (.cells #[.pointer (some ⟨eb, 3, none⟩), .pointer (some ⟨eb, 4, none⟩)] 122 (0, 0))
  lt : eb < pb
  ia : in64 na
  ib : in64 nb
  h1 : 1 ≤ k → numOf k3 = some na
  h2 : k ≤ 1 → nb = 0
  h3 : 2 ≤ k → ∃ k4, r = [k4] ∧ numOf k4 = some nb
theorem PaL.on {w wr w' : World} {cb rb fb sg eb pb : Nat} {v0 v1 : Value} {k0 k1 k2 k3 : List UInt8} {r : List (List UInt8)} {th ob : Int} {pn k : Nat} {na nb : Int} (h : PaL w wr cb rb fb sg eb pb v0 v1 k0 k1 k2 k3 r th ob pn k na nb) (hn : Nw wr w') : PaL w w' cb rb fb sg eb pb v0 v1 k0 k1 k2 k3 r th ob pn k na nb :=
  ⟨h.m.on hn, hn.at_ h.pr, h.lt, h.ia, h.ib, h.h1, h.h2, h.h3⟩
theorem PaL.put {w wr : World} {cb rb fb sg eb pb : Nat} {v0 v1 : Value} {k0 k1 k2 k3 fk : List UInt8} {r : List (List UInt8)} {th ob : Int} {pn k : Nat} {na nb x : Int} (h : PaL w wr cb rb fb sg eb pb v0 v1 k0 k1 k2 k3 r th ob pn k na nb) (hr : r.length ≤ 1) (hfk : (k0 :: k1 :: k2 :: k3 :: r)[3 + k]? = some fk) (hx : numOf fk = some x) :
    ∃ na' nb', PaL w (wr.setCell ⟨eb, 3 + k, none⟩ (.int .i64 x)) cb rb fb sg eb pb v0 v1 k0 k1 k2 k3 r th ob pn (k + 1) na' nb' := by
  have hm := h.m.put (3 + k) (.int .i64 x)
  have hp : (wr.setCell ⟨eb, 3 + k, none⟩ (.int .i64 x)).heap[pb]? = some (.cells #[.pointer (some ⟨eb, 3, none⟩), .pointer (some ⟨eb, 4, none⟩)] 122 (0, 0)) := by
    have hO : Only (fun k => k = eb) wr (wr.setCell ⟨eb, 3 + k, none⟩ (.int .i64 x)) := Only.put (S := fun k => k = eb) (Only.refl _) rfl _ _
    exact hO.at_ h.pr (by have := h.lt; omega)
  match k, hfk, h, hm, hp with
  | 0, hfk, h, hm, hp =>
    obtain rfl : k3 = fk := by simpa using hfk
    exact ⟨x, nb, by simpa using hm, hp, h.lt, numOf_in hx, h.ib, fun _ => hx, fun _ => h.h2 (by omega), fun h => absurd h (by omega)⟩
  | 1, hfk, h, hm, hp =>
    match r, hr, hfk, h, hm with
    | [], _, hfk, _, _ => simp at hfk
    | [k4], _, hfk, h, hm =>
      obtain rfl : k4 = fk := by simpa using hfk
      exact ⟨na, x, by simpa using hm, hp, h.lt, h.ia, numOf_in hx, fun _ => h.h1 (by omega), fun h => absurd h (by omega), fun _ => ⟨k4, rfl, hx⟩⟩
  | k + 2, hfk, _, _, _ =>
    have := (List.getElem?_eq_some_iff.1 hfk).1
    simp at this
    omega
theorem PaL.cells {w wr : World} {cb rb fb sg eb pb : Nat} {v0 v1 : Value} {k0 k1 k2 k3 : List UInt8} {r : List (List UInt8)} {th ob : Int} {pn k : Nat} {na nb : Int} (h : PaL w wr cb rb fb sg eb pb v0 v1 k0 k1 k2 k3 r th ob pn k na nb) (hk : k < 2) :
    wr.cell? ⟨pb, k, none⟩ = some (.pointer (some ⟨eb, 3 + k, none⟩)) ∧ (∃ y, wr.cell? ⟨eb, 3 + k, none⟩ = some (.int .i64 y)) ∧ wr.frozen? ⟨eb, 3 + k, none⟩ = false ∧ pb < wr.heap.size := by
  obtain ⟨p0, p1, -⟩ := box2 h.pr
  obtain ⟨-, -, -, e3, e4, ef⟩ := box5 h.m.ev
  have := lt_of_block h.pr
  match k, hk with
  | 0, _ => exact ⟨p0, ⟨_, e3⟩, ef _, this⟩
  | 1, _ => exact ⟨p1, ⟨_, e4⟩, ef _, this⟩
theorem sParse_good {w : World} (hT : STab w) {a0 a1 : Option Addr} {n0 c0 n1 c1 : Nat} {c : CodeP} (hC : CodeM w [.slice a0 n0 c0, .slice a1 n1 c1] c) {s : List UInt8} (hs : s.length < 4294967281) (hL : ∀ e : Ev, e.Ok → (lineF c e).1.length ≤ 140737488355328)
    {k0 k1 k2 k3 : List UInt8} {r : List (List UInt8)} (hF : Lib.split s [32] = k0 :: k1 :: k2 :: k3 :: r) (hr : r.length ≤ 1) :
    Calls Tryz.prog 19 #[.agg #[.slice a0 n0 c0, .slice a1 n1 c1], .string ⟨s.toArray⟩] w fun z w' => z = .returned (evO (parseE c s)) ∧ Nw w w' := by
  have TB := Lib.hid (two_blk w #[.slice a0 n0 c0, .slice a1 n1 c1] #[.int .i64 0, .int .u8 0, .int .i64 0, .int .i64 0, .int .i64 0] 25 29)
  have HT := Lib.hid (fun (W : World) (hW : Nw w W) => hT.nw hW)
  have HCM := Lib.hid (fun (W : World) (hW : Nw w W) => hC.nw hW)
  have HS := Lib.hid hs
  have HLL := Lib.hid hL
  have HR := Lib.hid hr
  obtain ⟨R, hR⟩ : ∃ R, parseE c s = R := ⟨_, rfl⟩
  have HRE := Lib.hid hR
  rw [hR]
  have HF := Lib.hid hF
  obtain ⟨n, hFn⟩ : ∃ n, (k0 :: k1 :: k2 :: k3 :: r).length = n := ⟨_, rfl⟩
  have HFN := Lib.hid hFn
  have hn4 : 4 ≤ n := by rw [← hFn]; simp
  have hn5 : n ≤ 5 := by rw [← hFn]; simp; omega
  clear hT hC hs hL hF hr hR hFn
  go_enter Tryz.func19, Tryz.ntmps19
  go_wp2_with fail
  obtain ⟨w2, hw2⟩ : ∃ w2, ((w.alloc (.cells #[.slice a0 n0 c0, .slice a1 n1 c1] 25)).alloc (.cells #[.int .i64 0, .int .u8 0, .int .i64 0, .int .i64 0, .int .i64 0] 29)) = w2 := ⟨_, rfl⟩
  have hrb : Hid (w.heap.size ≤ w.heap.size + 1) := Lib.hid (by omega)
  obtain ⟨cb, hcb⟩ : ∃ cb, w.heap.size = cb := ⟨_, rfl⟩
  rw [hw2, hcb] at TB
  rw [hcb] at hrb
  obtain ⟨rb, hrbe⟩ : ∃ rb, cb + 1 = rb := ⟨_, rfl⟩
  rw [hrbe] at TB hrb
  rw [hw2, hcb, hrbe]
  have SP := split_ok (HT.out w2 TB.out.1).mx s HS.out
  rw [HF.out, HFN.out] at SP
  have P2 := Lib.hid TB.out
  clear TB hw2
  refine SP.mono ?_
  rintro z w3 ⟨rfl, hw3⟩
  have n3 : Nw w2 w3 := by rw [hw3]; exact (Nw.refl w2).alloc _
  have hs3 := heap_alloc_new w2 (.cells ((k0 :: k1 :: k2 :: k3 :: r).map fun s => Value.string ⟨s.toArray⟩).toArray 9)
  rw [← hw3] at hs3
  have PF := PaF.mk' (f := k0 :: k1 :: k2 :: k3 :: r) (P2.out.1.trans n3) (n3.at_ P2.out.2.1) (n3.at_ P2.out.2.2) hs3 (by rw [hcb]; exact hrb.out)
  rw [HFN.out] at PF
  have PF := Lib.hid PF
  clear SP hs3 n3 hw3 hcb hrbe P2
  obtain ⟨sg, hsg⟩ : ∃ sg, w2.heap.size = sg := ⟨_, rfl⟩
  rw [hsg] at PF ⊢
  clear hsg
  go_upto_region 2 with fail
  obtain ⟨w4, hw4⟩ : ∃ w4, w3.alloc (.cells #[.slice (some ⟨sg, 0, none⟩) n n] 70) = w4 := ⟨_, rfl⟩
  obtain ⟨fb, hfb⟩ : ∃ fb, w3.heap.size = fb := ⟨_, rfl⟩
  rw [hw4, hfb] at PF
  rw [hw4, hfb]
  have RBL : Hid (w.heap.size ≤ rb) := Lib.hid PF.out.b3
  clear hw4 hfb hrb
  have PM := Lib.hid (PaM.mk' PF.out)
  obtain ⟨x0, x1, x2⟩ := PF.out.fs.box
  rw [HFN.out] at x0
  have q1 : decide ((n : Int) < 4) = false := by simp; omega
  have q2 : decide (5 < (n : Int)) = false := by simp; omega
  go_upto_region 5 with fail
  clear x0 x1 x2 q1 q2 PF
  unfold evA at PM
  obtain ⟨w5, hw5⟩ : ∃ w5, w4.alloc (.cells #[.int .i64 0, .int .u8 ((0 : Nat) : Int), .int .i64 0, .int .i64 0, .int .i64 0] 29) = w5 := ⟨_, rfl⟩
  obtain ⟨eb, heb⟩ : ∃ eb, w4.heap.size = eb := ⟨_, rfl⟩
  rw [hw5, heb] at PM
  rw [Int.natCast_zero] at hw5
  rw [hw5, heb]
  clear hw5 heb
  have HN9 : Hid ((k0 :: k1 :: k2 :: k3 :: r).length ≤ 9223372036854775807) := Lib.hid (by rw [HFN.out]; omega)
  have IT := Lib.hid (idxText_ok PM.out.fs (s := k0) rfl HN9.out (HCM.out w5 PM.out.nw).th)
  obtain ⟨p0, p1, pf⟩ := box2 PM.out.code
  obtain ⟨e0, e1, e2, e3, e4, ef⟩ := box5 PM.out.ev
  go_wp2_with fail
  refine IT.out.mono ?_
  rintro z w6 ⟨rfl, n6⟩
  obtain ⟨th, hth⟩ : ∃ th, placeI (c.threads.map (·.name)) k0 = th := ⟨_, rfl⟩
  have HTH := Lib.hid hth
  rw [hth]
  have P6 := Lib.hid (PM.out.on n6)
  clear IT n6 hth p0 p1 pf e0 e1 e2 e3 e4 ef PM
  obtain ⟨e0, e1, e2, e3, e4, ef⟩ := box5 P6.out.ev
  go_upto_region 6 with fail
  clear e0 e1 e2 e3 e4 ef
  obtain ⟨w7, hw7⟩ : ∃ w7, w6.setCell ⟨eb, 0, none⟩ (.int .i64 th) = w7 := ⟨_, rfl⟩
  have P7 := P6.out.put 0 (.int .i64 th)
  rw [hw7] at P7 ⊢
  simp only [List.setIfInBounds_toArray, List.set_cons_zero] at P7
  have P7 := Lib.hid P7
  clear hw7 P6
  obtain ⟨x0, x1, x2⟩ := P7.out.fs.box
  have x3 := P7.out.fs.cell (i := 1) (s := k1) rfl
  have X0 := Lib.hid x0
  have X1 := Lib.hid x1
  have X2 := Lib.hid x2
  have X3 := Lib.hid x3
  rw [HFN.out] at X0
  have SO := Lib.hid (fun (W : World) (hW : Nw w7 W) => sOps_ok (HT.out W (P7.out.nw.trans hW)))
  obtain ⟨pn, hpn⟩ : ∃ pn, placeN showW k1 = pn := ⟨_, rfl⟩
  have HPN := Lib.hid hpn
  have hp27 : pn ≤ 27 := by rw [← hpn]; exact placeN_show k1
  have hwu := wrap_u8' hp27
  have hwi : IntKind.i64.wrap (1 + ((pn : Int) - 1)) = (pn : Int) := by rw [show 1 + ((pn : Int) - 1) = (pn : Int) by omega]; exact IntWalk.i64_in (pn : Int) (by omega)
  have hC0 : Nw w7 w7.drew := (Nw.refl w7).drew
  clear x0 x1 x2 x3 hpn
  refine wp_region_steps 8 [.rd 1, .rd 2, .rd 3, .dn 0, .dn 4, .rd 5, .rd 6, .rd 7] [8] (fun x => Nw w7 x) (by kernel_rfl) (by kernel_rfl) (fun _ _ _ _ _ h => h) hC0 ?_
  refine stp_to (.slice (some ⟨sg, 0, none⟩) n n) rfl rfl rfl (fun x hx => by have h0 := Nw.cell hx X0.out; have h1 := Nat.lt_of_lt_of_le X1.out (Only.size hx); go_simp) (fun K hK => ?_); go_simp; refine hK _ ?_; clear hK K
  refine stp_to (.pointer (some ⟨sg, 1, none⟩)) rfl rfl rfl (fun x hx => by have h1 : (1 : Int) < (n : Int) := (by omega); go_simp) (fun K hK => ?_); go_simp; refine hK _ ?_; clear hK K
  refine stp_to (.string ⟨k1.toArray⟩) rfl rfl rfl (fun x hx => by have h0 := Nw.cell hx X3.out; have h1 := Nat.lt_of_lt_of_le X2.out (Only.size hx); go_simp) (fun K hK => ?_); go_simp; refine hK _ ?_; clear hK K
  refine stp_dn rfl (fun K hK => ?_)
  go_wp2_with fail
  refine (SO.out _ hC0).mono ?_
  rintro z w8 ⟨g, rfl, hg, n8⟩
  have N8 := Lib.hid (hC0.trans n8)
  have IX := Lib.hid (Index_ok hg.row (by rw [showW_len]; decide) k1)
  rw [HPN.out] at IX
  clear hg n8 SO
  go_wp2_with fail
  refine hK _ _ N8.out ?_; clear hK K
  refine stp_dn rfl (fun K hK => ?_)
  go_wp2_with fail
  refine IX.out.mono ?_
  rintro z w9 ⟨rfl, rfl⟩
  clear IX
  go_wp2_with fail
  refine hK _ _ N8.out ?_; clear hK K
  refine stp_to (.int .i64 (pn : Int)) rfl rfl rfl (fun x hx => by go_simp) (fun K hK => ?_); go_simp; refine hK _ ?_; clear hK K
  refine stp_to (.int .u8 (pn : Int)) rfl rfl rfl (fun x hx => by go_simp) (fun K hK => ?_); go_simp; refine hK _ ?_; clear hK K
  refine stp_to (.pointer (some ⟨eb, 1, none⟩)) rfl rfl rfl (fun x hx => by go_simp) (fun K hK => ?_); go_simp; refine hK _ ?_; clear hK K
  refine wpSteps_nil ?_
  refine stp_do rfl (by decide) (fun K hK => ?_)
  obtain ⟨e0, e1, e2, e3, e4, ef⟩ := box5 (P7.out.on N8.out).ev
  go_wp2_with fail
  (try (refine hK _ _ ?_; clear hK K))
  refine wpNums_nil ?_
  clear e0 e1 e2 e3 e4 ef X0 X1 X2 X3 hC0
  obtain ⟨w10, hw10⟩ : ∃ w10, w9.setCell ⟨eb, 1, none⟩ (.int .u8 (pn : Int)) = w10 := ⟨_, rfl⟩
  have P10 := (P7.out.on N8.out).put 1 (.int .u8 (pn : Int))
  rw [hw10] at P10 ⊢
  simp only [List.setIfInBounds_toArray, List.set_cons_zero, List.set_cons_succ] at P10
  have P10 := Lib.hid P10
  clear hw10 P7 N8
  have IT := Lib.hid (idxDecl_ok P10.out.fs (s := k2) rfl HN9.out (HCM.out w10 P10.out.nw).ob)
  obtain ⟨p0, p1, pf⟩ := box2 P10.out.code
  obtain ⟨e0, e1, e2, e3, e4, ef⟩ := box5 P10.out.ev
  go_wp2_with fail
  refine IT.out.mono ?_
  rintro z w11 ⟨rfl, n11⟩
  obtain ⟨ob, hob⟩ : ∃ ob, placeI (c.objs.map (·.name)) k2 = ob := ⟨_, rfl⟩
  have HOB := Lib.hid hob
  rw [hob]
  have P11 := Lib.hid (P10.out.on n11)
  clear IT n11 hob p0 p1 pf e0 e1 e2 e3 e4 ef P10
  obtain ⟨e0, e1, e2, e3, e4, ef⟩ := box5 P11.out.ev
  go_upto_region 8 with fail
  clear e0 e1 e2 e3 e4 ef
  obtain ⟨w12, hw12⟩ : ∃ w12, w11.setCell ⟨eb, 2, none⟩ (.int .i64 ob) = w12 := ⟨_, rfl⟩
  have P12 := P11.out.put 2 (.int .i64 ob)
  rw [hw12] at P12 ⊢
  simp only [List.setIfInBounds_toArray, List.set_cons_zero, List.set_cons_succ] at P12
  have P12 := Lib.hid P12
  clear hw12 P11
  obtain ⟨x0, x1, x2⟩ := P12.out.fs.box
  rw [HFN.out] at x0
  obtain ⟨m, hm⟩ : ∃ m, n = m + 3 := ⟨n - 3, by omega⟩
  have hmi : IntKind.i64.wrap ((n : Int) - 3) = (m : Int) := by rw [hm, show (((m + 3 : Nat) : Int) - 3) = (m : Int) by omega]; exact IntWalk.i64_in (m : Int) (by omega)
  have hm2 : m ≤ 2 := by omega
  have HM := Lib.hid hm
  clear hm
  go_upto_region 9 with fail
  obtain ⟨pb, hpb⟩ : ∃ pb, w12.heap.size = pb := ⟨_, rfl⟩
  obtain ⟨w13, hw13⟩ : ∃ w13, w12.alloc (.cells #[.pointer (some ⟨eb, 3, none⟩), .pointer (some ⟨eb, 4, none⟩)] 122) = w13 := ⟨_, rfl⟩
  have L13 : Hid (PaL w w13 cb rb fb sg eb pb (.slice a0 n0 c0) (.slice a1 n1 c1) k0 k1 k2 k3 r th ob pn 0 0 0) := Lib.hid (by
    have n13 := Nw.alloc (Nw.refl w12) (.cells #[.pointer (some ⟨eb, 3, none⟩), .pointer (some ⟨eb, 4, none⟩)] 122)
    rw [hw13] at n13
    refine ⟨P12.out.on n13, by rw [← hw13, ← hpb]; exact heap_alloc_new w12 _, by rw [← hpb]; exact lt_of_block P12.out.ev, ⟨by decide, by decide⟩, ⟨by decide, by decide⟩, fun h => absurd h (by omega), fun _ => rfl, fun h => absurd h (by omega)⟩)
  rw [hpb, hw13]
  clear hpb hw13 x0 x1 x2 P12 hmi
  go_loopw [51] (fun v wr => ∃ (k : Nat) (na nb : Int), k ≤ m ∧ v = .int .i64 k ∧ PaL w wr cb rb fb sg eb pb (.slice a0 n0 c0) (.slice a1 n1 c1) k0 k1 k2 k3 r th ob pn k na nb) (fun v _ => m - (intOf v).toNat)
  case atStart => exact ⟨0, 0, 0, by omega, rfl, L13.out⟩
  case round =>
    obtain ⟨k, na, nb, hk, rfl, hl⟩ := hrel
    have HLK := Lib.hid hl
    clear hl L13
    by_cases hkn : k < m
    · have q : decide ((k : Int) < (m : Int)) = true := by simp; omega
      have hk2 : k < 2 := by omega
      have h3k : 3 + k < (k0 :: k1 :: k2 :: k3 :: r).length := by rw [HFN.out, HM.out]; omega
      obtain ⟨fk, hfk⟩ : ∃ fk, (k0 :: k1 :: k2 :: k3 :: r)[3 + k]? = some fk := ⟨_, List.getElem?_eq_getElem h3k⟩
      have HFK := Lib.hid hfk
      have hfl : fk.length ≤ 281474976710656 := by
        have := split_le (s := s) (y := fk) (by rw [HF.out]; exact List.mem_of_getElem? hfk)
        have := HS.out
        omega
      have PI := Lib.hid (fun (W : World) (hW : Nw wr W) => pint_ok (HT.out W (HLK.out.m.nw.trans hW)) fk hfl)
      obtain ⟨x0, x1, x2⟩ := HLK.out.m.fs.box
      have x3 := HLK.out.m.fs.cell hfk
      rw [HFN.out] at x0
      obtain ⟨y0, -, -, y3⟩ := HLK.out.cells hk2
      have hi3 : (3 : Int) + (k : Int) < (n : Int) := by have := HM.out; omega
      have hi4 : (k : Int) < (m : Int) := by omega
      clear hfk h3k hfl
      go_wp2_with fail
      refine (PI.out wr (Nw.refl _)).mono ?_
      rintro z w14 ⟨⟨x, er, rfl, hx⟩, n14⟩
      have L14 := Lib.hid (HLK.out.on n14)
      obtain ⟨-, ⟨y1, y2⟩, y4, -⟩ := L14.out.cells hk2
      obtain ⟨r0, r1, r2, r3, r4, rf⟩ := box5 (by have := L14.out.m.res; unfold evA at this; exact this)
      clear x0 x1 x2 x3 y0 y3 n14
      rcases hx with ⟨hx, rfl⟩ | ⟨hx, t, p, rfl⟩
      · have HX := Lib.hid hx
        clear hx
        go_wp2_with fail
        obtain ⟨na', nb', hL⟩ := L14.out.put HR.out HFK.out HX.out
        exact ⟨⟨k + 1, na', nb', by omega, by simp, hL⟩, by simp [intOf]; omega⟩
      · have HX := Lib.hid hx
        clear hx
        go_wp2_with fail
        obtain ⟨y1, y2⟩ := set5 (by have := L14.out.m.res; unfold evA at this; exact this) (.int .i64 0) (.int .u8 0) (.int .i64 0) (.int .i64 0) (.int .i64 0)
        have hR : R = none := by rw [← HRE.out]; exact parse_fail HF.out HR.out HFK.out HLK.out.h1 HX.out
        rw [hR]
        exact parse_ret (th := 0) (op := 0) (ob := 0) (na := 0) (nb := 0) (b := false) y1 rfl rfl rfl ⟨rfl, L14.out.m.nw.trans' y2 (fun k hk e => by have := RBL.out; omega)⟩
    · have q : decide ((k : Int) < (m : Int)) = false := by simp; omega
      obtain rfl : k = m := by omega
      have hdone := parse_done (c := c) HF.out HR.out (k := k) (na := na) (nb := nb) (by have h1 := HFN.out; have h2 := HM.out; simp only [List.length_cons] at h1; omega) HLK.out.h1 HLK.out.h2 HLK.out.h3
      have hop : (UInt8.ofNat pn).toNat = pn := by simp; omega
      obtain ⟨e, he⟩ : ∃ e : Ev, (⟨th, UInt8.ofNat pn, ob, na, nb⟩ : Ev) = e := ⟨_, rfl⟩
      have hR : R = if lineF c e = (s, 0) then some e else none := by rw [← HRE.out, hdone, parse3]; simp only [HTH.out, HPN.out, HOB.out, he]
      have heok : e.Ok := by rw [← he]; obtain ⟨-, -, -, -, -, -, l0, l1⟩ := (HCM.out w (Nw.refl _)).lens; exact ⟨placeI_in HTH.out (by rw [List.length_map]; exact l1), placeI_in HOB.out (by rw [List.length_map]; exact l0), HLK.out.ia, HLK.out.ib⟩
      have LN := sLine_ok (HT.out wr HLK.out.m.nw) (HCM.out wr HLK.out.m.nw) heok (HLL.out e heok)
      have LN' : Calls Tryz.prog 18 #[.agg #[.slice a0 n0 c0, .slice a1 n1 c1], .agg #[.int .i64 th, .int .u8 (pn : Int), .int .i64 ob, .int .i64 na, .int .i64 nb]] wr fun z w' => z = .returned (.tuple #[.string ⟨(lineF c e).1.toArray⟩, .int .i64 (lineF c e).2]) ∧ Nw wr w' := by
        have hv : evV e = .agg #[.int .i64 th, .int .u8 (pn : Int), .int .i64 ob, .int .i64 na, .int .i64 nb] := by rw [← he]; unfold evV evA; simp only [hop]
        rw [hv] at LN
        exact LN
      have HRR := Lib.hid hR
      have HEE := Lib.hid he
      have HOP := Lib.hid hop
      obtain ⟨⟨ls, lc⟩, hlf⟩ : ∃ p, lineF c e = p := ⟨_, rfl⟩
      rw [hlf] at LN' HRR
      have LL := Lib.hid LN'
      obtain ⟨p0, p1, pf⟩ := box2 HLK.out.m.code
      obtain ⟨e0, e1, e2, e3, e4, ef⟩ := box5 HLK.out.m.ev
      clear LN LN' hR he hop heok hdone hlf
      go_wp2_with fail
      refine LL.out.mono ?_
      rintro z w14 ⟨rfl, n14⟩
      have L14 := Lib.hid (HLK.out.on n14)
      clear n14 p0 p1 pf e0 e1 e2 e3 e4 ef LL
      obtain ⟨e0, e1, e2, e3, e4, ef⟩ := box5 L14.out.m.ev
      obtain ⟨r0, r1, r2, r3, r4, rf⟩ := box5 (by have := L14.out.m.res; unfold evA at this; exact this)
      by_cases qc : lc = 0
      · by_cases qs : ls = s
        · have qs' : (ls == s) = true := by simp [qs]
          have hR2 : R = some e := by rw [HRR.out, qc, qs, if_pos rfl]
          have HR2 := Lib.hid hR2
          clear hR2 HRR qs
          subst qc
          go_wp2_with fail
          obtain ⟨y1, y2⟩ := set5 (by have := L14.out.m.res; unfold evA at this; exact this) (.int .i64 th) (.int .u8 (pn : Int)) (.int .i64 ob) (.int .i64 na) (.int .i64 nb)
          rw [HR2.out]
          refine parse_ret (th := th) (op := pn) (ob := ob) (na := na) (nb := nb) (b := true) y1 rfl rfl rfl ⟨?_, L14.out.m.nw.trans' y2 (fun k hk e => by have := RBL.out; omega)⟩
          unfold evO evV
          rw [← HEE.out]
          simp only [Option.getD_some, HOP.out, Option.isSome_some]
        · have qs' : (ls == s) = false := by simp [qs]
          have hR2 : R = none := by rw [HRR.out, if_neg (by simp [qs])]
          have HR2 := Lib.hid hR2
          clear hR2 HRR qs
          subst qc
          go_wp2_with fail
          obtain ⟨y1, y2⟩ := set5 (by have := L14.out.m.res; unfold evA at this; exact this) (.int .i64 0) (.int .u8 0) (.int .i64 0) (.int .i64 0) (.int .i64 0)
          rw [HR2.out]
          exact parse_ret (th := 0) (op := 0) (ob := 0) (na := 0) (nb := 0) (b := false) y1 rfl rfl rfl ⟨rfl, L14.out.m.nw.trans' y2 (fun k hk e => by have := RBL.out; omega)⟩
      · have hR2 : R = none := by rw [HRR.out, if_neg (by simp [qc])]
        have qc' : decide (lc = 0) = false := by simp [qc]
        have HR2 := Lib.hid hR2
        clear hR2 HRR
        go_wp2_with fail
        obtain ⟨y1, y2⟩ := set5 (by have := L14.out.m.res; unfold evA at this; exact this) (.int .i64 0) (.int .u8 0) (.int .i64 0) (.int .i64 0) (.int .i64 0)
        rw [HR2.out]
        exact parse_ret (th := 0) (op := 0) (ob := 0) (na := 0) (nb := 0) (b := false) y1 rfl rfl rfl ⟨rfl, L14.out.m.nw.trans' y2 (fun k hk e => by have := RBL.out; omega)⟩
end Go.Proofs.YtcmaedoolinijaaGreatDoor

namespace Go.Proofs.YtcmaedoolinijaaGreatDoor
open Go Go.RowKit Go.Sort
set_option maxRecDepth 100000
set_option maxHeartbeats 6400000
theorem split_count (s : List UInt8) : (Lib.split s [32]).length ≤ s.length + 1 := by
  have hd : (Lib.splitB ⟨#[32]⟩ 0 (Lib.countB ⟨s.toArray⟩ ⟨#[32]⟩) ⟨s.toArray⟩).map (fun x : ByteArray => x.data.toList) = Lib.split s [32] := Lib.splitB_data ⟨#[32]⟩ 0 _ ⟨s.toArray⟩
  rw [← hd, List.length_map]
  have h1 := Lib.splitB_length_le ⟨#[32]⟩ 0 (Lib.countB ⟨s.toArray⟩ ⟨#[32]⟩) ⟨s.toArray⟩
  have h2 := Lib.countB_le ⟨#[32]⟩ (by decide) _ ⟨s.toArray⟩ (Nat.le_refl _)
  have h3 : (⟨s.toArray⟩ : ByteArray).size = s.length := rfl
  omega
theorem sParse_ok {w : World} (hT : STab w) {v0 v1 : Value} {c : CodeP} (hC : CodeM w [v0, v1] c) {s : List UInt8} (hs : s.length < 4294967281) (hL : ∀ e : Ev, e.Ok → (lineF c e).1.length ≤ 140737488355328) :
    Calls Tryz.prog 19 #[.agg #[v0, v1], .string ⟨s.toArray⟩] w fun z w' => z = .returned (evO (parseE c s)) ∧ Nw w w' := by
  obtain ⟨a0, c0, a1, c1, rfl, rfl, -, -⟩ := hC.lens
  by_cases h : (Lib.split s [32]).length < 4 ∨ 5 < (Lib.split s [32]).length
  · rw [parseE_len h]
    exact sParse_bad hT.mx hs h (by have := split_count s; omega)
  · match hF : Lib.split s [32], h with
    | [], h => simp at h
    | [_], h => simp at h
    | [_, _], h => simp at h
    | [_, _, _], h => simp at h
    | k0 :: k1 :: k2 :: k3 :: r, h => exact sParse_good hT hC hs hL hF (by simp at h; omega)
theorem Line_ok {w : World} (hT : STab w) {v0 v1 : Value} {c : CodeP} {e : Ev} (h : CodeM w [v0, v1] c) (he : e.Ok) (hl : (lineF c e).1.length ≤ 140737488355328)
    (hR : ∀ W, Nw w W → Calls Tryz.prog 17 #[.agg #[v0, v1]] W fun z w' => z = .returned (.bool true) ∧ Nw W w') :
    Calls Tryz.prog 6 #[.agg #[v0, v1], evV e] w fun z w' => z = .returned (.tuple #[.string ⟨(lineF c e).1.toArray⟩, .int .i64 (lineF c e).2]) ∧ Nw w w' := by
  obtain ⟨a0, c0, a1, c1, rfl, rfl, -, -⟩ := h.lens
  obtain ⟨no, hno⟩ : ∃ n, c.objs.length = n := ⟨_, rfl⟩
  obtain ⟨nt, hnt⟩ : ∃ n, c.threads.length = n := ⟨_, rfl⟩
  have TB := Lib.hid (two_blk w #[.slice a0 no c0, .slice a1 nt c1] (evA e.thread e.op.toNat e.obj e.a e.b) 25 29)
  have HR := Lib.hid hR
  have HLN := Lib.hid (fun (W : World) (hW : Nw w W) => sLine_ok (hT.nw hW) (h.nw hW) he hl)
  obtain ⟨⟨ls, lc⟩, hlf⟩ : ∃ p, lineF c e = p := ⟨_, rfl⟩
  rw [hno, hnt, hlf] at HLN
  rw [hno, hnt] at HR
  rw [hno, hnt, hlf]
  clear hT h he hl hR hno hnt hlf
  unfold evV at HLN ⊢
  unfold evA at TB HLN ⊢
  go_enter Tryz.func6, Tryz.ntmps6
  obtain ⟨p0, p1, pf⟩ := box2 TB.out.2.1
  go_wp2_with fail
  refine (HR.out _ TB.out.1).mono ?_
  rintro z w1 ⟨rfl, n1⟩
  have N1 := Lib.hid (TB.out.1.trans n1)
  have C1 := Lib.hid (n1.at_ TB.out.2.1)
  have E1 := Lib.hid (n1.at_ TB.out.2.2)
  clear n1 TB p0 p1 pf
  obtain ⟨p0, p1, pf⟩ := box2 C1.out
  obtain ⟨e0, e1, e2, e3, e4, ef⟩ := box5 E1.out
  go_wp2_with fail
  refine (HLN.out _ N1.out).mono ?_
  rintro z w2 ⟨rfl, n2⟩
  have N2 := Lib.hid (N1.out.trans n2)
  clear n2
  go_wp2_with fail
  go_ret2
  exact ⟨rfl, N2.out⟩
def pE (o : Option Ev) : Value := .tuple #[evV (o.getD Ev.zero), .int .i64 (if o.isSome then 0 else 133)]
theorem Parse_ret {w : World} {rb : Nat} {a : Act} {th ob na nb : Int} {op : Nat} {b : Int} {Q : Ending → World → Prop} (h : w.heap[rb]? = some (.cells (evA th op ob na nb) 29 (0, 0)))
    (h4 : a.tmps[4]? = some (.pointer (some ⟨rb, 0, none⟩))) (h5 : a.tmps[5]? = some (.int .i64 b)) (hd : a.defers = []) (hQ : Q (.returned (.tuple #[.agg (evA th op ob na nb), .int .i64 b])) w) : bodyPost Tryz.prog Tryz.f7 Q .ret a w := by
  unfold evA at h hQ
  obtain ⟨r0, r1, r2, r3, r4, -⟩ := box5 h
  refine bodyPost_ret (v := .tuple #[.agg #[.int .i64 th, .int .u8 (op : Int), .int .i64 ob, .int .i64 na, .int .i64 nb], .int .i64 b]) ?_ hd hQ
  simp [results, Tryz.results7, go_sem, h4, h5, r0, r1, r2, r3, r4]
theorem ParseTxt_ok {w : World} (hT : STab w) {v0 v1 : Value} {c : CodeP} (h : CodeM w [v0, v1] c) {s : List UInt8} (hs : s.length < 4294967281) (hL : ∀ e : Ev, e.Ok → (lineF c e).1.length ≤ 140737488355328)
    (hR : ∀ W, Nw w W → Calls Tryz.prog 17 #[.agg #[v0, v1]] W fun z w' => z = .returned (.bool true) ∧ Nw W w') :
    Calls Tryz.prog 7 #[.agg #[v0, v1], .string ⟨s.toArray⟩] w fun z w' => z = .returned (pE (parseE c s)) ∧ Nw w w' := by
  obtain ⟨a0, c0, a1, c1, rfl, rfl, -, -⟩ := h.lens
  obtain ⟨no, hno⟩ : ∃ n, c.objs.length = n := ⟨_, rfl⟩
  obtain ⟨nt, hnt⟩ : ∃ n, c.threads.length = n := ⟨_, rfl⟩
  have TB := Lib.hid (two_blk w #[.slice a0 no c0, .slice a1 nt c1] #[.int .i64 0, .int .u8 0, .int .i64 0, .int .i64 0, .int .i64 0] 25 29)
  have HR := Lib.hid hR
  have HPR := Lib.hid (fun (W : World) (hW : Nw w W) => sParse_ok (hT.nw hW) (h.nw hW) hs hL)
  obtain ⟨R, hRR⟩ : ∃ p, parseE c s = p := ⟨_, rfl⟩
  rw [hno, hnt, hRR] at HPR
  rw [hno, hnt] at HR
  rw [hno, hnt, hRR]
  clear hT h hs hL hR hno hnt hRR
  go_enter Tryz.func7, Tryz.ntmps7
  obtain ⟨p0, p1, pf⟩ := box2 TB.out.2.1
  go_wp2_with fail
  refine (HR.out _ TB.out.1).mono ?_
  rintro z w1 ⟨rfl, n1⟩
  have N1 := Lib.hid (TB.out.1.trans n1)
  have C1 := Lib.hid (n1.at_ TB.out.2.1)
  have E1 := Lib.hid (n1.at_ TB.out.2.2)
  clear n1 TB p0 p1 pf
  obtain ⟨p0, p1, pf⟩ := box2 C1.out
  obtain ⟨rb, hrb⟩ : ∃ rb, w.heap.size + 1 = rb := ⟨_, rfl⟩
  rw [hrb] at E1 ⊢
  have RB : Hid (w.heap.size ≤ rb) := Lib.hid (by omega)
  clear hrb
  go_wp2_with fail
  refine (HPR.out _ N1.out).mono ?_
  unfold evO
  rintro z w2 ⟨rfl, n2⟩
  have N2 := Lib.hid (N1.out.trans n2)
  have E2 := Lib.hid (n2.at_ E1.out)
  clear n2 p0 p1 pf
  obtain ⟨⟨th, op, ob, na, nb⟩, he⟩ : ∃ e, R.getD Ev.zero = e := ⟨_, rfl⟩
  obtain ⟨y, hy⟩ : ∃ y, R.isSome = y := ⟨_, rfl⟩
  have HE := Lib.hid he
  have HY := Lib.hid hy
  rw [he, hy]
  clear he hy
  unfold evV evA
  go_upto_region 4 with fail
  have A2 := heap_alloc_new w2 (.cells #[.int .i64 th, .int .u8 (op.toNat : Int), .int .i64 ob, .int .i64 na, .int .i64 nb] 29)
  obtain ⟨w3, hw3⟩ : ∃ w3, w2.alloc (.cells #[.int .i64 th, .int .u8 (op.toNat : Int), .int .i64 ob, .int .i64 na, .int .i64 nb] 29) = w3 := ⟨_, rfl⟩
  have n3 := Nw.alloc (Nw.refl w2) (.cells #[.int .i64 th, .int .u8 (op.toNat : Int), .int .i64 ob, .int .i64 na, .int .i64 nb] 29)
  obtain ⟨xb, hxb⟩ : ∃ xb, w2.heap.size = xb := ⟨_, rfl⟩
  rw [hw3, hxb] at A2
  rw [hw3] at n3
  rw [hw3, hxb]
  have A3 := Lib.hid A2
  have N3 := Lib.hid (N2.out.trans n3)
  have E3 := Lib.hid (n3.at_ E2.out)
  clear A2 n3 hw3 hxb E2
  obtain ⟨e0, e1, e2, e3, e4, ef⟩ := box5 E3.out
  obtain ⟨x0, x1, x2, x3, x4, xf⟩ := box5 A3.out
  cases y with
  | false =>
    go_wp2_with fail
    obtain ⟨y1, y2⟩ := set5 E3.out (.int .i64 0) (.int .u8 0) (.int .i64 0) (.int .i64 0) (.int .i64 0)
    have hR : R = none := by simpa using HY.out
    refine Parse_ret (th := 0) (op := 0) (ob := 0) (na := 0) (nb := 0) (b := 133) y1 rfl rfl rfl ⟨?_, N3.out.trans' y2 (fun k hk e => by have := RB.out; omega)⟩
    rw [hR]; rfl
  | true =>
    go_wp2_with fail
    obtain ⟨y1, y2⟩ := set5 E3.out (.int .i64 th) (.int .u8 (op.toNat : Int)) (.int .i64 ob) (.int .i64 na) (.int .i64 nb)
    refine Parse_ret (th := th) (op := op.toNat) (ob := ob) (na := na) (nb := nb) (b := 0) y1 rfl rfl rfl ⟨?_, N3.out.trans' y2 (fun k hk e => by have := RB.out; omega)⟩
    unfold pE evV
    rw [HE.out, HY.out]
    rfl
end Go.Proofs.YtcmaedoolinijaaGreatDoor

namespace Go.Proofs.YtcmaedoolinijaaGreatDoor
set_option maxRecDepth 100000
open Go Go.Lib
theorem index_at {c : UInt8} {l : List UInt8} : ∀ {x : List UInt8}, c ∉ x → index (x ++ c :: l) [c] = x.length
  | [], _ => by simp [index, List.isPrefixOf]
  | b :: x, h => by
    simp only [List.mem_cons, not_or] at h
    have := index_at (l := l) h.2
    rw [List.cons_append, index, if_neg (by simp [List.isPrefixOf, h.1]), this, if_neg (by simp)]
    simp
theorem splitK_join {c : UInt8} : ∀ (r : List (List UInt8)) (x : List UInt8), c ∉ x → (∀ y ∈ r, c ∉ y) → splitK [c] 0 r.length (x ++ joinTail [c] r) = x :: r
  | [], x, _, _ => by simp [splitK, joinTail]
  | y :: r, x, hx, hr => by
    have e : joinTail [c] (y :: r) = c :: (y ++ joinTail [c] r) := by simp [joinTail]
    have hi := index_at (l := y ++ joinTail [c] r) hx
    rw [List.length_cons, splitK, e, hi, if_neg (by simp)]
    have := splitK_join r y (hr y (by simp)) (fun z hz => hr z (by simp [hz]))
    simp [this]
theorem count_tail {c : UInt8} : ∀ (r : List (List UInt8)), (∀ y ∈ r, c ∉ y) → (joinTail [c] r).count c = r.length
  | [], _ => rfl
  | y :: r, h => by
    have e : joinTail [c] (y :: r) = c :: (y ++ joinTail [c] r) := by simp [joinTail]
    rw [e, List.count_cons, List.count_append, List.count_eq_zero.2 (h y (by simp)), count_tail r (fun z hz => h z (by simp [hz]))]
    simp
theorem split_join {c : UInt8} {x : List UInt8} {r : List (List UInt8)} (h : ∀ y ∈ x :: r, c ∉ y) : Lib.split (join (x :: r) [c]) [c] = x :: r := by
  have hx := h x (by simp)
  have hr := fun y hy => h y (List.mem_cons_of_mem x hy)
  have e : count (x ++ joinTail [c] r) [c] = r.length := by
    rw [count_one, List.count_append, List.count_eq_zero.2 hx, count_tail r hr]; omega
  rw [join_cons, Lib.split, e, splitK_join r x hx hr]
theorem digits_nil (u : Nat) : decDigits u ≠ [] := by
  rw [decDigits]; split <;> simp
theorem digits_dig (u : Nat) : ∀ c ∈ decDigits u, 48 ≤ c.toNat ∧ c.toNat ≤ 57 := by
  induction u using Nat.strongRecOn with
  | _ u ih =>
    intro c hc
    rw [decDigits] at hc
    split at hc
    · rename_i h
      simp only [List.mem_singleton] at hc
      subst hc
      rw [UInt8.toNat_ofNat']
      omega
    · rename_i h
      rcases List.mem_append.1 hc with h1 | h1
      · exact ih _ (by omega) c h1
      · simp only [List.mem_singleton] at h1
        subst h1
        rw [UInt8.toNat_ofNat']
        omega
theorem parse_digits {M : Nat} (hM : M = 18446744073709551615) (u : Nat) : ∀ (l : List UInt8), u ≤ M → parseUintM M 0 (decDigits u ++ l) = parseUintM M u l := by
  subst hM
  induction u using Nat.strongRecOn with
  | _ u ih =>
    intro l hu
    rw [decDigits]
    split
    · rename_i h
      have e : (UInt8.ofNat (48 + u)).toNat = 48 + u := by rw [UInt8.toNat_ofNat']; omega
      rw [List.singleton_append, parseUintM, e, if_pos (by omega), if_neg (by omega), if_neg (by omega)]
      congr 1
      omega
    · rename_i h
      have e : (UInt8.ofNat (48 + u % 10)).toNat = 48 + u % 10 := by rw [UInt8.toNat_ofNat']; omega
      rw [List.append_assoc, ih _ (by omega) _ (by omega), List.singleton_append, parseUintM, e, if_pos (by omega), if_neg (by omega), if_neg (by omega)]
      congr 1
      omega
theorem parse_mag {u : Nat} (h : u ≤ 18446744073709551615) : parseUintB 64 (decDigits u) = .ok u := by
  rw [parseUintB, if_neg (digits_nil u), show (2 ^ 64 - 1 : Nat) = 18446744073709551615 from rfl]
  have := parse_digits rfl u [] h
  rw [List.append_nil] at this
  rw [this, parseUintM]
theorem num_itoa {n : Int} (h : in64 n) : numOf (itoa n) = some n := by
  unfold in64 at h
  unfold numOf itoa
  by_cases hn : n < 0
  · rw [if_pos hn, parseIntB_minus, parse_mag (by omega)]
    simp only [signedC]
    rw [if_neg (by omega)]
    simp only [Option.some.injEq]
    omega
  · rw [if_neg hn]
    obtain ⟨c, r, e⟩ : ∃ c r, decDigits n.toNat = c :: r := by
      cases hd : decDigits n.toNat with
      | nil => exact absurd hd (digits_nil _)
      | cons c r => exact ⟨c, r, rfl⟩
    have hc := digits_dig n.toNat c (by rw [e]; simp)
    rw [e, parseIntB_plain 64 c r (by omega) (by omega), ← e, parse_mag (by omega)]
    simp only [signlessC]
    rw [if_neg (by omega)]
    simp only [Option.some.injEq]
    omega
theorem itoa_big (n : Int) : ∀ c ∈ itoa n, 32 < c.toNat := by
  intro c hc
  unfold itoa at hc
  split at hc
  · rcases List.mem_cons.1 hc with rfl | h
    · decide
    · have := digits_dig _ c h; omega
  · have := digits_dig _ c hc; omega
theorem named_spec : ∀ (l seen : List (List UInt8)), namedS seen l = true → l.Nodup ∧ (∀ s ∈ l, s ∉ seen) ∧ ∀ s ∈ l, s ≠ [] ∧ ∀ c ∈ s, 32 < c.toNat
  | [], _, _ => by simp
  | s :: l, seen, h => by
    simp only [namedS, Bool.and_eq_true, Bool.not_eq_true', Bool.or_eq_false_iff] at h
    obtain ⟨⟨⟨⟨h1, h2⟩, h3⟩, h4⟩, h5⟩ := h
    obtain ⟨i1, i2, i3⟩ := named_spec l _ h5
    refine ⟨List.nodup_cons.2 ⟨fun hm => absurd (List.mem_cons_self) (i2 s hm), i1⟩, ?_, ?_⟩
    · intro x hx
      rcases List.mem_cons.1 hx with rfl | hx
      · simpa using h3
      · exact fun hm => i2 x hx (List.mem_cons_of_mem _ hm)
    · intro x hx
      rcases List.mem_cons.1 hx with rfl | hx
      · refine ⟨by simpa using h1, fun c hc => ?_⟩
        have := (List.any_eq_false.1 h4) c hc
        simp only [decide_eq_true_eq, UInt8.not_le, UInt8.lt_iff_toNat_lt] at this
        simpa using this
      · exact i3 x hx
theorem place_nth {l : List (List UInt8)} {i : Int} (hd : l.Nodup) (h0 : 0 ≤ i) (h : i < l.length) : placeI l (nth l i) = i := by
  have hi : i.toNat < l.length := by omega
  have e : nth l i = l[i.toNat] := by simp [nth, hi]
  rw [e, placeI, if_pos (List.getElem_mem hi)]
  have := hd.idxOf_getElem i.toNat hi
  omega
theorem nth_mem {l : List (List UInt8)} {i : Int} (h0 : 0 ≤ i) (h : i < l.length) : nth l i ∈ l := by
  have hi : i.toNat < l.length := by omega
  have e : nth l i = l[i.toNat] := by simp [nth, hi]
  rw [e]; exact List.getElem_mem hi
theorem place_op : ∀ k : Fin 27, placeN showW (nth showW ((k.val : Nat) : Int)) = k.val + 1 := by decide +kernel
theorem op_big : ∀ s ∈ showW, ∀ c ∈ s, 32 < c.toNat := by decide +kernel
end Go.Proofs.YtcmaedoolinijaaGreatDoor
