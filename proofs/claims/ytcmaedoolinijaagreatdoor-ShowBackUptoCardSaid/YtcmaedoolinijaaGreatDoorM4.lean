/-
  Texts merged by a program of this claim's: WordsC, ParsePlain, ShelfX, TreeP.
-/
import Derived.Test.YtcmaedoolinijaaGreatDoorM3
import Derived.Deep.DeepCutAuto
import Derived.Test.YtcmaedoolinijaaGreatDoorM2
import Derived.Shelf.Strings.Builder1
import Derived.Shelf.Strings.Builder2
import Derived.Shelf.Strings.OnBuilder
import Derived.Shelf.Small.Strs
import Derived.Shelf.Strings.BuilderF
import Derived.Shelf.Strconv.Itoa0
import Derived.Shelf.Strconv.Itoa1
import Derived.Shelf.LaysM
import Derived.Shelf.Strconv.Itoa2
import Derived.Shelf.Strconv.Itoa3
import Derived.Shelf.Strconv.Itoa4
import Derived.Shelf.Strconv.ParseIntEmpty
import Derived.Shelf.Strconv.Clone
import Derived.Shelf.Strconv.SyntaxError
import Derived.Shelf.LaysC
import Derived.Shelf.Strconv.ToError
import Derived.Shelf.Strconv.Lower
import Derived.Shelf.Strconv.ParseUint10
import Derived.Shelf.Strconv.ParseUint10Empty
import Derived.Shelf.Strconv.ParseUint10Any
import Derived.Shelf.Strconv.ParseInt10
import Derived.Shelf.Strconv.RangeError
import Derived.Shelf.Strconv.ToErrorRange
import Derived.Shelf.Strconv.ParseUintEmpty
import Derived.Shelf.Strconv.ParseUint10b64
import Derived.Shelf.Strconv.ParseUint10b32
import Derived.Shelf.Strconv.ParseUint10b16
import Derived.Shelf.Strconv.ParseUint10b8
import Derived.Shelf.Strconv.ParseUint10At
import Derived.Shelf.Strconv.ParseInt10At64
import Derived.Shelf.Strconv.ParseInt10At32
import Derived.Shelf.Strconv.ParseInt10At16
import Derived.Shelf.Strconv.ParseInt10At8
import Derived.Shelf.Strconv.ParseInt10All
import Derived.Shelf.Strconv.ParseIntPublic10
import Derived.Shelf.Strings.Search1
import Derived.Shelf.Strings.Search2
import Derived.Shelf.Strings.Search3
import Derived.Shelf.Strings.Cut
import Derived.Shelf.Strings.Count
import Derived.Shelf.Strings.Shaped
import Derived.Shelf.Strings.Split
import Derived.Shelf.Strings.Fields
import Derived.Shelf.Strings.Replace
import Derived.Shelf.Unicode.Latin
import Derived.Shelf.Unicode.DecodeSlow
import Derived.Shelf.Unicode.Is16White
import Derived.Shelf.Unicode.IsSpaceAny
import Derived.Shelf.Unicode.Is16Any
import Derived.Shelf.Unicode.Is32Any
import Derived.Shelf.Unicode.ExclAny
import Derived.Shelf.Slices.Turned
import Derived.Test.YtcmaedoolinijaaGreatDoorProg
namespace Go.Proofs.YtcmaedoolinijaaGreatDoor
open Go Go.RowKit Go.Sort
set_option maxRecDepth 100000
set_option maxHeartbeats 3200000
def tokA (t : Tok) : Array Value := #[.int .u8 (t.kind : Int), .string ⟨t.s.toArray⟩, .int .i64 t.n, .int .i64 t.line, .int .i64 t.at_, .int .i64 t.end_]
def fltA (e l : Int) : Array Value := #[.int .i64 e, .int .i64 l]
theorem box6 {w : World} {p : Nat} {a b c d e f : Value} {t : TypeId} (h : w.heap[p]? = some (.cells #[a, b, c, d, e, f] t (0, 0))) :
    w.cell? ⟨p, 0, none⟩ = some a ∧ w.cell? ⟨p, 1, none⟩ = some b ∧ w.cell? ⟨p, 2, none⟩ = some c ∧ w.cell? ⟨p, 3, none⟩ = some d ∧ w.cell? ⟨p, 4, none⟩ = some e ∧ w.cell? ⟨p, 5, none⟩ = some f ∧ ∀ i, w.frozen? ⟨p, i, none⟩ = false := by
  simp [World.cell?, World.frozen?, h]
theorem box2 {w : World} {p : Nat} {a b : Value} {t : TypeId} (h : w.heap[p]? = some (.cells #[a, b] t (0, 0))) :
    w.cell? ⟨p, 0, none⟩ = some a ∧ w.cell? ⟨p, 1, none⟩ = some b ∧ ∀ i, w.frozen? ⟨p, i, none⟩ = false := by
  simp [World.cell?, World.frozen?, h]
structure NxB (w wr : World) (m : Nat) (x : Tok) : Prop where
  nw : Nw w wr
  r0 : wr.heap[w.heap.size]? = some (.cells (tokA Tok.none) 84 (0, 0))
  r1 : wr.heap[w.heap.size + 1]? = some (.cells (fltA 0 0) 43 (0, 0))
  tk : wr.heap[m]? = some (.cells (tokA x) 84 (0, 0))
  lt : w.heap.size + 1 < m
theorem NxB.on {w wr w' : World} {m : Nat} {x : Tok} (h : NxB w wr m x) (ho : Nw wr w') : NxB w w' m x := ⟨h.nw.trans ho, ho.at_ h.r0, ho.at_ h.r1, ho.at_ h.tk, h.lt⟩
theorem NxB.put {w wr : World} {m : Nat} {x y : Tok} (h : NxB w wr m x) (i : Nat) (v : Value) (hy : (tokA x).setIfInBounds i v = tokA y) : NxB w (wr.setCell ⟨m, i, none⟩ v) m y where
  nw := h.nw.trans' (T := fun k => k = m) (Only.setCell (S := fun k => k = m) (p := ⟨m, i, none⟩) (Only.refl wr) (fun _ => rfl) _) (fun k hk e => absurd hk (by have := h.lt; omega))
  r0 := by rw [heap_setCell_other _ _ _ _ (by have := h.lt; simp; omega)]; exact h.r0
  r1 := by rw [heap_setCell_other _ _ _ _ (by have := h.lt; simp; omega)]; exact h.r1
  tk := by rw [← hy]; exact heap_setCell_same _ _ _ _ _ _ h.tk
  lt := h.lt
theorem Nw.put {w wr : World} (h : Nw w wr) {b : Nat} (hb : w.heap.size ≤ b) (i : Nat) (v : Value) : Nw w (wr.setCell ⟨b, i, none⟩ v) :=
  h.trans' (T := fun k => k = b) (Only.setCell (S := fun k => k = b) (p := ⟨b, i, none⟩) (Only.refl wr) (fun _ => rfl) _) (fun k hk e => absurd hk (by omega))
theorem cls_digit {b : Nat} (h : clsN b = 3) : 48 ≤ b ∧ b ≤ 57 := by
  unfold clsN at h
  repeat' (split at h)
  all_goals first | omega | (simp at h)
theorem digits_tok {l : List UInt8} {c : UInt8} (hc : clsN c.toNat = 3) : ∀ b ∈ (c :: l).take (endB (c :: l)), 48 ≤ b.toNat ∧ b.toNat ≤ 57 := by
  intro b hb
  rw [endB, if_neg (by rw [hc]; decide), Nat.add_comm 1, List.take_succ_cons] at hb
  rcases List.mem_cons.1 hb with rfl | hb
  · exact cls_digit hc
  · have h1 : l.take (l.takeWhile (more4 c)).length = l.takeWhile (more4 c) := (List.prefix_iff_eq_take.1 (List.takeWhile_prefix (more4 c))).symm
    rw [h1] at hb
    have h2 := List.all_eq_true.1 (List.all_takeWhile (p := more4 c) (l := l)) b hb
    simp only [more4, hc] at h2
    refine cls_digit ?_
    simpa using h2
theorem Next_ok {w : World} {t : List UInt8} {a : Int} {M : Int} (hM : w.cell? ⟨0, 0, none⟩ = some (.int .i64 M)) (hl : t.length ≤ 9223372036854775807) (ha : -9223372036854775808 ≤ a ∧ a ≤ 9223372036854775807) :
    Calls Tryz.prog 62 #[.string ⟨t.toArray⟩, .int .i64 a] w fun z w' => z = .returned (.tuple #[.agg (tokA (nextF t a).1), .agg (fltA (nextF t a).2.1 (nextF t a).2.2)]) ∧ Nw w w' := by
  obtain ⟨n, hn⟩ : ∃ n, t.length = n := ⟨_, rfl⟩
  have HN := Lib.hid hn
  have HM := Lib.hid hM
  unfold nextF
  clear hM
  rw [hn] at hl ⊢
  by_cases c1 : n > 16384
  · have q1 : decide ((16384 : Int) < (n : Int)) = true := by simp; omega
    rw [if_pos c1]
    go_enter Tryz.func62, Tryz.ntmps62
    go_wp2_with fail
    refine bodyPost_ret (v := .tuple #[.agg (tokA Tok.none), .agg (fltA 3 0)]) (by simp [results, Tryz.results62, go_sem]; exact ⟨rfl, rfl⟩) rfl ⟨rfl, ?_⟩
    exact ((Nw.refl w).alloc _).alloc _
  rw [if_neg c1]
  have q1 : decide ((16384 : Int) < (n : Int)) = false := by simp; omega
  by_cases c2 : a < 0 ∨ a > n
  · rw [if_pos c2]
    have R : Hid (Nw w ((w.alloc (.cells (tokA Tok.none) 84)).alloc (.cells (fltA 2 0) 43))) := Lib.hid (((Nw.refl w).alloc _).alloc _)
    by_cases c3 : a < 0
    · have q2 : decide (a < 0) = true := by simpa using c3
      go_enter Tryz.func62, Tryz.ntmps62
      go_wp2_with fail
      refine bodyPost_ret (v := .tuple #[.agg (tokA Tok.none), .agg (fltA 2 0)]) (by simp [results, Tryz.results62, go_sem]; exact ⟨rfl, rfl⟩) rfl ⟨rfl, R.out⟩
    · have q2 : decide (a < 0) = false := by simpa using c3
      have q3 : decide ((n : Int) < a) = true := by simp; omega
      go_enter Tryz.func62, Tryz.ntmps62
      go_wp2_with fail
      refine bodyPost_ret (v := .tuple #[.agg (tokA Tok.none), .agg (fltA 2 0)]) (by simp [results, Tryz.results62, go_sem]; exact ⟨rfl, rfl⟩) rfl ⟨rfl, R.out⟩
  rw [if_neg c2]
  obtain ⟨k, rfl⟩ : ∃ k : Nat, a = k := ⟨a.toNat, by omega⟩
  have q2 : decide ((k : Int) < 0) = false := by simp
  have q3 : decide ((n : Int) < (k : Int)) = false := by simp; omega
  simp only [Int.toNat_natCast]
  obtain ⟨e, he⟩ : ∃ e, k + passB false (t.drop k) = e := ⟨_, rfl⟩
  rw [he]
  have hen : e ≤ n := by
    have := passB_le false (t.drop k)
    rw [List.length_drop] at this
    omega
  have HE := Lib.hid he
  clear he ha
  obtain ⟨R, hR⟩ : ∃ R, (if e = n then ((⟨5, [], 0, (((t.take e).count 10 : Nat) : Int) + 1, e, e⟩ : Tok), (0 : Int), (0 : Int)) else tokF ((t.drop e).take (endB (t.drop e))) ((((t.take e).count 10 : Nat) : Int) + 1) e (e + endB (t.drop e))) = R := ⟨_, rfl⟩
  rw [hR]
  have HR := Lib.hid hR
  clear hR
  have BG := Lib.hid (fun (W : World) (g : Nat) (h : Cls W g) => by have := begins_ok (t := t) (a := k) h (by omega) (by omega); rw [HE.out] at this; exact this)
  go_enter Tryz.func62, Tryz.ntmps62
  go_wp2_with fail
  refine (classes_ok).mono ?_
  rintro z w1 ⟨rfl, n1⟩
  have N1 := Lib.hid n1
  clear n1
  go_wp2_with (first | (refine wpList_store_row rfl 174 _ _ rfl w1.heap.size (tabA clsN) rfl rfl 174 Tryz.zeroCells174 (heap_alloc_new _ _) (by rw [size_tabA]; exact info174) (by rw [size_tabA, zero174, size_tabA]) (tab_one _) ?_))
  obtain ⟨g, hg⟩ : ∃ g, w1.heap.size = g := ⟨_, rfl⟩
  have hC0 : Cls ((w1.alloc (Obj.cells Tryz.zeroCells174 174)).setRow w1.heap.size (tabA clsN)) w1.heap.size := setRow_heap _ _ _ _ _ _ (heap_alloc_new _ _)
  have hN0 : Nw w1 ((w1.alloc (Obj.cells Tryz.zeroCells174 174)).setRow w1.heap.size (tabA clsN)) := Only.setRow ((Nw.refl w1).alloc _) (fun h => absurd h (by omega)) _
  obtain ⟨wa, hwa⟩ : ∃ wa, ((w1.alloc (Obj.cells Tryz.zeroCells174 174)).setRow w1.heap.size (tabA clsN)) = wa := ⟨_, rfl⟩
  rw [hwa] at hC0 hN0 ⊢
  rw [hg] at hC0 ⊢
  have NA := Lib.hid hN0
  have CA := Lib.hid hC0
  clear hN0 hC0 hwa
  refine (BG.out wa g CA.out).mono ?_
  rintro z w2 ⟨rfl, n2⟩
  have N2 := Lib.hid n2
  clear n2
  go_wp2_with fail
  have CB : ∀ W, Calls Tryz.prog 14 #[.string ((⟨t.toArray⟩ : ByteArray).extract 0 e), .string ⟨#[10]⟩] W (fun z w' => z = .returned (.int .i64 (((t.take e).count 10 : Nat) : Int)) ∧ w' = W) := fun W => (Tryz.strings_Count_one _ 10 W).mono (by
    rintro z w' ⟨rfl, rfl⟩
    refine ⟨?_, rfl⟩
    rw [ByteArray.extract_mk]
    simp only [List.drop_zero, Nat.sub_zero, Lib.countByte])
  refine (CB w2).mono ?_
  rintro z w3 ⟨rfl, rfl⟩
  clear CB
  obtain ⟨ln, hln⟩ : ∃ ln, (t.take e).count 10 = ln := ⟨_, rfl⟩
  have hlb : ln ≤ e := by
    have := List.count_le_length (a := (10 : UInt8)) (l := t.take e)
    rw [hln, List.length_take] at this
    omega
  rw [hln]
  have HLN := Lib.hid hln
  clear hln
  have w1' : IntKind.i64.wrap ((ln : Int) + 1) = (ln : Int) + 1 := IntWalk.i64_in _ (by omega)
  obtain ⟨m, hm⟩ : ∃ m, w3.heap.size = m := ⟨_, rfl⟩
  have NB : NxB w (w3.alloc (Obj.cells (tokA ⟨5, [], 0, (ln : Int) + 1, e, e⟩) 84)) m ⟨5, [], 0, (ln : Int) + 1, e, e⟩ := by
    have h0 : Nw w ((w.alloc (.cells (tokA Tok.none) 84)).alloc (.cells (fltA 0 0) 43)) := ((Nw.refl w).alloc _).alloc _
    have N3 : Nw ((w.alloc (.cells (tokA Tok.none) 84)).alloc (.cells (fltA 0 0) 43)) w3 := N1.out.trans (NA.out.trans N2.out)
    have N4 := N3.alloc (Obj.cells (tokA ⟨5, [], 0, (ln : Int) + 1, e, e⟩) 84)
    refine ⟨h0.trans N4, N4.at_ ?_, N4.at_ ?_, ?_, ?_⟩
    · rw [heap_alloc_old _ _ (by simp)]; exact heap_alloc_new w _
    · have := heap_alloc_new (w.alloc (.cells (tokA Tok.none) 84)) (.cells (fltA 0 0) 43)
      rw [World.size_alloc] at this
      exact this
    · rw [← hm]; exact heap_alloc_new w3 _
    · have := N3.size
      simp only [World.size_alloc] at this
      omega
  have NBH := Lib.hid NB
  have CB := Lib.hid (CA.out.nw (N2.out.alloc (Obj.cells (tokA ⟨5, [], 0, (ln : Int) + 1, e, e⟩) 84)))
  clear NB N1 NA CA
  go_upto_region 8 with fail
  obtain ⟨wb, hwb⟩ : ∃ wb, (w3.alloc (Obj.cells #[Value.int IntKind.u8 5, Value.string { data := #[] }, Value.int IntKind.i64 0, Value.int IntKind.i64 ((ln : Int) + 1), Value.int IntKind.i64 (e : Int), Value.int IntKind.i64 (e : Int)] 84)) = wb := ⟨_, rfl⟩
  have NB : Hid (NxB w wb m ⟨5, [], 0, (ln : Int) + 1, e, e⟩) := by rw [← hwb]; exact NBH.out
  have CB' : Hid (Cls wb g) := by rw [← hwb]; exact CB.out
  rw [hwb]
  clear hwb NBH CB N2 hm
  have hmw := NB.out.lt
  have hm0 : ¬ m = w.heap.size := by omega
  have hm1 : ¬ m = w.heap.size + 1 := by omega
  have hm2 : ¬ w.heap.size = m := by omega
  have hm3 : ¬ w.heap.size + 1 = m := by omega
  have hm4 : ¬ w.heap.size = w.heap.size + 1 := by omega
  have hm5 : ¬ w.heap.size + 1 = w.heap.size := by omega
  by_cases hee : e = n
  · have hRR : R = (⟨5, [], 0, (ln : Int) + 1, e, e⟩, 0, 0) := by rw [← HR.out, if_pos hee, HLN.out]
    subst hRR
    subst hee
    clear HR
    obtain ⟨a0, a1, a2, a3, a4, a5, af⟩ := box6 NB.out.r0
    obtain ⟨b0, b1, b2, b3, b4, b5, bf⟩ := box6 NB.out.tk
    obtain ⟨c0, c1', cf⟩ := box2 NB.out.r1
    go_wp2_with fail
    refine bodyPost_ret (v := .tuple #[.agg (tokA ⟨5, [], 0, (ln : Int) + 1, e, e⟩), .agg (fltA 0 0)]) (by simp [results, Tryz.results62, go_sem, hm0, hm1, hm2, hm3, hm4, hm5, a0, a1, a2, a3, a4, a5, c0, c1', b0, b1, b2, b3, b4, b5, tokA, fltA]) rfl ⟨rfl, ?_⟩
    repeat (first | with_reducible exact NB.out.nw | refine Nw.put ?_ (by omega) _ _)
  · have hRR := HR.out
    rw [if_neg hee, HLN.out] at hRR
    obtain ⟨B, hB⟩ : ∃ B, endB (t.drop e) = B := ⟨_, rfl⟩
    have hBle : e + B ≤ n := by
      have := endB_le (t.drop e)
      rw [List.length_drop, hB] at this
      omega
    have hBpos : 0 < B := by
      rw [← hB]
      exact endB_pos (by
        intro h
        have := congrArg List.length h
        rw [List.length_drop] at this
        simp at this
        omega)
    obtain ⟨s, hs⟩ : ∃ s, (t.drop e).take B = s := ⟨_, rfl⟩
    have EC := Lib.hid (fun (W : World) (h : Cls W g) => by have := ends_ok (t := t) (a := e) h (by omega) (by omega); rw [hB] at this; exact this)
    obtain ⟨c, hc⟩ : ∃ c : UInt8, t[e]'(by omega) = c := ⟨_, rfl⟩
    have hdr : t.drop e = c :: t.drop (e + 1) := by rw [List.drop_eq_getElem_cons (show e < t.length by omega), hc]
    have hsc : s = c :: s.tail := by rw [← hs, hdr]; cases B with | zero => omega | succ B => rfl
    have HS := Lib.hid hs
    have HSC := Lib.hid hsc
    have HDR := Lib.hid hdr
    have HB := Lib.hid hB
    rw [hB, hs] at hRR
    have HRR := Lib.hid hRR
    clear hB hs hdr hsc hc hRR HR
    obtain ⟨b0, b1, b2, b3, b4, b5, bf⟩ := box6 NB.out.tk
    go_wp2_with fail
    refine (EC.out wb CB'.out).mono ?_
    rintro z w4 ⟨rfl, n4⟩
    have N4 := Lib.hid n4
    have NB4 := Lib.hid (NB.out.on n4)
    clear b0 b1 b2 b3 b4 b5 bf n4
    obtain ⟨b0, b1, b2, b3, b4, b5, bf⟩ := box6 NB4.out.tk
    go_upto_region 11 with fail
    have NB5a := Lib.hid (NB4.out.put 5 (.int .i64 ((e : Int) + (B : Int))) (y := ⟨5, [], 0, (ln : Int) + 1, e, (e : Int) + B⟩) rfl)
    have CC := Lib.hid (show Cls (w4.setCell ⟨m, 5, none⟩ (.int .i64 ((e : Int) + (B : Int)))) g from by
      unfold Cls
      by_cases hgm : g = m
      · exfalso
        have h1 := CB'.out
        rw [Cls, hgm, NB.out.tk] at h1
        have h2 := congrArg (fun o => match o with | some (Obj.cells cs _ _) => cs.size | _ => 0) h1
        simp [tokA] at h2
      · rw [heap_setCell_other _ _ _ _ (by simpa using hgm)]
        exact CB'.out.nw N4.out)
    obtain ⟨w5, hw5⟩ : ∃ w5, w4.setCell ⟨m, 5, none⟩ (.int .i64 ((e : Int) + (B : Int))) = w5 := ⟨_, rfl⟩
    have NB5 : Hid (NxB w w5 m ⟨5, [], 0, (ln : Int) + 1, e, (e : Int) + B⟩) := by rw [← hw5]; exact NB5a.out
    have CC5 : Hid (Cls w5 g) := by rw [← hw5]; exact CC.out
    rw [hw5]
    clear hw5 NB5a CC b0 b1 b2 b3 b4 b5 bf NB4 N4 NB CB' EC
    obtain ⟨b0, b1, b2, b3, b4, b5, bf⟩ := box6 NB5.out.tk
    have hex : (⟨t.toArray⟩ : ByteArray).extract e (e + B) = ⟨s.toArray⟩ := by
      rw [ByteArray.extract_mk, ← HS.out, Nat.add_sub_cancel_left]
    have hcs0 : 0 < (⟨s.toArray⟩ : ByteArray).size := by rw [HSC.out]; simp [ByteArray.size]
    have hs0 : (⟨s.toArray⟩ : ByteArray)[0]'hcs0 = c := by
      have h0 : s[0]? = some c := by rw [HSC.out]; rfl
      exact (List.getElem?_eq_some_iff.1 h0).2
    have hc256 : c.toNat < 256 := c.toNat_lt
    have hcc := CC5.out.cell c
    obtain ⟨x, hx⟩ : ∃ x, clsN c.toNat = x := ⟨_, rfl⟩
    rw [hx] at hcc
    have HX := Lib.hid hx
    clear hx
    have hRR := HRR.out
    unfold tokF at hRR
    rw [show (s.headD 0) = c by rw [HSC.out]; rfl, HX.out] at hRR
    have hsl : s.length ≤ n := by
      rw [← HS.out]
      simp only [List.length_take, List.length_drop]
      omega
    by_cases x3 : x = 3
    · have q5 : ((x : Int) == 3) = true := by simp [x3]
      rw [if_pos x3] at hRR
      have NUM := Lib.hid (fun (W : World) => number_ok (w := W) (t := s) (by omega) (by rw [← HS.out, HDR.out, ← HB.out, HDR.out]; exact digits_tok (HX.out.trans x3)))
      have hne : (s == [61]) = false := by
        rw [HSC.out]
        have : c ≠ 61 := by rintro rfl; have := HX.out; rw [x3] at this; revert this; decide
        simp [this]
      obtain ⟨o, ho⟩ : ∃ o, numGo s 0 = o := ⟨_, rfl⟩
      rw [ho] at hRR NUM
      clear ho
      cases o with
      | some v =>
        subst hRR
        go_wp2_with fail
        refine (NUM.out _).mono ?_
        rintro z w6 ⟨rfl, n6⟩
        have NB6 : Hid (NxB w w6 m ⟨1, [], 0, (ln : Int) + 1, e, (e : Int) + B⟩) := Lib.hid ((NB5.out.put 0 (.int .u8 1) rfl).on n6)
        clear NB5 NUM n6 b0 b1 b2 b3 b4 b5 bf
        obtain ⟨d0, d1, d2, d3, d4, d5, df⟩ := box6 NB6.out.tk
        obtain ⟨a0, a1, a2, a3, a4, a5, af⟩ := box6 NB6.out.r0
        obtain ⟨k0, k1, kf⟩ := box2 NB6.out.r1
        go_wp2_with fail
        refine bodyPost_ret (v := .tuple #[.agg (tokA ⟨1, [], v, (ln : Int) + 1, e, (e : Int) + B⟩), .agg (fltA 0 0)]) (by simp [results, Tryz.results62, go_sem, hm0, hm1, hm2, hm3, hm4, hm5, a0, a1, a2, a3, a4, a5, k0, k1, d0, d1, d2, d3, d4, d5, tokA, fltA, Tok.none]) rfl ⟨rfl, ?_⟩
        repeat (first | with_reducible exact NB6.out.nw | refine Nw.put ?_ (by omega) _ _)
      | none =>
        subst hRR
        go_wp2_with fail
        refine (NUM.out _).mono ?_
        rintro z w6 ⟨rfl, n6⟩
        have NB6 : Hid (NxB w w6 m ⟨1, [], 0, (ln : Int) + 1, e, (e : Int) + B⟩) := Lib.hid ((NB5.out.put 0 (.int .u8 1) rfl).on n6)
        clear NB5 NUM n6 b0 b1 b2 b3 b4 b5 bf
        obtain ⟨d0, d1, d2, d3, d4, d5, df⟩ := box6 NB6.out.tk
        obtain ⟨a0, a1, a2, a3, a4, a5, af⟩ := box6 NB6.out.r0
        obtain ⟨k0, k1, kf⟩ := box2 NB6.out.r1
        go_upto_region 25 with fail
        go_region_with fail
        all_goals
          (try go_wp2)
          refine bodyPost_ret (v := .tuple #[.agg (tokA Tok.none), .agg (fltA 100 ((ln : Int) + 1))]) (by simp [results, Tryz.results62, go_sem, hm0, hm1, hm2, hm3, hm4, hm5, a0, a1, a2, a3, a4, a5, k0, k1, d0, d1, d2, d3, d4, d5, tokA, fltA, Tok.none]) rfl ⟨rfl, ?_⟩
          repeat (first | with_reducible exact NB6.out.nw | with_reducible refine Nw.drew ?_ | refine Nw.put ?_ (by omega) _ _)
    have q5 : ((x : Int) == 3) = false := by simp; omega
    rw [if_neg x3] at hRR
    by_cases x4 : x = 4
    · have q6 : ((x : Int) == 4) = true := by simp [x4]
      rw [if_pos x4] at hRR
      have hne : (s == [61]) = false := by
        rw [HSC.out]
        have : c ≠ 61 := by rintro rfl; have := HX.out; rw [x4] at this; revert this; decide
        simp [this]
      obtain ⟨kb, hkb⟩ : ∃ kb, Lib.contains keysB (32 :: s ++ [32]) = kb := ⟨_, rfl⟩
      rw [hkb] at hRR
      have HKB := Lib.hid hkb
      have HRK := Lib.hid hRR
      have HM5 : Hid (w5.cell? ⟨0, 0, none⟩ = some (.int .i64 M)) := Lib.hid (NB5.out.nw.cell HM.out)
      have hMlt : 0 < w.heap.size := World.block_lt_of_cell? _ _ HM.out
      clear hkb hRR
      go_upto_region 20 with fail
      have NB6 : Hid (NxB w ((w5.setCell ⟨m, 0, none⟩ (.int .u8 2)).setCell ⟨m, 1, none⟩ (.string ⟨s.toArray⟩)) m ⟨2, s, 0, (ln : Int) + 1, e, (e : Int) + B⟩) :=
        Lib.hid ((NB5.out.put 0 (.int .u8 2) (y := ⟨2, [], 0, (ln : Int) + 1, e, (e : Int) + B⟩) rfl).put 1 (.string ⟨s.toArray⟩) rfl)
      obtain ⟨w6, hw6⟩ : ∃ w6, ((w5.setCell ⟨m, 0, none⟩ (.int .u8 2)).setCell ⟨m, 1, none⟩ (.string ⟨s.toArray⟩)) = w6 := ⟨_, rfl⟩
      rw [hw6] at NB6 ⊢
      have HM6 : Hid (w6.cell? ⟨0, 0, none⟩ = some (.int .i64 M)) := Lib.hid (NB6.out.nw.cell HM.out)
      clear hw6 NB5 b0 b1 b2 b3 b4 b5 bf hMlt
      obtain ⟨d0, d1, d2, d3, d4, d5, df⟩ := box6 NB6.out.tk
      obtain ⟨a0, a1, a2, a3, a4, a5, af⟩ := box6 NB6.out.r0
      obtain ⟨k0, k1, kf⟩ := box2 NB6.out.r1
      go_wp2_with fail
      refine ((Tryz.strings_Contains _ _ M _ (by decide +kernel) HM6.out).mono (R' := fun z w' => z = .returned (.bool kb) ∧ w' = w6) ?_).mono ?_
      · rintro z w' ⟨rfl, rfl⟩
        refine ⟨?_, rfl⟩
        rw [← HKB.out]
        congr 3
      rintro z w' ⟨rfl, rfl⟩
      cases kb with
      | true =>
        have hRR : R = (⟨3, s, 0, (ln : Int) + 1, e, (e : Int) + B⟩, 0, 0) := HRK.out.symm
        subst hRR
        go_wp2_with fail
        refine bodyPost_ret (v := .tuple #[.agg (tokA ⟨3, s, 0, (ln : Int) + 1, e, (e : Int) + B⟩), .agg (fltA 0 0)]) (by simp [results, Tryz.results62, go_sem, hm0, hm1, hm2, hm3, hm4, hm5, a0, a1, a2, a3, a4, a5, k0, k1, d0, d1, d2, d3, d4, d5, tokA, fltA, Tok.none]) rfl ⟨rfl, ?_⟩
        repeat (first | with_reducible exact NB6.out.nw | refine Nw.put ?_ (by omega) _ _)
      | false =>
        have hRR : R = (⟨2, s, 0, (ln : Int) + 1, e, (e : Int) + B⟩, 0, 0) := HRK.out.symm
        subst hRR
        go_wp2_with fail
        refine bodyPost_ret (v := .tuple #[.agg (tokA ⟨2, s, 0, (ln : Int) + 1, e, (e : Int) + B⟩), .agg (fltA 0 0)]) (by simp [results, Tryz.results62, go_sem, hm0, hm1, hm2, hm3, hm4, hm5, a0, a1, a2, a3, a4, a5, k0, k1, d0, d1, d2, d3, d4, d5, tokA, fltA, Tok.none]) rfl ⟨rfl, ?_⟩
        repeat (first | with_reducible exact NB6.out.nw | refine Nw.put ?_ (by omega) _ _)
    · have q6 : ((x : Int) == 4) = false := by simp; omega
      rw [if_neg x4] at hRR
      have NB6 := NB5
      clear b0 b1 b2 b3 b4 b5 bf
      obtain ⟨d0, d1, d2, d3, d4, d5, df⟩ := box6 NB6.out.tk
      obtain ⟨a0, a1, a2, a3, a4, a5, af⟩ := box6 NB6.out.r0
      obtain ⟨k0, k1, kf⟩ := box2 NB6.out.r1
      by_cases x5 : x = 5
      · have q7 : ((x : Int) == 5) = true := by simp [x5]
        by_cases s6 : s = [61]
        · have hne : (s == [61]) = true := by simpa using s6
          rw [if_neg (by simp [s6])] at hRR
          subst hRR
          clear s6
          go_upto_region 25 with fail
          go_region_with fail
          all_goals
            (try go_wp2)
            refine bodyPost_ret (v := .tuple #[.agg (tokA Tok.none), .agg (fltA 100 ((ln : Int) + 1))]) (by simp [results, Tryz.results62, go_sem, hm0, hm1, hm2, hm3, hm4, hm5, a0, a1, a2, a3, a4, a5, k0, k1, d0, d1, d2, d3, d4, d5, tokA, fltA, Tok.none]) rfl ⟨rfl, ?_⟩
            repeat (first | with_reducible exact NB6.out.nw | with_reducible refine Nw.drew ?_ | refine Nw.put ?_ (by omega) _ _)
        · have hne : (s == [61]) = false := by simpa using s6
          rw [if_pos ⟨x5, s6⟩] at hRR
          subst hRR
          clear s6
          go_wp2_with fail
          refine bodyPost_ret (v := .tuple #[.agg (tokA ⟨4, s, 0, (ln : Int) + 1, e, (e : Int) + B⟩), .agg (fltA 0 0)]) (by simp [results, Tryz.results62, go_sem, hm0, hm1, hm2, hm3, hm4, hm5, a0, a1, a2, a3, a4, a5, k0, k1, d0, d1, d2, d3, d4, d5, tokA, fltA, Tok.none]) rfl ⟨rfl, ?_⟩
          repeat (first | with_reducible exact NB6.out.nw | refine Nw.put ?_ (by omega) _ _)
      · have q7 : ((x : Int) == 5) = false := by simp; omega
        obtain ⟨bb, hne⟩ : ∃ bb, (s == [61]) = bb := ⟨_, rfl⟩
        rw [if_neg (by rintro ⟨h, -⟩; exact x5 h)] at hRR
        subst hRR
        go_upto_region 25 with fail
        go_region_with fail
        all_goals
          (try go_wp2)
          refine bodyPost_ret (v := .tuple #[.agg (tokA Tok.none), .agg (fltA 100 ((ln : Int) + 1))]) (by simp [results, Tryz.results62, go_sem, hm0, hm1, hm2, hm3, hm4, hm5, a0, a1, a2, a3, a4, a5, k0, k1, d0, d1, d2, d3, d4, d5, tokA, fltA, Tok.none]) rfl ⟨rfl, ?_⟩
          repeat (first | with_reducible exact NB6.out.nw | with_reducible refine Nw.drew ?_ | refine Nw.put ?_ (by omega) _ _)
end Go.Proofs.YtcmaedoolinijaaGreatDoor

namespace Go.Proofs.YtcmaedoolinijaaGreatDoor
set_option maxRecDepth 100000
open Go Go.Lib
def bs (s : String) : List UInt8 := s.toUTF8.data.toList
def opsW : List (List UInt8) := ["lock", "unlock", "trylock", "lockfor", "rlock", "runlock", "wlock", "wunlock", "acquire", "release", "tryacquire", "waiton", "signal", "broadcast", "arrive", "do", "add", "done", "waitfor", "put", "take", "read", "write"].map bs
def objsW : List (List UInt8) := ["mutex", "rwlock", "sem", "cond", "barrier", "once", "wait", "queue", "var"].map bs
def placeN (l : List (List UInt8)) (s : List UInt8) : Nat := if s ∈ l then l.idxOf s + 1 else 0
def argsN (o : Nat) : Nat := if o = 4 ∨ o = 17 ∨ o = 20 ∨ o = 23 then 1 else 0
def intoB (o : Nat) : Bool := o = 3 || o = 4 || o = 11 || o = 21 || o = 22
def countB (k : Nat) : Bool := k = 3 || k = 5 || k = 8 || k = 9
structure PS where
  w : Tok
  e : Int
  el : Int
  deep : Nat
deriving DecidableEq
namespace PS
def read (t : List UInt8) (s : PS) (a : Int) : PS := if s.e = 0 then ⟨(nextF t a).1, (nextF t a).2.1, (nextF t a).2.2, s.deep⟩ else s
def fail (s : PS) (e : Int) : PS := if s.e = 0 then ⟨Tok.none, e, s.w.line, s.deep⟩ else s
def is (s : PS) (l : List (List UInt8)) : Bool := (s.w.kind = 4 || s.w.kind = 3) && l.contains s.w.s
def may (t : List UInt8) (s : PS) (l : List (List UInt8)) : PS := if s.is l then s.read t s.w.end_ else s
def must (t : List UInt8) (s : PS) (x : List UInt8) : PS := if s.is [x] then s.read t s.w.end_ else s.fail 101
def word (t : List UInt8) (s : PS) (k : Nat) : Tok × PS := if s.w.kind = k then (s.w, s.read t s.w.end_) else (Tok.none, s.fail 101)
end PS
structure Dcl where
  kind : Nat
  name : List UInt8
  n : Int
  of_ : List UInt8
  line : Int
deriving DecidableEq
structure Fs where
  op : Nat
  obj : List UInt8
  into : List UInt8
  nargs : Nat
  line : Int
deriving DecidableEq
structure Thr where
  name : List UInt8
  body : List Fs
  line : Int
deriving DecidableEq
def objectF (t : List UInt8) (s : PS) : Dcl × PS :=
  let k := placeN objsW s.w.s
  let a := (s.read t s.w.end_).word t 2
  let b := if countB k then a.2.word t 1 else (Tok.none, a.2)
  let c := if k = 4 then b.2.word t 2 else (Tok.none, b.2)
  (⟨k, a.1.s, b.1.n, c.1.s, s.w.line⟩, c.2.must t [59])
def simpleB (o : Nat) : Bool := argsN o = 0 && !intoB o && o ≠ 16
def stmtF (t : List UInt8) (s : PS) : Option (Fs × PS) :=
  let o := placeN opsW s.w.s
  if s.e = 0 ∧ s.deep < 100 ∧ s.is opsW = true ∧ simpleB o = true then
    let a := (({ s with deep := s.deep + 1 } : PS).read t s.w.end_).word t 2
    let b := a.2.must t [59]
    some (⟨o, a.1.s, [], 0, s.w.line⟩, { b with deep := b.deep - 1 })
  else none
def stmtsF (t : List UInt8) : Nat → PS → List Fs → Option (List Fs × PS)
  | 0, _, _ => none
  | f + 1, s, l => if s.e = 0 ∧ s.is [[125]] = false then (match stmtF t s with | some (x, s') => stmtsF t f s' (l ++ [x]) | none => none) else some (l, s)
def bodyF (t : List UInt8) (f : Nat) (s : PS) : Option (List Fs × PS) := match stmtsF t f (s.must t [123]) [] with | some (l, s') => some (l, s'.must t [125]) | none => none
def threadS : List UInt8 := bs "thread"
def partsF (t : List UInt8) (g : Nat) : Nat → PS → List Dcl → List Thr → Option (List Dcl × List Thr × PS)
  | 0, _, _, _ => none
  | f + 1, s, os, ts => if s.e = 0 ∧ s.w.kind ≠ 5 then
      if s.is objsW then partsF t g f (objectF t s).2 (os ++ [(objectF t s).1]) ts
      else let a := (s.must t threadS).word t 2
        match bodyF t g a.2 with
        | some (l, s') => partsF t g f s' os (ts ++ [⟨a.1.s, l, s.w.line⟩])
        | none => none
    else some (os, ts, s)
def parseF (t : List UInt8) : Option (List Dcl × List Thr × PS) := partsF t 100 100 ((⟨Tok.none, 0, 0, 0⟩ : PS).read t 0) [] []
def objectB (d : Dcl) : Bool := decide (1 ≤ d.kind) && decide (d.kind ≤ 9) && nameB d.name && decide (0 ≤ d.n) && (decide (d.n ≤ 0) || countB d.kind) && (if d.kind = 4 then nameB d.of_ else d.of_ = [])
def shapeB (s : Fs) : Bool := decide (1 ≤ s.op) && decide (s.op ≤ 23) && nameB s.obj && decide (s.nargs = argsN s.op) && (if intoB s.op then nameB s.into else s.into = [])
def walkS (ask : Bool) : Nat × Bool → List Fs → Nat × Bool
  | nb, [] => nb
  | nb, s :: l => let b := nb.2 || decide (nb.1 + 1 > 1000) || ask && !shapeB s
    if b then (nb.1 + 1, true) else if nb.1 + 1 + s.nargs > 1000 then (nb.1 + 1 + s.nargs, true) else walkS ask (nb.1 + 1 + s.nargs, false) l
def walkT (ask : Bool) : Nat × Bool → List Thr → Nat × Bool
  | nb, [] => nb
  | nb, t :: l => let b := nb.2 || ask && !nameB t.name
    walkT ask (if b then (nb.1, true) else walkS ask (nb.1, false) t.body) l
def rightB (ask : Bool) (os : List Dcl) (ts : List Thr) : Bool :=
  !(walkT ask (0, decide (os.length > 64) || decide (ts.length > 16) || os.any fun d => ask && !objectB d) ts).2
def ofK (o : Nat) : Nat := if o ≤ 4 then 1 else if o ≤ 8 then 2 else if o ≤ 11 then 3 else if o ≤ 14 then 4 else if o = 15 then 5 else if o = 16 then 6 else if o ≤ 19 then 7 else if o ≤ 21 then 8 else 9
def kindOf (m : List Dcl) (s : List UInt8) : Option Nat := (m.find? fun d => d.name = s).map (·.kind)
def namedE (m : List Dcl) (s : List UInt8) (k : Nat) : Int := match kindOf m s with | none => 110 | some j => if j = k then 0 else 111
def declE (m : List Dcl) (d : Dcl) : Int :=
  if (kindOf m d.name).isSome then 112 else if d.kind = 4 then namedE m d.of_ 1
  else if d.kind = 3 ∨ d.kind = 8 then (if d.n < 1 ∨ d.n > 1048576 then 113 else 0) else if d.kind = 5 then (if d.n < 1 ∨ d.n > 16 then 113 else 0) else 0
def declsE : List Dcl → List Dcl → Int × Int
  | _, [] => (0, 0)
  | m, d :: l => if declE m d = 0 then declsE (m ++ [d]) l else (declE m d, d.line)
def bodyE (m : List Dcl) : List (List UInt8) → List Fs → Int × Int
  | _, [] => (0, 0)
  | k, s :: l => let e := namedE m s.obj (ofK s.op)
    let k' := if s.into = [] ∨ s.into ∈ k then k else k ++ [s.into]
    if e ≠ 0 then (e, s.line) else if k'.length > 20 then (102, s.line) else bodyE m k' l
def threadsE (m : List Dcl) : List (List UInt8) → List Thr → Int × Int
  | _, [] => (0, 0)
  | seen, t :: l => if t.name ∈ seen then (112, t.line) else if (bodyE m [] t.body).1 ≠ 0 then bodyE m [] t.body
    else if (t.body.map fun s => if s.op = 16 then 3 else 1).sum > 15000 then (113, t.line) else threadsE m (t.name :: seen) l
def checkF (os : List Dcl) (ts : List Thr) : Int × Int :=
  if rightB true os ts = false then (103, 0) else if (declsE [] os).1 ≠ 0 then declsE [] os else threadsE os [] ts
def text24 : List UInt8 := bs "mutex m; var v 0; thread a { }"
end Go.Proofs.YtcmaedoolinijaaGreatDoor

namespace Go.Proofs
open Go.Shelf
def Tryz.lays109_ren : Go.Shelf.Ren := ⟨fun | 109 => 52 | n => n, fun | 31 => 70 | 9 => 9 | 3 => 3 | 0 => 0 | 4 => 4 | n => n, fun | n => n⟩
theorem Tryz.lays109 : Go.Proofs.Lays.n109 Tryz.prog Tryz.lays109_ren := {
  mixed := by kernel_rfl
  f109 := Tryz.func52.trans (congrArg some (by kernel_rfl))
  t0 := Tryz.underlying0
  a0 := Tryz.isAgg0
  z0 := Tryz.sizeOf0
  v0 := Tryz.zeroValue0
  t3 := Tryz.underlying3
  a3 := Tryz.isAgg3
  z3 := Tryz.sizeOf3
  v3 := Tryz.zeroValue3
  t4 := Tryz.underlying4
  a4 := Tryz.isAgg4
  z4 := Tryz.sizeOf4
  v4 := Tryz.zeroValue4
  t9 := Tryz.underlying9
  a9 := Tryz.isAgg9
  z9 := Tryz.sizeOf9
  v9 := Tryz.zeroValue9
  t31 := Tryz.underlying70
  a31 := Tryz.isAgg70
  z31 := Tryz.sizeOf70
  v31 := Tryz.zeroValue70 }
open Go.Lib in
theorem Tryz.slices_Index_string (b off n c : Nat) (zs : List ByteArray) (x : ByteArray) (w : World) (hz : n ≤ zs.length) (hbig : n ≤ 9223372036854775807) (hc : ∀ j, j < zs.length → w.cell? ⟨b, off + j, none⟩ = some (.string (zs.getD j ByteArray.empty))) :
    Calls Tryz.prog 52 #[.slice (some ⟨b, off, none⟩) n c, .string x] w fun e w' => e = .returned (.int .i64 (Lib.idxOfS (zs.take n) x)) ∧ w' = w := Any.slices_Index_string Tryz.lays109 b off n c zs x w hz hbig hc
open Go.Lib in
theorem Tryz.slices_Index_string_empty (a : Option Addr) (c : Nat) (x : ByteArray) (w : World) :
    Calls Tryz.prog 52 #[.slice a 0 c, .string x] w fun e w' => e = .returned (.int .i64 (Lib.idxOfS [] x)) ∧ w' = w := Any.slices_Index_string_empty Tryz.lays109 a c x w
def Tryz.lays110_ren : Go.Shelf.Ren := ⟨fun | 110 => 63 | 109 => 52 | n => n, fun | 31 => 70 | 9 => 9 | 4 => 4 | 3 => 3 | 0 => 0 | n => n, fun | n => n⟩
theorem Tryz.lays110 : Go.Proofs.Lays.n110 Tryz.prog Tryz.lays110_ren := {
  mixed := by kernel_rfl
  f109 := Tryz.func52.trans (congrArg some (by kernel_rfl))
  f110 := Tryz.func63.trans (congrArg some (by kernel_rfl))
  t0 := Tryz.underlying0
  a0 := Tryz.isAgg0
  z0 := Tryz.sizeOf0
  v0 := Tryz.zeroValue0
  t3 := Tryz.underlying3
  a3 := Tryz.isAgg3
  z3 := Tryz.sizeOf3
  v3 := Tryz.zeroValue3
  t4 := Tryz.underlying4
  a4 := Tryz.isAgg4
  z4 := Tryz.sizeOf4
  v4 := Tryz.zeroValue4
  t9 := Tryz.underlying9
  a9 := Tryz.isAgg9
  z9 := Tryz.sizeOf9
  v9 := Tryz.zeroValue9
  t31 := Tryz.underlying70
  a31 := Tryz.isAgg70
  z31 := Tryz.sizeOf70
  v31 := Tryz.zeroValue70 }
open Go.Lib in
theorem Tryz.slices_Contains_string (b off n c : Nat) (zs : List ByteArray) (x : ByteArray) (w : World) (hz : n ≤ zs.length) (hbig : n ≤ 9223372036854775807) (hc : ∀ j, j < zs.length → w.cell? ⟨b, off + j, none⟩ = some (.string (zs.getD j ByteArray.empty))) :
    Calls Tryz.prog 63 #[.slice (some ⟨b, off, none⟩) n c, .string x] w fun e w' => e = .returned (.bool (Lib.containsS (zs.take n) x)) ∧ w' = w := Any.slices_Contains_string Tryz.lays110 b off n c zs x w hz hbig hc
open Go.Lib in
theorem Tryz.slices_Contains_string_empty (a : Option Addr) (c : Nat) (x : ByteArray) (w : World) :
    Calls Tryz.prog 63 #[.slice a 0 c, .string x] w fun e w' => e = .returned (.bool false) ∧ w' = w := Any.slices_Contains_string_empty Tryz.lays110 a c x w
end Go.Proofs

namespace Go.Proofs.YtcmaedoolinijaaGreatDoor
open Go Go.RowKit Go.Sort
set_option maxRecDepth 100000
set_option maxHeartbeats 3200000
def psA (t : List UInt8) (s : PS) : Array Value := #[.string ⟨t.toArray⟩, .int .u8 (s.w.kind : Int), .string ⟨s.w.s.toArray⟩, .int .i64 s.w.n, .int .i64 s.w.line, .int .i64 s.w.at_, .int .i64 s.w.end_, .int .i64 s.e, .int .i64 s.el, .int .i64 (s.deep : Int)]
def TokOk (x : Tok) : Prop := x.s.length ≤ 9223372036854775807 ∧ (-9223372036854775808 ≤ x.n ∧ x.n ≤ 9223372036854775807) ∧ (-9223372036854775808 ≤ x.line ∧ x.line ≤ 9223372036854775807)
theorem TokOk.none : TokOk Tok.none := by simp [TokOk, Tok.none]
structure PM (w : World) (b : Nat) (t : List UInt8) (s : PS) : Prop where
  box : w.heap[b]? = some (.cells (psA t s) 86 (0, 0))
  mx : ∃ M, w.cell? ⟨0, 0, none⟩ = some (.int .i64 M)
  pos : 0 < b
  tl : t.length ≤ 9223372036854775807
  en : -9223372036854775808 ≤ s.w.end_ ∧ s.w.end_ ≤ 9223372036854775807
  tk : TokOk s.w
theorem box10 {w : World} {p : Nat} {a b c d e f g h i j : Value} {t : TypeId} (hb : w.heap[p]? = some (.cells #[a, b, c, d, e, f, g, h, i, j] t (0, 0))) :
    w.cell? ⟨p, 0, none⟩ = some a ∧ w.cell? ⟨p, 1, none⟩ = some b ∧ w.cell? ⟨p, 2, none⟩ = some c ∧ w.cell? ⟨p, 3, none⟩ = some d ∧ w.cell? ⟨p, 4, none⟩ = some e ∧ w.cell? ⟨p, 5, none⟩ = some f ∧ w.cell? ⟨p, 6, none⟩ = some g ∧
    w.cell? ⟨p, 7, none⟩ = some h ∧ w.cell? ⟨p, 8, none⟩ = some i ∧ w.cell? ⟨p, 9, none⟩ = some j ∧ ∀ i, w.frozen? ⟨p, i, none⟩ = false := by
  simp [World.cell?, World.frozen?, hb]
theorem PM.on {w w' : World} {b : Nat} {t : List UInt8} {s : PS} (h : PM w b t s) (ho : Nw w w') : PM w' b t s := ⟨ho.at_ h.box, h.mx.imp fun _ h => ho.cell h, h.pos, h.tl, h.en, h.tk⟩
theorem PM.off {S : Nat → Prop} {w w' : World} {b : Nat} {t : List UInt8} {s : PS} (h : PM w b t s) (ho : Only S w w') (hb : ¬ S b) (h0 : ¬ S 0) : PM w' b t s := ⟨ho.at_ h.box hb, h.mx.imp fun _ h => ho.cell h h0, h.pos, h.tl, h.en, h.tk⟩
theorem PM.lt {w : World} {b : Nat} {t : List UInt8} {s : PS} (h : PM w b t s) : b < w.heap.size := lt_of_block h.box
theorem nextF_end {t : List UInt8} {a : Int} : -9223372036854775808 ≤ (nextF t a).1.end_ ∧ (nextF t a).1.end_ ≤ 9223372036854775807 := by
  unfold nextF
  split
  · simp [Tok.none]
  split
  · simp [Tok.none]
  rename_i h1 h2
  have h3 := passB_le false (t.drop a.toNat)
  have h4 := endB_le (t.drop (a.toNat + passB false (t.drop a.toNat)))
  rw [List.length_drop] at h3 h4
  simp only
  split
  · simp only; omega
  · unfold tokF
    simp only
    split
    · split
      · simp only; omega
      · simp [Tok.none]
    split
    · simp only; omega
    split
    · simp only; omega
    · simp [Tok.none]
theorem nextF_tok {t : List UInt8} {a : Int} : TokOk (nextF t a).1 := by
  unfold nextF
  split
  · exact TokOk.none
  split
  · exact TokOk.none
  rename_i h1 h2
  have h3 := passB_le false (t.drop a.toNat)
  have h4 := endB_le (t.drop (a.toNat + passB false (t.drop a.toNat)))
  rw [List.length_drop] at h3 h4
  have h5 : ∀ k : Nat, (t.take k).count 10 ≤ t.length := fun k => Nat.le_trans List.count_le_length (by simp; omega)
  have h6 := h5 (a.toNat + passB false (t.drop a.toNat))
  simp only
  split
  · simp only [TokOk, List.length_nil]; omega
  · unfold tokF
    have h7 : ((t.drop (a.toNat + passB false (t.drop a.toNat))).take (endB (t.drop (a.toNat + passB false (t.drop a.toNat))))).length ≤ t.length := by simp; omega
    simp only
    split
    · split
      · rename_i hn
        have := numGo_in (by omega) (by omega) hn
        simp only [TokOk, List.length_nil]; omega
      · exact TokOk.none
    split
    · simp only [TokOk]; omega
    split
    · simp only [TokOk]; omega
    · exact TokOk.none
theorem pok_ok {w : World} {b : Nat} {t : List UInt8} {s : PS} (h : PM w b t s) : Calls Tryz.prog 31 #[.pointer (some ⟨b, 0, none⟩)] w fun z w' => z = .returned (.bool (s.e == 0)) ∧ w' = w := by
  obtain ⟨b0, b1, b2, b3, b4, b5, b6, b7, b8, b9, bf⟩ := box10 h.box
  clear h
  go_enter Tryz.func31, Tryz.ntmps31
  go_wp2_with fail
  go_ret
  exact ⟨rfl, rfl⟩
theorem Only.put {S : Nat → Prop} {w w' : World} (h : Only S w w') {b : Nat} (hb : S b) (i : Nat) (v : Value) : Only S w (w'.setCell ⟨b, i, none⟩ v) := h.setCell (p := ⟨b, i, none⟩) (fun _ => hb) v
theorem Only.put' {S : Nat → Prop} {w w' : World} (h : Only S w w') {b : Nat} (hb : w.heap.size ≤ b) (i : Nat) (v : Value) : Only S w (w'.setCell ⟨b, i, none⟩ v) := h.setCell (p := ⟨b, i, none⟩) (fun h => absurd h (by simp; omega)) v
theorem two_blk (w : World) (A B : Array Value) (t u : TypeId) : Nw w ((w.alloc (.cells A t)).alloc (.cells B u)) ∧ ((w.alloc (.cells A t)).alloc (.cells B u)).heap[w.heap.size]? = some (.cells A t (0, 0)) ∧
    ((w.alloc (.cells A t)).alloc (.cells B u)).heap[w.heap.size + 1]? = some (.cells B u (0, 0)) := by
  refine ⟨((Nw.refl w).alloc _).alloc _, ?_, ?_⟩
  · rw [heap_alloc_old _ _ (by simp)]; exact heap_alloc_new w _
  · have := heap_alloc_new (w.alloc (.cells A t)) (.cells B u)
    simpa using this
theorem heap_put {w : World} {p i : Nat} {cs : Array Value} {t : TypeId} (h : w.heap[p]? = some (.cells cs t (0, 0))) (v : Value) : (w.setCell ⟨p, i, none⟩ v).heap[p]? = some (.cells (cs.setIfInBounds i v) t (0, 0)) := heap_setCell_same _ _ _ _ _ _ h
theorem PM.set8 {w : World} {b : Nat} {t : List UInt8} {s : PS} (h : PM w b t s) (x : Tok) (e el : Int) (hx : -9223372036854775808 ≤ x.end_ ∧ x.end_ ≤ 9223372036854775807) (htk : TokOk x) {w' : World}
    (hw : w' = (((((((w.setCell ⟨b, 1, none⟩ (.int .u8 (x.kind : Int))).setCell ⟨b, 2, none⟩ (.string ⟨x.s.toArray⟩)).setCell ⟨b, 3, none⟩ (.int .i64 x.n)).setCell ⟨b, 4, none⟩ (.int .i64 x.line)).setCell ⟨b, 5, none⟩ (.int .i64 x.at_)).setCell ⟨b, 6, none⟩ (.int .i64 x.end_)).setCell ⟨b, 7, none⟩ (.int .i64 e)).setCell ⟨b, 8, none⟩ (.int .i64 el)) :
    PM w' b t ⟨x, e, el, s.deep⟩ ∧ Only (fun k => k = b) w w' := by
  have hO : Only (fun k => k = b) w w' := by
    subst hw
    repeat (first | with_reducible exact Only.refl _ | refine Only.put (S := fun k => k = b) ?_ rfl _ _)
  refine ⟨⟨?_, h.mx.imp fun M hM => hO.cell hM (by have := h.pos; simp; omega), h.pos, h.tl, hx, htk⟩, hO⟩
  subst hw
  have := heap_put (i := 8) (heap_put (i := 7) (heap_put (i := 6) (heap_put (i := 5) (heap_put (i := 4) (heap_put (i := 3) (heap_put (i := 2) (heap_put (i := 1) h.box (.int .u8 (x.kind : Int))) (.string ⟨x.s.toArray⟩)) (.int .i64 x.n)) (.int .i64 x.line)) (.int .i64 x.at_)) (.int .i64 x.end_)) (.int .i64 e)) (.int .i64 el)
  simpa [psA] using this
theorem PM.set8b {w : World} {b : Nat} {t : List UInt8} {s : PS} (h : PM w b t s) (e el : Int) {w' : World}
    (hw : w' = (((((((w.setCell ⟨b, 7, none⟩ (.int .i64 e)).setCell ⟨b, 8, none⟩ (.int .i64 el)).setCell ⟨b, 1, none⟩ (.int .u8 0)).setCell ⟨b, 2, none⟩ (.string ⟨#[]⟩)).setCell ⟨b, 3, none⟩ (.int .i64 0)).setCell ⟨b, 4, none⟩ (.int .i64 0)).setCell ⟨b, 5, none⟩ (.int .i64 0)).setCell ⟨b, 6, none⟩ (.int .i64 0)) :
    PM w' b t ⟨Tok.none, e, el, s.deep⟩ ∧ Only (fun k => k = b) w w' := by
  have hO : Only (fun k => k = b) w w' := by
    subst hw
    repeat (first | with_reducible exact Only.refl _ | refine Only.put (S := fun k => k = b) ?_ rfl _ _)
  refine ⟨⟨?_, h.mx.imp fun M hM => hO.cell hM (by have := h.pos; simp; omega), h.pos, h.tl, by simp [Tok.none], TokOk.none⟩, hO⟩
  subst hw
  have := heap_put (i := 6) (heap_put (i := 5) (heap_put (i := 4) (heap_put (i := 3) (heap_put (i := 2) (heap_put (i := 1) (heap_put (i := 8) (heap_put (i := 7) h.box (.int .i64 e)) (.int .i64 el)) (.int .u8 0)) (.string ⟨#[]⟩)) (.int .i64 0)) (.int .i64 0)) (.int .i64 0)) (.int .i64 0)
  simpa [psA, Tok.none] using this
abbrev Strs (w : World) (v : Value) (l : List (List UInt8)) : Prop := Rd (fun s : List UInt8 => Value.string ⟨s.toArray⟩) w v l
theorem getD_strs (l : List (List UInt8)) (j : Nat) (hj : j < l.length) : (l.map fun s => (⟨s.toArray⟩ : ByteArray)).getD j ByteArray.empty = ⟨(l[j]).toArray⟩ := by
  simp [List.getD, hj]
theorem mem_strs (l : List (List UInt8)) (x : List UInt8) : (⟨x.toArray⟩ : ByteArray) ∈ (l.map fun s => (⟨s.toArray⟩ : ByteArray)) ↔ x ∈ l := by
  simp only [List.mem_map]
  constructor
  · rintro ⟨a, ha, h⟩
    have : a = x := by
      have := congrArg (fun b : ByteArray => b.data.toList) h
      simpa using this
    exact this ▸ ha
  · exact fun h => ⟨x, h, rfl⟩
theorem Contains_ok {w : World} {v : Value} {l : List (List UInt8)} (h : Strs w v l) (hn : l.length ≤ 9223372036854775807) (x : List UInt8) :
    Calls Tryz.prog 63 #[v, .string ⟨x.toArray⟩] w fun z w' => z = .returned (.bool (l.contains x)) ∧ w' = w := by
  rcases h with ⟨a, rfl, rfl⟩ | ⟨g, o, cap, rfl, h1, h2, hg, h3⟩
  · exact (Tryz.slices_Contains_string_empty a 0 ⟨x.toArray⟩ w).mono fun z w' h => ⟨h.1, h.2⟩
  · refine (Tryz.slices_Contains_string g o l.length cap (l.map fun s => ⟨s.toArray⟩) ⟨x.toArray⟩ w (by simp) hn (fun j hj => ?_)).mono ?_
    · rw [List.length_map] at hj
      rw [getD_strs l j hj]
      exact h3 j hj
    · rintro z w' ⟨rfl, rfl⟩
      refine ⟨?_, rfl⟩
      rw [List.take_of_length_le (by simp)]
      congr 2
      rw [Bool.eq_iff_iff, Lib.containsS_iff, mem_strs, List.contains_iff_mem]
theorem idx_strs (x : List UInt8) : ∀ (l : List (List UInt8)) (i : Nat), Lib.idxFromS (l.map fun s => (⟨s.toArray⟩ : ByteArray)) ⟨x.toArray⟩ i = if x ∈ l then ((i + l.idxOf x : Nat) : Int) else -1
  | [], i => by simp [Lib.idxFromS]
  | a :: l, i => by
    by_cases h : a = x
    · subst h
      rw [Lib.idxFromS_hit _ _ 0 i (by simp) (by simp) (fun j hj => absurd hj (by omega))]
      simp
    · have hx : (⟨a.toArray⟩ : ByteArray) ≠ ⟨x.toArray⟩ := fun e => h (by
        have := congrArg (fun b : ByteArray => b.data.toList) e
        simpa using this)
      have ih := idx_strs x l (i + 1)
      rw [List.map_cons, Lib.idxFromS, if_neg (by simpa using hx), ih]
      have h' : ¬ x = a := fun e => h e.symm
      by_cases hm : x ∈ l
      · rw [if_pos hm, if_pos (by simp [hm]), List.idxOf_cons, show (a == x) = false by simpa using h, cond_false]
        congr 1
        omega
      · rw [if_neg hm, if_neg (by simp [hm, h'])]
theorem Index_ok {w : World} {v : Value} {l : List (List UInt8)} (h : Strs w v l) (hn : l.length ≤ 9223372036854775807) (x : List UInt8) :
    Calls Tryz.prog 52 #[v, .string ⟨x.toArray⟩] w fun z w' => z = .returned (.int .i64 ((placeN l x : Int) - 1)) ∧ w' = w := by
  rcases h with ⟨a, rfl, rfl⟩ | ⟨g, o, cap, rfl, h1, h2, hg, h3⟩
  · exact (Tryz.slices_Index_string_empty a 0 ⟨x.toArray⟩ w).mono fun z w' h => ⟨h.1, h.2⟩
  · refine (Tryz.slices_Index_string g o l.length cap (l.map fun s => ⟨s.toArray⟩) ⟨x.toArray⟩ w (by simp) hn (fun j hj => ?_)).mono ?_
    · rw [List.length_map] at hj
      rw [getD_strs l j hj]
      exact h3 j hj
    · rintro z w' ⟨rfl, rfl⟩
      refine ⟨?_, rfl⟩
      rw [List.take_of_length_le (by simp), Lib.idxOfS, idx_strs]
      congr 3
      unfold placeN
      split
      · rw [Nat.zero_add]; omega
      · rfl
end Go.Proofs.YtcmaedoolinijaaGreatDoor
