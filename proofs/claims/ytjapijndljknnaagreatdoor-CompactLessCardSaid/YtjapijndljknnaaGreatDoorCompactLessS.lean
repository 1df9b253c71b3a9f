/-
  Texts merged by a program of this claim's: CompactLess.
-/
import Derived.Test.YtjapijndljknnaaGreatDoorM44
import Derived.Test.YtjapijndljknnaaGreatDoorM43
import Derived.Test.YtjapijndljknnaaGreatDoorM28
/-
  amanuensislaw07.CompactLess: of events that are all alike the files take less room behind Compact.
-/
namespace Go.Proofs.YtjapijndljknnaaGreatDoor.CompactLess
open Go Go.RowKit Go.Sort
set_option maxRecDepth 100000
set_option maxHeartbeats 1600000
def nth (ev : Ev) (f : Nat) : Value := (evV ev)[f]?.getD undef
theorem nth_lt {ev : Ev} {f : Nat} (hf : f < 5) : (evV ev)[f]? = some (nth ev f) := by
  unfold nth
  rw [List.getElem?_eq_getElem (show f < (evV ev).length from hf)]
  rfl
/-- A row of cells of one's own. -/
structure RowN (w : World) (g N : Nat) (φ : Nat → Value) : Prop where
  lt : g < w.heap.size
  cell : ∀ j, j < N → w.cell? ⟨g, j, none⟩ = some (φ j)
  fz : ∀ j, j < N → w.frozen? ⟨g, j, none⟩ = false
theorem RowN.set {w : World} {g N : Nat} {φ : Nat → Value} (h : RowN w g N φ) {j0 : Nat} (hj : j0 < N) (v : Value) : RowN (w.setCell ⟨g, j0, none⟩ v) g N (fun j => if j = j0 then v else φ j) := by
  refine ⟨by simpa [World.setCell] using h.lt, fun j hj' => ?_, fun j hj' => ?_⟩
  · by_cases e : j = j0
    · subst e
      rw [if_pos rfl]
      exact World.cell?_setCell_same _ _ _ (h.cell j hj)
    · rw [if_neg e, World.cell?_setCell_other _ _ _ _ (by simp only [ne_eq, Addr.mk.injEq, not_and]; intro _ h; exact absurd h.symm e)]
      exact h.cell j hj'
  · rw [World.frozen?_setCell]
    exact h.fz j hj'
theorem RowN.congr {w : World} {g N : Nat} {φ ψ : Nat → Value} (h : RowN w g N φ) (e : ∀ j, j < N → φ j = ψ j) : RowN w g N ψ := ⟨h.lt, fun j hj => by rw [h.cell j hj, e j hj], h.fz⟩
/-- A row of n events: the first i are ev, the others are noughts. -/
def Fill (w : World) (g n i : Nat) (ev : Ev) : Prop := RowN w g (n * 5) fun j => nth (if j / 5 < i then ev else Ev.zero) (j % 5)
theorem fill_new {w : World} {g n : Nat} {ev : Ev} (h : Vec 5 w (.slice (some ⟨g, 0, none⟩) n n) n ((List.replicate n Ev.zero).flatMap evV)) : Fill w g n 0 ev := by
  obtain ⟨hl, ⟨hv, -⟩ | ⟨g', o, cap, hv, -, -, h1, h2, h3, h4⟩⟩ := h
  · cases hv
  injection hv with e1 e2 e3
  injection e1 with e1
  injection e1 with e1 e4
  subst e1 e4 e3
  refine ⟨h1, fun j hj => ?_, fun j hj => by have := h3 j hj; rwa [Nat.zero_add] at this⟩
  rw [if_neg (by omega)]
  have hj' : j < ((List.replicate n Ev.zero).flatMap evV).length := by rw [hl]; exact hj
  have := h4 _ hj'
  rw [Nat.zero_add] at this
  rw [this]
  have ht : j / 5 < n := Nat.div_lt_of_lt_mul (by rw [Nat.mul_comm]; exact hj)
  have h5 := flatN_at (k := 5) (f := evV) (List.replicate n Ev.zero) (fun _ _ => rfl) (j / 5) (by simpa using ht) (j % 5) (Nat.mod_lt _ (by decide))
  rw [show j / 5 * 5 + j % 5 = j by omega, List.getElem?_eq_getElem hj'] at h5
  rw [h5, List.getElem_replicate, nth_lt (Nat.mod_lt _ (by decide))]
theorem Fill.step {w : World} {g n i : Nat} {ev : Ev} (h : Fill w g n i ev) (hi : i < n) : Fill (((((w.setCell ⟨g, i * 5, none⟩ (.int .i64 ev.thread)).setCell ⟨g, i * 5 + 1, none⟩ (.int .u8 ev.op.toNat)).setCell ⟨g, i * 5 + 2, none⟩ (.int .i64 ev.obj)).setCell ⟨g, i * 5 + 3, none⟩ (.int .i64 ev.a)).setCell ⟨g, i * 5 + 4, none⟩ (.int .i64 ev.b)) g n (i + 1) ev := by
  refine RowN.congr (((((RowN.set h (j0 := i * 5) (by omega) _).set (j0 := i * 5 + 1) (by omega) _).set (j0 := i * 5 + 2) (by omega) _).set (j0 := i * 5 + 3) (by omega) _).set (j0 := i * 5 + 4) (by omega) _) fun j hj => ?_
  by_cases h4 : j = i * 5 + 4
  · subst h4; rw [if_pos rfl, if_pos (by omega), show (i * 5 + 4) % 5 = 4 by omega]; rfl
  rw [if_neg h4]
  by_cases h3 : j = i * 5 + 3
  · subst h3; rw [if_pos rfl, if_pos (by omega), show (i * 5 + 3) % 5 = 3 by omega]; rfl
  rw [if_neg h3]
  by_cases h2 : j = i * 5 + 2
  · subst h2; rw [if_pos rfl, if_pos (by omega), show (i * 5 + 2) % 5 = 2 by omega]; rfl
  rw [if_neg h2]
  by_cases h1 : j = i * 5 + 1
  · subst h1; rw [if_pos rfl, if_pos (by omega), show (i * 5 + 1) % 5 = 1 by omega]; rfl
  rw [if_neg h1]
  by_cases h0 : j = i * 5
  · subst h0; rw [if_pos rfl, if_pos (by omega), show (i * 5) % 5 = 0 by omega]; rfl
  rw [if_neg h0]
  have e : (j / 5 < i) = (j / 5 < i + 1) := by
    apply propext
    constructor
    · intro h; omega
    · intro h; omega
  simp only [e]
theorem Fill.evs {w : World} {g n : Nat} {ev : Ev} (h : Fill w g n n ev) (hn : n ≤ 1000) (ho : ev.Ok) : Evs w (.slice (some ⟨g, 0, none⟩) n n) (List.replicate n ev) := by
  have hl := flatN_len (k := 5) (f := evV) (List.replicate n ev) (fun _ _ => rfl)
  refine ⟨⟨hl, .inr ⟨g, 0, n, by rw [List.length_replicate], by rw [List.length_replicate]; exact Nat.le_refl _, by unfold maxLen; omega, h.lt, fun j hj => ?_⟩⟩, fun e he => by rw [List.eq_of_mem_replicate he]; exact ho⟩
  rw [hl, List.length_replicate] at hj
  have ht : j / 5 < n := Nat.div_lt_of_lt_mul (by rw [Nat.mul_comm]; exact hj)
  rw [Nat.zero_add, h.cell j hj, if_pos ht]
  have h5 := flatN_at (k := 5) (f := evV) (List.replicate n ev) (fun _ _ => rfl) (j / 5) (by simpa using ht) (j % 5) (Nat.mod_lt _ (by decide))
  rw [show j / 5 * 5 + j % 5 = j by omega, List.getElem?_eq_getElem (by rw [hl, List.length_replicate]; exact hj), List.getElem_replicate, nth_lt (Nat.mod_lt _ (by decide))] at h5
  exact h5.symm
theorem infoRow : (Tryz.prog.info? 25).map (fun i => (i.zero, i.size, i.bytes)) = some (some (.slice none 0 0), 1, 24) := by kernel_rfl
theorem rows_of {w : World} {s : Value} {k : Nat} {v : Value} {es : List Ev} (h : Vec 1 w s k (List.replicate k v)) (he : Evs w v es) : RdK 1 (isEvs w) w s (List.replicate k es) := by
  obtain ⟨hl, ⟨rfl, rfl⟩ | ⟨g, o, cap, rfl, h1, h2, h3, -, -, h4⟩⟩ := h
  · exact .inl ⟨_, rfl, rfl⟩
  · refine .inr ⟨g, o, cap, by rw [List.length_replicate], by rw [List.length_replicate]; exact h1, h2, h3, fun i hi => ⟨[v], rfl, fun j hj => ?_, v, rfl, by rw [List.getElem_replicate]; exact he⟩⟩
    obtain rfl : j = 0 := by simpa using hj
    have := h4 i (by rw [List.length_replicate]; rw [List.length_replicate] at hi; exact hi)
    rw [List.getElem_replicate] at this
    simpa using this
theorem walkN (w : World) (ht : Tab w) (ev : Ev) (x : Nat) (h8 : x ≤ 255) (hev : ev.Ok) :
    Calls Tryz.prog 7 #[.agg #[.int .i64 ev.thread, .int .u8 ev.op.toNat, .int .i64 ev.obj, .int .i64 ev.a, .int .i64 ev.b], .int .u8 x] w fun e w' => e = .returned (.bool true) ∧ Nw w w' := by
  have HT := Lib.hid ht
  have HE := Lib.hid hev
  have hw1 : IntKind.i64.wrap (x : Int) = (x : Int) := IntWalk.i64_in _ (by omega)
  obtain ⟨n, hn⟩ : ∃ n : Nat, n = x % 30 + 1 := ⟨_, rfl⟩
  have hn1 : 1 ≤ n ∧ n ≤ 30 := by omega
  have hm : Int.tmod (x : Int) 30 = (n : Int) - 1 := by rw [Int.tmod_eq_emod_of_nonneg (by omega)]; omega
  have hw2 : IntKind.i64.wrap ((n : Int) - 1) = (n : Int) - 1 := IntWalk.i64_in _ (by omega)
  have hw3 : IntKind.i64.wrap (1 + ((n : Int) - 1)) = (n : Int) := by rw [show 1 + ((n : Int) - 1) = n by omega]; exact IntWalk.i64_in _ (by omega)
  obtain ⟨xb, hxb⟩ : ∃ k, w.heap.size = k := ⟨_, rfl⟩
  generalize hw0 : w.alloc (.cells #[.int .i64 ev.thread, .int .u8 ev.op.toNat, .int .i64 ev.obj, .int .i64 ev.a, .int .i64 ev.b] 73 (0, 0)) = w0
  have n0 : Nw w w0 := by rw [← hw0]; exact (Nw.refl w).alloc _
  have b0 : w0.heap[xb]? = some (.cells #[.int .i64 ev.thread, .int .u8 ev.op.toNat, .int .i64 ev.obj, .int .i64 ev.a, .int .i64 ev.b] 73 (0, 0)) := by rw [← hw0, ← hxb]; exact heap_alloc_new w _
  obtain ⟨W5, hmk, nw5, vc5⟩ := makeN w0 n (by omega) .i64
  go_enter Tryz.func7, Tryz.ntmps7
  obtain ⟨gb, hgb⟩ : ∃ k, w0.heap.size = k := ⟨_, rfl⟩
  rw [hgb] at hmk vc5
  have F5 : Hid (Fill W5 gb n 0 ev) := Lib.hid (fill_new vc5)
  have NW5 := Lib.hid nw5
  have N0 := Lib.hid n0
  have hxl := lt_of_block b0
  have B0 := Lib.hid (And.intro b0 (show xb < gb by rw [← hgb]; exact hxl))
  have HGB : Hid (w.heap.size ≤ gb) := Lib.hid (by rw [← hgb]; exact n0.size)
  go_upto_region 1 with fail
  clear vc5 nw5 n0 b0 hw0 hxb hxl hgb hn
  go_wp2_with fail
  go_loopw [26] (fun i wr => ∃ j : Nat, j ≤ n ∧ i = .int .i64 j ∧ Only (fun k => k = gb) W5 wr ∧ Fill wr gb n j ev) (fun i _ => n - (intOf i).toNat)
  case atStart => exact ⟨0, by omega, rfl, Only.refl _, F5.out⟩
  case round =>
    obtain ⟨j, hj, rfl, ho, hf⟩ := hrel
    have HO := Lib.hid ho
    have FF := Lib.hid hf
    clear ho hf
    by_cases hlt : j < n
    case pos =>
      have hb := (HO.out.at_ (NW5.out.at_ B0.out.1) (by have := B0.out.2; omega))
      have c0 := cell_of hb (i := 0) rfl
      have c1 := cell_of hb (i := 1) rfl
      have c2 := cell_of hb (i := 2) rfl
      have c3 := cell_of hb (i := 3) rfl
      have c4 := cell_of hb (i := 4) rfl
      have hxl := lt_of_block hb
      have hgl := FF.out.lt
      have f0 := FF.out.fz (j * 5) (by omega)
      have f1 := FF.out.fz (j * 5 + 1) (by omega)
      have f2 := FF.out.fz (j * 5 + 2) (by omega)
      have f3 := FF.out.fz (j * 5 + 3) (by omega)
      have f4 := FF.out.fz (j * 5 + 4) (by omega)
      have k0 := FF.out.cell (j * 5) (by omega)
      have k1 := FF.out.cell (j * 5 + 1) (by omega)
      have k2 := FF.out.cell (j * 5 + 2) (by omega)
      have k3 := FF.out.cell (j * 5 + 3) (by omega)
      have k4 := FF.out.cell (j * 5 + 4) (by omega)
      clear hb
      go_wp2_with fail
      go_roundw
      case rel => exact ⟨j + 1, by omega, by go_num, (((((HO.out.setCell (fun _ => rfl) _).setCell (fun _ => rfl) _).setCell (fun _ => rfl) _).setCell (fun _ => rfl) _).setCell (fun _ => rfl) _), FF.out.step hlt⟩
      case measure => simp [intOf]; omega
    case neg =>
      obtain rfl : j = n := by omega
      have EV := Lib.hid (FF.out.evs (by omega) HE.out)
      have N6 : Hid (Nw w wr) := Lib.hid ((N0.out.trans NW5.out).trans' HO.out (fun k hk hc => by have := HGB.out; omega))
      clear HO FF NW5 N0 B0 F5 hmk hw2 hw3 hm hw1
      obtain ⟨i0, hi, hz0, hz1, hz2⟩ := info_parts infoRow
      have HI := Lib.hid hi
      have HZ0 := Lib.hid hz0
      have HZ1 := Lib.hid hz1
      have HZ2 := Lib.hid hz2
      clear hi hz0 hz1 hz2
      obtain ⟨w6, hw6⟩ : ∃ W, wr = W := ⟨_, rfl⟩
      rw [hw6] at EV N6 ⊢
      clear hw6
      go_wp2_with fail
      go_loopw [7, 8] (fun s i wq => ∃ k : Nat, k ≤ 20 ∧ i = .int .i64 k ∧ Vec 1 wq s k (List.replicate k (.slice (some ⟨gb, 0, none⟩) j j)) ∧ Nw w6 wq ∧ ∀ g, s.ownBlock = some g → w6.heap.size ≤ g) (fun _ i _ => 20 - (intOf i).toNat)
      case atStart => exact ⟨0, by omega, rfl, Vec.nil, Nw.refl _, fun g hg => by cases hg⟩
      case round =>
        obtain ⟨k, hk, rfl, hv, hw, hg⟩ := hrel
        obtain ⟨sa, sc, rfl, -⟩ := hv.len
        have VV := Lib.hid hv
        have NQ := Lib.hid hw
        have HG := Lib.hid hg
        clear hv hw hg
        by_cases hlt : k < 20
        case pos =>
          have V7 := Lib.hid (VV.out.nw ((Nw.refl wr).alloc (.cells #[.slice (some ⟨gb, 0, none⟩) j j] 25 (0, 0))))
          have S7 := Lib.hid (src_lit wr 25 (0, 0) 1 1 1 [.slice (some ⟨gb, 0, none⟩) j j] rfl (by omega) (by decide))
          have N7 : Hid (Nw w6 (wr.alloc (.cells #[.slice (some ⟨gb, 0, none⟩) j j] 25 (0, 0)))) := Lib.hid (NQ.out.alloc _)
          have HQ0 := Lib.hid NQ.out.size
          go_wp2_with (at_builtin; refine wpList_append_vec rfl _ _ 22 rfl 25 i0 (.slice none 0 0) 1 24 Tryz.underlying22 HI.out HZ0.out HZ1.out HZ2.out rfl (by decide) rfl rfl V7.out S7.out ?c1 ?c2 ?c3 ?_)
          case c1 => intro u hu; rw [List.mem_singleton] at hu; subst hu; rfl
          case c2 => unfold maxLen; omega
          case c3 => omega
          intro v8 w8 q5 q6 q7
          obtain ⟨ta, tc, rfl, -⟩ := q5.len
          have N8 : Hid (Nw w6 w8) := Lib.hid (N7.out.trans' q6 (fun i hk hc => by have := HG.out i hc; omega))
          have F8 : Hid (∀ g, (Value.slice ta (k + 1) tc).ownBlock = some g → w6.heap.size ≤ g) := Lib.hid (fun g hg => by
            rcases q7 with h' | h'
            · exact HG.out g (by rw [← h']; exact hg)
            · have := h' g hg; have := HQ0.out; simp at *; omega)
          have V8 := Lib.hid q5
          clear q5 q6 q7 V7 S7 VV
          go_wp2_with fail
          go_roundw
          case rel => exact ⟨k + 1, by omega, by go_num, by rw [List.replicate_succ']; exact V8.out, N8.out, F8.out⟩
          case measure => simp [intOf]; omega
        case neg =>
          obtain rfl : k = 20 := by omega
          have N7 := Lib.hid (N6.out.trans NQ.out)
          have G := Lib.hid (grown_ok wr (HT.out.nw N7.out) _ (List.replicate 20 (List.replicate j ev)) 1048576 (by omega) (by omega) (rows_of VV.out (EV.out.nw NQ.out)))
          clear VV NQ HG N6 EV HI HZ0 HZ1 HZ2
          go_wp2_with fail
          refine G.out.mono ?_
          rintro e w7 ⟨b, p, v, d, L, all, c, ok, rfl, g, hmem⟩
          obtain ⟨rfl, bt, lz⟩ := g.big rfl
          obtain ⟨va, vc, rfl, -⟩ := g.vec.len
          obtain ⟨d', L', m2, hcd, gc⟩ := comp_two bt g.kin g.evs g.few
          have hae : ∀ y ∈ all, y = ev := fun y hy => by
            obtain ⟨f, hf, hyf⟩ := hmem y hy
            rw [List.eq_of_mem_replicate hf] at hyf
            exact List.eq_of_mem_replicate hyf
          obtain ⟨n1, hn1'⟩ : ∃ z, L.l.length = z := ⟨_, rfl⟩
          obtain ⟨k1, hk1⟩ : ∃ z, usedF d.files = z := ⟨_, rfl⟩
          obtain ⟨k2, hk2⟩ : ∃ z, usedF d'.files = z := ⟨_, rfl⟩
          have hless : 3 ≤ n1 → k2 < k1 := fun h => by
            have := comp_less lz bt g.kin g.few hae (by rw [List.length_dropLast, hn1']; omega)
            rw [hcd] at this
            rw [← hk1, ← hk2]
            exact this
          obtain ⟨gd, hsc⟩ := (gc.kin.rtl).scan (fun _ _ _ h => h) gc.calm.up
          have hn100 : n1 ≤ 100 := by rw [← hn1']; exact (g.kin.facts).2.1
          have hn1p : 1 ≤ n1 := by have := gc.n_; rw [hn1'] at this; omega
          have C := Compact_ok (g.hl.less (Y := fun i => (Value.slice va all.length vc).ownBlock = some i) fun i h => h) g.kin g.evs (by have := g.len; have := g.few; omega) (HT.out.nw N7.out)
          have hall : all.length ≤ 100000 := by have := g.len; have := g.few; omega
          have L7 := Lib.hid g.hl
          have A7 : Hid (Evs w7 (.slice va all.length vc) all) := Lib.hid ⟨g.vec.src, g.evs⟩
          have EVA := Lib.hid g.evs
          have KI := Lib.hid g.kin
          have HN1 := Lib.hid hn1'
          have K1 := Lib.hid hk1
          have K2 := Lib.hid hk2
          have CD := Lib.hid hcd
          have SC := Lib.hid hsc
          have LESS := Lib.hid hless
          have TT : Hid (Tab wr) := Lib.hid (HT.out.nw N7.out)
          have hw9 : IntKind.i64.wrap ((n1 : Int) - 1) = (n1 : Int) - 1 := IntWalk.i64_in _ (by omega)
          clear g gc bt lz hcd hmem hae hn1' hk1 hk2 hless hsc C G
          go_wp2_with fail
          refine (LDisk_ok L7.out).mono ?_
          rintro e w8 ⟨rfl, rfl⟩
          go_wp2_with fail
          refine (L7.out.has.used K1.out).mono ?_
          rintro e w9 ⟨rfl, n9⟩
          have L9 := Lib.hid (L7.out.nw n9)
          have A9 := Lib.hid (A7.out.nw n9)
          clear n9 L7 A7
          go_wp2_with fail
          refine (L9.out.pieces rfl (by rw [HN1.out]; omega)).mono ?_
          rintro e w10 ⟨v10, rfl, q1, q2, -⟩
          rw [HN1.out] at q1
          obtain ⟨pa, pc, rfl, -⟩ := q1.len
          have L10 := Lib.hid (L9.out.nw q2)
          have A10 := Lib.hid (A9.out.nw q2)
          have C := Compact_ok L10.out KI.out EVA.out hall TT.out
          rw [CD.out] at C
          have C := Lib.hid C
          clear q1 q2 L9 A9
          go_wp2_with fail
          refine C.out.mono ?_
          rintro e w11 ⟨rfl, hl11, hk11⟩
          have L11 := Lib.hid hl11
          have A11 := Lib.hid (A10.out.kept hk11 fun g hg => hg)
          clear hl11 hk11 C L10 A10
          go_wp2_with fail
          refine (LDisk_ok L11.out).mono ?_
          rintro e w12 ⟨rfl, rfl⟩
          go_wp2_with fail
          refine (Scan_ok L11.out.has (.inl den_unpack) SC.out).mono ?_
          rintro e w13 ⟨v13, u13', rfl, o1, o2⟩
          obtain ⟨xa, xc, rfl, -⟩ := o1.1.len
          obtain ⟨ya, yc, rfl, -⟩ := o2.1.len
          have L13 := Lib.hid (L11.out.nw o1.2.1)
          have A13 := Lib.hid (A11.out.nw o1.2.1)
          have X13 : Hid (Evs w13 (.slice xa all.length xc) all) := Lib.hid ⟨o1.1.src, EVA.out⟩
          clear o1 o2 L11 A11
          by_cases hs : n1 < 3
          · have ht2 : decide ((n1 : Int) - 1 < 2) = true := by simp; omega
            go_wp2_with fail
            refine (SameEvents_ok X13.out A13.out).mono ?_
            rintro e w14 ⟨rfl, n14⟩
            have N14 := Lib.hid (N7.out.trans (L13.out.base.trans n14))
            clear n14
            have ht2 : decide ((n1 : Int) - 1 < 2) = true := by simp; omega
            go_wp2_with fail
            refine (awake7_ok w14 (HT.out.nw N14.out)).mono ?_
            rintro e w20 ⟨rfl, n20⟩
            have N20 := Lib.hid (N14.out.trans n20)
            clear n20
            go_wp2
            go_ret
            exact ⟨rfl, N20.out⟩
          · have ht2 : decide ((n1 : Int) - 1 < 2) = false := by simp; omega
            have hlt3 : k2 < k1 := LESS.out (by omega)
            have hlt2 : decide ((k2 : Int) < (k1 : Int)) = true := by have := LESS.out (by omega); simp; omega
            go_wp2_with fail
            refine (SameEvents_ok X13.out A13.out).mono ?_
            rintro e w14 ⟨rfl, n14⟩
            have L14 := Lib.hid (L13.out.nw n14)
            clear n14
            go_wp2_with fail
            refine (LDisk_ok L14.out).mono ?_
            rintro e w15 ⟨rfl, rfl⟩
            go_wp2_with fail
            refine (L14.out.has.used K2.out).mono ?_
            rintro e w16 ⟨rfl, n16⟩
            have N16 := Lib.hid (N7.out.trans (L14.out.base.trans n16))
            clear n16
            go_wp2_with fail
            refine (awake7_ok w16 (HT.out.nw N16.out)).mono ?_
            rintro e w20 ⟨rfl, n20⟩
            have N20 := Lib.hid (N16.out.trans n20)
            clear n20
            go_wp2
            go_ret
            exact ⟨rfl, N20.out⟩
theorem walk (w : World) (ht : Tab w) (ev : Ev) (each : UInt8) (hev : ev.Ok) :
    Calls Tryz.prog 7 #[.agg #[.int .i64 ev.thread, .int .u8 ev.op.toNat, .int .i64 ev.obj, .int .i64 ev.a, .int .i64 ev.b], .int .u8 each.toNat] w fun e w' => e = .returned (.bool true) ∧ Nw w w' :=
  walkN w ht ev each.toNat (by have := each.toNat_lt; omega) hev
end Go.Proofs.YtjapijndljknnaaGreatDoor.CompactLess
