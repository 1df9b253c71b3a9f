/-
  Texts merged by a program of this claim's: CkD.
-/
import Derived.Test.YtcmaedoolinijaaGreatDoorM25
import Derived.Test.YtcmaedoolinijaaGreatDoorM3
import Derived.Deep.DeepCutAuto
namespace Go.Proofs.YtcmaedoolinijaaGreatDoor
open Go Go.RowKit Go.Sort
set_option maxRecDepth 100000
set_option maxHeartbeats 3200000
def nought4 : List Value := [.int .u8 1, .string ⟨#[]⟩, .int .i64 0, .slice none 0 0]
def noughts (n : Nat) : List Value := (List.replicate n nought4).flatten
theorem noughts_succ (n : Nat) : noughts (n + 1) = noughts n ++ nought4 := by
  unfold noughts
  rw [List.replicate_succ', List.flatten_append]
  simp
theorem noughts_len (n : Nat) : (noughts n).length = n * 4 := by
  induction n with
  | zero => rfl
  | succ n ih => rw [noughts_succ, List.length_append, ih]; simp [nought4]; omega
theorem noughts_at {n i j : Nat} (hi : i < n) (hj : j < 4) : (noughts n)[i * 4 + j]? = nought4[j]? := by
  induction n with
  | zero => omega
  | succ n ih =>
    rw [noughts_succ]
    by_cases c : i < n
    · rw [List.getElem?_append_left (by rw [noughts_len]; omega)]
      exact ih c
    · obtain rfl : i = n := by omega
      rw [List.getElem?_append_right (by rw [noughts_len]; omega), noughts_len, Nat.add_sub_cancel_left]
theorem noughts_rd {w : World} {v : Value} {n : Nat} (h : Vec 4 w v n (noughts n)) : RdK 4 isNought w v (List.replicate n ()) := by
  obtain ⟨hl, ⟨rfl, h0⟩ | ⟨g, o, cap, rfl, h1, h2, h3, -, -, h6⟩⟩ := h
  · exact .inl ⟨none, rfl, by rw [h0]; rfl⟩
  · refine .inr ⟨g, o, cap, by simp, by simpa using h1, h2, h3, fun i hi => ⟨nought4, rfl, fun j hj => ?_, ⟨_, rfl, none, rfl⟩⟩⟩
    rw [List.length_replicate] at hi
    have hj4 : j < 4 := hj
    have := h6 (i * 4 + j) (by rw [noughts_len]; omega)
    rw [Nat.add_assoc, this, ← List.getElem?_eq_getElem, noughts_at hi hj4]
    exact List.getElem?_eq_getElem hj
structure DoB (w wr : World) (ib sb : Nat) (ins : Array Value) (op : Nat) (into : Value) (v : Value) (n : Nat) : Prop where
  nw : Nw w wr
  xb : wr.heap[ib]? = some (.cells ins 129 (0, 0))
  tb : wr.heap[sb]? = some (.cells #[.int .u8 1, .int .u8 (op : Int), .string ⟨#[97]⟩, into, .int .i64 0, v, .slice none 0 0, .slice none 0 0, .int .i64 0] 144 (0, 0))
  vec : Vec 4 wr v n (noughts n)
  own : ∀ g, v.ownBlock = some g → sb < g
  is : ib < sb
  ws : w.heap.size ≤ ib
theorem DoB.on {w wr w' : World} {ib sb op n : Nat} {ins : Array Value} {into v : Value} (h : DoB w wr ib sb ins op into v n) (ho : Nw wr w') : DoB w w' ib sb ins op into v n :=
  ⟨h.nw.trans ho, ho.at_ h.xb, ho.at_ h.tb, h.vec.nw ho, h.own, h.is, h.ws⟩
theorem DoB.app {w wr w' : World} {ib sb op n : Nat} {ins : Array Value} {into v v' : Value} (h : DoB w wr ib sb ins op into v n) (ho : Only (fun b => v.ownBlock = some b) wr w') (hv : Vec 4 w' v' (n + 1) (noughts n ++ nought4)) (hown : v'.ownBlock = v.ownBlock ∨ ∀ g, v'.ownBlock = some g → wr.heap.size ≤ g) :
    DoB w (w'.setCell ⟨sb, 5, none⟩ v') ib sb ins op into v' (n + 1) ∧ w'.heap[sb]? = some (.cells #[.int .u8 1, .int .u8 (op : Int), .string ⟨#[97]⟩, into, .int .i64 0, v, .slice none 0 0, .slice none 0 0, .int .i64 0] 144 (0, 0)) := by
  have hne : ∀ g, v'.ownBlock = some g → sb < g := fun g hg => by
    rcases hown with e | e
    · exact h.own g (by rw [← e]; exact hg)
    · have := e g hg; have := lt_of_block h.tb; omega
  have hsb := ho.at_ h.tb (fun e => by have := h.own _ e; omega)
  have hsw : w.heap.size ≤ sb := by have := h.is; have := h.ws; omega
  refine ⟨⟨Nw.put (h.nw.trans' ho (fun k hk e => by have := h.own k e; omega)) hsw _ _, ?_, ?_, ?_, hne, h.is, h.ws⟩, hsb⟩
  · rw [heap_setCell_other _ _ _ _ (by have := h.is; simp; omega)]
    exact ho.at_ h.xb (fun e => by have := h.own _ e; have := h.is; omega)
  · have := heap_put (i := 5) hsb v'
    simpa using this
  · rw [noughts_succ]
    exact hv.keep (by simp) (fun g hg => by rw [heap_setCell_other _ _ _ _ (by have := hne g hg; simp; omega)])
theorem DoB.into {w wr : World} {ib sb op n : Nat} {ins : Array Value} {into v : Value} (h : DoB w wr ib sb ins op into v n) (x : Value) : DoB w (wr.setCell ⟨sb, 3, none⟩ x) ib sb ins op x v n where
  nw := Nw.put h.nw (by have := h.is; have := h.ws; omega) _ _
  xb := by rw [heap_setCell_other _ _ _ _ (by have := h.is; simp; omega)]; exact h.xb
  tb := by have := heap_put (i := 3) h.tb x; simpa using this
  vec := h.vec.keep (by simp) (fun g hg => by rw [heap_setCell_other _ _ _ _ (by have := h.own g hg; simp; omega)])
  own := h.own
  is := h.is
  ws := h.ws
theorem DoB.far {w wr : World} {ib sb op n x i : Nat} {ins : Array Value} {into v y : Value} (h : DoB w wr ib sb ins op into v n) (hs : sb < x) (hv : ∀ g, v.ownBlock = some g → g < x) : DoB w (wr.setCell ⟨x, i, none⟩ y) ib sb ins op into v n where
  nw := Nw.put h.nw (by have := h.is; have := h.ws; omega) _ _
  xb := by rw [heap_setCell_other _ _ _ _ (by have := h.is; simp; omega)]; exact h.xb
  tb := by rw [heap_setCell_other _ _ _ _ (by simp; omega)]; exact h.tb
  vec := h.vec.keep (by simp) (fun g hg => by rw [heap_setCell_other _ _ _ _ (by have := hv g hg; simp; omega)])
  own := h.own
  is := h.is
  ws := h.ws
def okD (d : Dcl) : Prop := d.kind < 256 ∧ d.name.length ≤ 9223372036854775807 ∧ (-9223372036854775808 ≤ d.n ∧ d.n ≤ 9223372036854775807) ∧ d.of_.length ≤ 9223372036854775807 ∧ (-9223372036854775808 ≤ d.line ∧ d.line ≤ 9223372036854775807)
theorem one_dcl {W : World} {b : Nat} {d : Dcl} (h : W.heap[b]? = some (.cells (dclA d) 76 (0, 0))) (hd : okD d) : RdK 5 isDcl W (.slice (some ⟨b, 0, none⟩) 1 1) [d] := by
  refine .inr ⟨b, 0, 1, rfl, by simp, by decide, lt_of_block h, fun i hi => ?_⟩
  obtain rfl : i = 0 := by simpa using hi
  refine ⟨(dclA d).toList, rfl, fun j hj => ?_, rfl, hd⟩
  rw [cell_of_row _ _ _ _ _ _ h]
  simp only [Nat.zero_add, Nat.zero_mul]
  exact Array.getElem?_eq_getElem hj
theorem two_dcl {W : World} {b : Nat} {d e : Dcl} (h : W.heap[b]? = some (.cells ((dclA d).toList ++ (dclA e).toList).toArray 76 (0, 0))) (hd : okD d) (he : okD e) : RdK 5 isDcl W (.slice (some ⟨b, 0, none⟩) 2 2) [d, e] := by
  refine .inr ⟨b, 0, 2, rfl, by simp, by decide, lt_of_block h, fun i hi => ?_⟩
  have hi2 : i < 2 := hi
  match i, hi2 with
  | 0, _ =>
    refine ⟨(dclA d).toList, rfl, fun j hj => ?_, rfl, hd⟩
    rw [cell_of_row _ _ _ _ _ _ h]
    simp only [Nat.zero_add, Nat.zero_mul, List.getElem?_toArray]
    rw [List.getElem?_append_left hj]
    exact List.getElem?_eq_getElem hj
  | 1, _ =>
    refine ⟨(dclA e).toList, rfl, fun j hj => ?_, rfl, he⟩
    rw [cell_of_row _ _ _ _ _ _ h]
    simp only [Nat.zero_add, List.getElem?_toArray]
    rw [List.getElem?_append_right (by simp [dclA])]
    have e5 : 1 * 5 + j - (dclA d).toList.length = j := by simp [dclA]
    rw [e5]
    exact List.getElem?_eq_getElem hj
theorem insbox {w : World} {p : Nat} {a b c d e f g : Value} {t : TypeId} (h : w.heap[p]? = some (.cells #[a, b, c, d, e, f, g] t (0, 0))) : w.cell? ⟨p, 3, none⟩ = some d ∧ w.cell? ⟨p, 6, none⟩ = some g ∧ ∀ i, w.frozen? ⟨p, i, none⟩ = false := by
  simp [World.cell?, World.frozen?, h]
theorem fieldFlt (w : World) (a b : Value) : (Instr.field 43 (.agg #[a, b]) 0).run Tryz.prog w = .ok a w := by kernel_rfl
theorem infoEx : (Tryz.prog.info? 132).map (fun i => (i.zero, i.size, i.bytes)) = some (some (.agg #[.int .u8 0, .string ⟨#[]⟩, .int .i64 0, .slice none 0 0]), 4, 56) := by kernel_rfl
theorem does_ok {w : World} (hM : Mx w) {kind : Nat} (hk : kind < 256) {cs : List Value} {x : InsP} (hx : isIns w cs x) (hargs : x.args.length ≤ 1048576) (loc : Bool) :
    Calls Tryz.prog 118 #[.int .u8 (kind : Int), .agg cs.toArray, .bool loc] w fun z w' => z = .returned (.bool (doesB kind x.op x.args.length (decide (x.into ≠ -1)) loc)) ∧ Nw w w' := by
  obtain ⟨dO, op, obj, inn, to_, n, args⟩ := x
  obtain ⟨v6, rfl, hdo, hop, hob, hin, hto, hn, hv6⟩ := hx
  obtain ⟨a6, c6, rfl, hc6, hm6, -⟩ := RdK.len hv6
  simp only at *
  have hm6' : c6 ≤ 9223372036854775807 := by unfold maxLen at hm6; omega
  obtain ⟨na, hna⟩ : ∃ n, args.length = n := ⟨_, rfl⟩
  rw [hna] at hc6 hargs ⊢
  have NA := Lib.hid hargs
  have HM := Lib.hid (fun W (hW : Nw w W) => hM.nw hW)
  have HK := Lib.hid hk
  have HOP := Lib.hid hop
  have TB := Lib.hid (two_blk w #[.int .u8 (dO : Int), .int .u8 (op : Int), .int .i64 obj, .int .i64 inn, .int .i64 to_, .int .i64 n, .slice a6 na c6] #[.int .u8 1, .int .u8 (op : Int), .string ⟨#[97]⟩, .string ⟨#[]⟩, .int .i64 0, .slice none 0 0, .slice none 0 0, .slice none 0 0, .int .i64 0] 129 144)
  obtain ⟨i0, hi, hz0, hz1, hz2⟩ := info_parts infoEx
  have HI := Lib.hid hi
  have HZ0 := Lib.hid hz0
  have HZ1 := Lib.hid hz1
  have HZ2 := Lib.hid hz2
  clear hv6 hargs hM hdo hob hin hto hn hna hi hz0 hz1 hz2 hk hop
  go_enter Tryz.func118, Tryz.ntmps118
  go_upto_region 2 with fail
  obtain ⟨ib, hib⟩ : ∃ ib, w.heap.size = ib := ⟨_, rfl⟩
  obtain ⟨sb, hsb⟩ : ∃ sb, ib + 1 = sb := ⟨_, rfl⟩
  obtain ⟨w2, hw2⟩ : ∃ w2, ((w.alloc (.cells #[.int .u8 (dO : Int), .int .u8 (op : Int), .int .i64 obj, .int .i64 inn, .int .i64 to_, .int .i64 n, .slice a6 na c6] 129)).alloc (.cells #[.int .u8 1, .int .u8 (op : Int), .string ⟨#[97]⟩, .string ⟨#[]⟩, .int .i64 0, .slice none 0 0, .slice none 0 0, .slice none 0 0, .int .i64 0] 144)) = w2 := ⟨_, rfl⟩
  have D2 : Hid (DoB w w2 ib sb #[.int .u8 (dO : Int), .int .u8 (op : Int), .int .i64 obj, .int .i64 inn, .int .i64 to_, .int .i64 n, .slice a6 na c6] op (.string ⟨#[]⟩) (.slice none 0 0) 0) := Lib.hid (by
    have h := TB.out
    rw [hw2, hib, hsb] at h
    exact ⟨h.1, h.2.1, h.2.2, Vec.nil, fun g hg => (by cases hg), (by omega), (by omega)⟩)
  rw [hw2, hib, hsb]
  clear hw2 hib hsb TB
  obtain ⟨p3, p6, pf⟩ := insbox D2.out.xb
  go_wp2_with fail
  clear p3 p6 pf
  go_loopw [17] (fun v wr => ∃ (k : Nat) (u : Value), k ≤ na ∧ v = .int .i64 k ∧ DoB w wr ib sb #[.int .u8 (dO : Int), .int .u8 (op : Int), .int .i64 obj, .int .i64 inn, .int .i64 to_, .int .i64 n, .slice a6 na c6] op (.string ⟨#[]⟩) u k) (fun v _ => na - (intOf v).toNat)
  case atStart => exact ⟨0, _, by omega, rfl, D2.out⟩
  case round =>
    obtain ⟨k, u, hk, rfl, hD⟩ := hrel
    have D := Lib.hid hD
    obtain ⟨ua, uc, rfl, huc, hum⟩ := hD.vec.len
    have hum' : uc ≤ 9223372036854775807 := by unfold maxLen at hum; omega
    clear hD D2
    obtain ⟨p3, p6, pf⟩ := insbox D.out.xb
    obtain ⟨s0, s1, s2, s3, s4, s5, s6, s7, s8, sf⟩ := box9 D.out.tb
    have hsl := lt_of_block D.out.tb
    have hil := lt_of_block D.out.xb
    by_cases hkn : k < na
    · have q : decide ((k : Int) < (na : Int)) = true := by simp; omega
      have n4 := Nw.alloc (Nw.refl wr) (.cells #[.int .u8 1, .string ⟨#[]⟩, .int .i64 0, .slice none 0 0] 132)
      have D4 := Lib.hid (D.out.on n4)
      have SR := Lib.hid (src_lit wr 132 (0, 0) 4 1 1 nought4 rfl (by omega) (by decide))
      have HKN := Lib.hid hkn
      clear n4
      go_wp2_with (at_builtin; refine wpList_append_vec rfl _ _ 127 rfl 132 i0 (.agg #[.int .u8 0, .string ⟨#[]⟩, .int .i64 0, .slice none 0 0]) 4 56 Tryz.underlying127 HI.out HZ0.out HZ1.out HZ2.out rfl (by decide) rfl rfl D4.out.vec SR.out (by simp [nought4, Value.oneCell']) (by have := NA.out; have := HKN.out; unfold maxLen; omega) (by have := NA.out; have := HKN.out; omega) ?_; intro v5 w5 hV5 hO5 hown; have DA := D4.out.app hO5 hV5 hown; have D5 := Lib.hid DA.1; have t5 := (box9 DA.2).2.2.2.2.2.1; have tf := (box9 DA.2).2.2.2.2.2.2.2.2.2; obtain ⟨va, vc, rfl, -⟩ := hV5.len; clear hV5 hO5 hown DA)
      exact ⟨⟨k + 1, _, by omega, by simp, D5.out⟩, by simp [intOf]; omega⟩
    · have q : decide ((k : Int) < (na : Int)) = false := by simp; omega
      obtain rfl : na = k := by omega
      by_cases ci : inn = -1
      · subst ci
        obtain ⟨⟨e, li⟩, hct⟩ : ∃ c, checkF (doesObjs kind) [⟨[97], [⟨op, [97], [], na, 0⟩], 0⟩] = c := ⟨_, rfl⟩
        have hres : doesB kind op na (decide ((-1 : Int) ≠ -1)) loc = (decide (e = 0) && true) := by
          have hc1 := congrArg Prod.fst hct
          simp only at hc1
          unfold doesB
          simp
          rw [hc1]
        have HRES := Lib.hid hres
        have HCT := Lib.hid hct
        clear hres hct
        have DI := D
        clear D
        go_upto_region 10 with fail
        obtain ⟨wz, hwz⟩ : ∃ x, wr = x := ⟨_, rfl⟩
        rw [hwz] at DI
        have hzs : wr.heap.size = wz.heap.size := by rw [← hwz]
        obtain ⟨db, hdb⟩ : ∃ db, wz.heap.size = db := ⟨_, rfl⟩
        have HSD : Hid (sb < db) := Lib.hid (by have := lt_of_block DI.out.tb; omega)
        have HVD : Hid (∀ g, (Value.slice ua na uc).ownBlock = some g → g < db) := Lib.hid (fun g hg => by have := DI.out.vec.lt g hg; omega)
        obtain ⟨wy, hwy⟩ : ∃ x, (wz.alloc (.cells #[.int .u8 (kind : Int), .string ⟨#[97]⟩, .int .i64 0, .string ⟨#[]⟩, .int .i64 0] 76)).alloc (.cells #[.int .u8 (kind : Int), .string ⟨#[97]⟩, .int .i64 0, .string ⟨#[]⟩, .int .i64 0] 76) = x := ⟨_, rfl⟩
        have TB := two_blk wz #[.int .u8 (kind : Int), .string ⟨#[97]⟩, .int .i64 0, .string ⟨#[]⟩, .int .i64 0] #[.int .u8 (kind : Int), .string ⟨#[97]⟩, .int .i64 0, .string ⟨#[]⟩, .int .i64 0] 76 76
        rw [hwy, hdb] at TB
        have D := Lib.hid (DI.out.on TB.1)
        have OB0 := Lib.hid TB.2.2
        (try rw [hzs]); (try rw [hwz]); (try rw [hdb]); rw [hwy]
        clear hwz hzs hdb hwy TB DI s0 s1 s2 s3 s4 s5 s6 s7 s8 sf hsl hil p3 p6 pf
        obtain ⟨o0, o1, o2, o3, o4, of⟩ := box5 OB0.out
        have hol := lt_of_block OB0.out
        by_cases k3 : kind = 3
        · subst k3
          go_upto_region 17 with fail
          obtain ⟨wq, hwq⟩ : ∃ x, wy.setCell ⟨db + 1, 2, none⟩ (.int .i64 1) = x := ⟨_, rfl⟩
          have DQ := D.out.far (x := db + 1) (i := 2) (y := .int .i64 1) (by have := HSD.out; omega) (fun g hg => by have := HVD.out g hg; omega)
          have OQ := heap_put (i := 2) OB0.out (.int .i64 1)
          rw [hwq] at DQ OQ
          have OB : Hid (RdK 5 isDcl wq (.slice (some ⟨db + 1, 0, none⟩) 1 1) (doesObjs 3)) := Lib.hid (one_dcl (d := ⟨3, [97], 1, [], 0⟩) (by simpa [dclA] using OQ) (by simp [okD]))
          rw [hwq]
          have D := Lib.hid DQ
          clear hwq DQ OQ o0 o1 o2 o3 o4 of hol
          have hsl := lt_of_block D.out.tb
          obtain ⟨s0, s1, s2, s3, s4, s5, s6, s7, s8, sf⟩ := box9 D.out.tb
          go_upto_region 18 with fail
          obtain ⟨tb, htb⟩ : ∃ tb, wq.heap.size = tb := ⟨_, rfl⟩
          obtain ⟨w3, hw3⟩ : ∃ x, wq.alloc (.cells #[.int .u8 1, .int .u8 (op : Int), .string ⟨#[97]⟩, .string ⟨#[]⟩, .int .i64 0, .slice ua na uc, .slice none 0 0, .slice none 0 0, .int .i64 0] 144) = x := ⟨_, rfl⟩
          obtain ⟨w4, hw4⟩ : ∃ x, w3.alloc (.cells #[.string ⟨#[97]⟩, .slice (some ⟨tb, 0, none⟩) 1 1, .int .i64 0] 93) = x := ⟨_, rfl⟩
          obtain ⟨w5, hw5⟩ : ∃ x, w4.alloc (.cells #[.slice (some ⟨db + 1, 0, none⟩) 1 1, .slice (some ⟨tb + 1, 0, none⟩) 1 1] 51) = x := ⟨_, rfl⟩
          have n3 : Nw wq w3 := by rw [← hw3]; exact (Nw.refl wq).alloc _
          have n4 : Nw w3 w4 := by rw [← hw4]; exact (Nw.refl w3).alloc _
          have n5 : Nw w4 w5 := by rw [← hw5]; exact (Nw.refl w4).alloc _
          have z3 : w3.heap.size = tb + 1 := by rw [← hw3, ← htb]; simp
          have z4 : w4.heap.size = tb + 1 + 1 := by rw [← hw4, ← z3]; simp
          have t3 : w3.heap[tb]? = some (.cells #[.int .u8 1, .int .u8 (op : Int), .string ⟨#[97]⟩, .string ⟨#[]⟩, .int .i64 0, .slice ua na uc, .slice none 0 0, .slice none 0 0, .int .i64 0] 144 (0, 0)) := by rw [← hw3, ← htb]; exact heap_alloc_new wq _
          have t4 : w4.heap[tb + 1]? = some (.cells #[.string ⟨#[97]⟩, .slice (some ⟨tb, 0, none⟩) 1 1, .int .i64 0] 93 (0, 0)) := by rw [← hw4, ← z3]; exact heap_alloc_new w3 _
          have t5 : w5.heap[tb + 1 + 1]? = some (.cells #[.slice (some ⟨db + 1, 0, none⟩) 1 1, .slice (some ⟨tb + 1, 0, none⟩) 1 1] 51 (0, 0)) := by rw [← hw5, ← z4]; exact heap_alloc_new w4 _
          have N5 := Lib.hid (n3.trans (n4.trans n5))
          have D5 := Lib.hid (D.out.on N5.out)
          have P5 := Lib.hid t5
          have X4 := (n5.at_ t4)
          have X3 := ((n4.trans n5).at_ t3)
          have FS : isFs w5 [.int .u8 1, .int .u8 (op : Int), .string ⟨#[97]⟩, .string ⟨#[]⟩, .int .i64 0, .slice ua na uc, .slice none 0 0, .slice none 0 0, .int .i64 0] ⟨op, [97], [], na, 0⟩ := ⟨_, _, _, rfl, HOP.out, by simp, by simp, ⟨by simp, by simp⟩, noughts_rd D5.out.vec, ⟨none, rfl⟩, ⟨none, rfl⟩⟩
          have TS : isThr w5 [.string ⟨#[97]⟩, .slice (some ⟨tb, 0, none⟩) 1 1, .int .i64 0] ⟨[97], [⟨op, [97], [], na, 0⟩], 0⟩ := by
            refine ⟨_, rfl, by simp, ⟨by simp, by simp⟩, .inr ⟨tb, 0, 1, rfl, by simp, by decide, lt_of_block X3, fun i hi => ?_⟩⟩
            obtain rfl : i = 0 := by simpa using hi
            refine ⟨_, rfl, fun j hj => ?_, FS⟩
            rw [cell_of_row _ _ _ _ _ _ X3]
            simp only [Nat.zero_add, Nat.zero_mul, List.getElem?_toArray]
            exact List.getElem?_eq_getElem hj
          have RT : RdK 3 (isThr w5) w5 (.slice (some ⟨tb + 1, 0, none⟩) 1 1) [⟨[97], [⟨op, [97], [], na, 0⟩], 0⟩] := by
            refine .inr ⟨tb + 1, 0, 1, rfl, by simp, by decide, lt_of_block X4, fun i hi => ?_⟩
            obtain rfl : i = 0 := by simpa using hi
            refine ⟨_, rfl, fun j hj => ?_, TS⟩
            rw [cell_of_row _ _ _ _ _ _ X4]
            simp only [Nat.zero_add, Nat.zero_mul, List.getElem?_toArray]
            exact List.getElem?_eq_getElem hj
          have CK := Lib.hid (CheckF_ok (HM.out _ D5.out.nw) (OB.out.nw N5.out) RT)
          rw [HCT.out] at CK
          simp only at CK
          have e3 : wq.heap.size + 1 = tb + 1 := by rw [htb]
          have e4 : wq.heap.size + 1 + 1 = tb + 1 + 1 := by rw [htb]
          (try rw [e4]); (try rw [e3]); (try rw [htb]); rw [hw3, hw4, hw5]
          clear hw3 hw4 hw5 n3 n4 n5 z3 z4 t3 t4 t5 X3 X4 FS TS RT htb e3 e4 s0 s1 s2 s3 s4 s5 s6 s7 s8 sf hsl
          obtain ⟨pp0, pp1, ppf⟩ := box2 P5.out
          obtain ⟨p3, p6, pf⟩ := insbox D5.out.xb
          go_wp2_with fail
          refine CK.out.mono ?_
          rintro z w6 ⟨rfl, n6⟩
          have D6 := Lib.hid (D5.out.on n6)
          clear n6 pp0 pp1 ppf p3 p6 pf CK
          obtain ⟨p3, p6, pf⟩ := insbox D6.out.xb
          unfold fltA
          clear HCT
          have hff := fieldFlt w6 (.int .i64 e) (.int .i64 li)
          by_cases ce : e = 0
          · subst ce
            cases loc <;>
              (go_wp2_with fail
               go_ret
               exact ⟨by rw [HRES.out]; first | rfl | (simp; done) | simp [ci], D6.out.nw⟩)
          · have qe : (e == 0) = false := by simp [ce]
            cases loc <;>
              (go_wp2_with fail
               go_ret
               exact ⟨by rw [HRES.out]; simp [ce], D6.out.nw⟩)
        have q3 : ((kind : Int) == 3) = false := by simp; omega
        by_cases k8 : kind = 8
        · subst k8
          go_upto_region 17 with fail
          obtain ⟨wq, hwq⟩ : ∃ x, wy.setCell ⟨db + 1, 2, none⟩ (.int .i64 1) = x := ⟨_, rfl⟩
          have DQ := D.out.far (x := db + 1) (i := 2) (y := .int .i64 1) (by have := HSD.out; omega) (fun g hg => by have := HVD.out g hg; omega)
          have OQ := heap_put (i := 2) OB0.out (.int .i64 1)
          rw [hwq] at DQ OQ
          have OB : Hid (RdK 5 isDcl wq (.slice (some ⟨db + 1, 0, none⟩) 1 1) (doesObjs 8)) := Lib.hid (one_dcl (d := ⟨8, [97], 1, [], 0⟩) (by simpa [dclA] using OQ) (by simp [okD]))
          rw [hwq]
          have D := Lib.hid DQ
          clear hwq DQ OQ o0 o1 o2 o3 o4 of hol
          have hsl := lt_of_block D.out.tb
          obtain ⟨s0, s1, s2, s3, s4, s5, s6, s7, s8, sf⟩ := box9 D.out.tb
          go_upto_region 18 with fail
          obtain ⟨tb, htb⟩ : ∃ tb, wq.heap.size = tb := ⟨_, rfl⟩
          obtain ⟨w3, hw3⟩ : ∃ x, wq.alloc (.cells #[.int .u8 1, .int .u8 (op : Int), .string ⟨#[97]⟩, .string ⟨#[]⟩, .int .i64 0, .slice ua na uc, .slice none 0 0, .slice none 0 0, .int .i64 0] 144) = x := ⟨_, rfl⟩
          obtain ⟨w4, hw4⟩ : ∃ x, w3.alloc (.cells #[.string ⟨#[97]⟩, .slice (some ⟨tb, 0, none⟩) 1 1, .int .i64 0] 93) = x := ⟨_, rfl⟩
          obtain ⟨w5, hw5⟩ : ∃ x, w4.alloc (.cells #[.slice (some ⟨db + 1, 0, none⟩) 1 1, .slice (some ⟨tb + 1, 0, none⟩) 1 1] 51) = x := ⟨_, rfl⟩
          have n3 : Nw wq w3 := by rw [← hw3]; exact (Nw.refl wq).alloc _
          have n4 : Nw w3 w4 := by rw [← hw4]; exact (Nw.refl w3).alloc _
          have n5 : Nw w4 w5 := by rw [← hw5]; exact (Nw.refl w4).alloc _
          have z3 : w3.heap.size = tb + 1 := by rw [← hw3, ← htb]; simp
          have z4 : w4.heap.size = tb + 1 + 1 := by rw [← hw4, ← z3]; simp
          have t3 : w3.heap[tb]? = some (.cells #[.int .u8 1, .int .u8 (op : Int), .string ⟨#[97]⟩, .string ⟨#[]⟩, .int .i64 0, .slice ua na uc, .slice none 0 0, .slice none 0 0, .int .i64 0] 144 (0, 0)) := by rw [← hw3, ← htb]; exact heap_alloc_new wq _
          have t4 : w4.heap[tb + 1]? = some (.cells #[.string ⟨#[97]⟩, .slice (some ⟨tb, 0, none⟩) 1 1, .int .i64 0] 93 (0, 0)) := by rw [← hw4, ← z3]; exact heap_alloc_new w3 _
          have t5 : w5.heap[tb + 1 + 1]? = some (.cells #[.slice (some ⟨db + 1, 0, none⟩) 1 1, .slice (some ⟨tb + 1, 0, none⟩) 1 1] 51 (0, 0)) := by rw [← hw5, ← z4]; exact heap_alloc_new w4 _
          have N5 := Lib.hid (n3.trans (n4.trans n5))
          have D5 := Lib.hid (D.out.on N5.out)
          have P5 := Lib.hid t5
          have X4 := (n5.at_ t4)
          have X3 := ((n4.trans n5).at_ t3)
          have FS : isFs w5 [.int .u8 1, .int .u8 (op : Int), .string ⟨#[97]⟩, .string ⟨#[]⟩, .int .i64 0, .slice ua na uc, .slice none 0 0, .slice none 0 0, .int .i64 0] ⟨op, [97], [], na, 0⟩ := ⟨_, _, _, rfl, HOP.out, by simp, by simp, ⟨by simp, by simp⟩, noughts_rd D5.out.vec, ⟨none, rfl⟩, ⟨none, rfl⟩⟩
          have TS : isThr w5 [.string ⟨#[97]⟩, .slice (some ⟨tb, 0, none⟩) 1 1, .int .i64 0] ⟨[97], [⟨op, [97], [], na, 0⟩], 0⟩ := by
            refine ⟨_, rfl, by simp, ⟨by simp, by simp⟩, .inr ⟨tb, 0, 1, rfl, by simp, by decide, lt_of_block X3, fun i hi => ?_⟩⟩
            obtain rfl : i = 0 := by simpa using hi
            refine ⟨_, rfl, fun j hj => ?_, FS⟩
            rw [cell_of_row _ _ _ _ _ _ X3]
            simp only [Nat.zero_add, Nat.zero_mul, List.getElem?_toArray]
            exact List.getElem?_eq_getElem hj
          have RT : RdK 3 (isThr w5) w5 (.slice (some ⟨tb + 1, 0, none⟩) 1 1) [⟨[97], [⟨op, [97], [], na, 0⟩], 0⟩] := by
            refine .inr ⟨tb + 1, 0, 1, rfl, by simp, by decide, lt_of_block X4, fun i hi => ?_⟩
            obtain rfl : i = 0 := by simpa using hi
            refine ⟨_, rfl, fun j hj => ?_, TS⟩
            rw [cell_of_row _ _ _ _ _ _ X4]
            simp only [Nat.zero_add, Nat.zero_mul, List.getElem?_toArray]
            exact List.getElem?_eq_getElem hj
          have CK := Lib.hid (CheckF_ok (HM.out _ D5.out.nw) (OB.out.nw N5.out) RT)
          rw [HCT.out] at CK
          simp only at CK
          have e3 : wq.heap.size + 1 = tb + 1 := by rw [htb]
          have e4 : wq.heap.size + 1 + 1 = tb + 1 + 1 := by rw [htb]
          (try rw [e4]); (try rw [e3]); (try rw [htb]); rw [hw3, hw4, hw5]
          clear hw3 hw4 hw5 n3 n4 n5 z3 z4 t3 t4 t5 X3 X4 FS TS RT htb e3 e4 s0 s1 s2 s3 s4 s5 s6 s7 s8 sf hsl
          obtain ⟨pp0, pp1, ppf⟩ := box2 P5.out
          obtain ⟨p3, p6, pf⟩ := insbox D5.out.xb
          go_wp2_with fail
          refine CK.out.mono ?_
          rintro z w6 ⟨rfl, n6⟩
          have D6 := Lib.hid (D5.out.on n6)
          clear n6 pp0 pp1 ppf p3 p6 pf CK
          obtain ⟨p3, p6, pf⟩ := insbox D6.out.xb
          unfold fltA
          clear HCT
          have hff := fieldFlt w6 (.int .i64 e) (.int .i64 li)
          by_cases ce : e = 0
          · subst ce
            cases loc <;>
              (go_wp2_with fail
               go_ret
               exact ⟨by rw [HRES.out]; first | rfl | (simp; done) | simp [ci], D6.out.nw⟩)
          · have qe : (e == 0) = false := by simp [ce]
            cases loc <;>
              (go_wp2_with fail
               go_ret
               exact ⟨by rw [HRES.out]; simp [ce], D6.out.nw⟩)
        have q8 : ((kind : Int) == 8) = false := by simp; omega
        by_cases k5 : kind = 5
        · subst k5
          go_upto_region 17 with fail
          obtain ⟨wq, hwq⟩ : ∃ x, wy.setCell ⟨db + 1, 2, none⟩ (.int .i64 1) = x := ⟨_, rfl⟩
          have DQ := D.out.far (x := db + 1) (i := 2) (y := .int .i64 1) (by have := HSD.out; omega) (fun g hg => by have := HVD.out g hg; omega)
          have OQ := heap_put (i := 2) OB0.out (.int .i64 1)
          rw [hwq] at DQ OQ
          have OB : Hid (RdK 5 isDcl wq (.slice (some ⟨db + 1, 0, none⟩) 1 1) (doesObjs 5)) := Lib.hid (one_dcl (d := ⟨5, [97], 1, [], 0⟩) (by simpa [dclA] using OQ) (by simp [okD]))
          rw [hwq]
          have D := Lib.hid DQ
          clear hwq DQ OQ o0 o1 o2 o3 o4 of hol
          have hsl := lt_of_block D.out.tb
          obtain ⟨s0, s1, s2, s3, s4, s5, s6, s7, s8, sf⟩ := box9 D.out.tb
          go_upto_region 18 with fail
          obtain ⟨tb, htb⟩ : ∃ tb, wq.heap.size = tb := ⟨_, rfl⟩
          obtain ⟨w3, hw3⟩ : ∃ x, wq.alloc (.cells #[.int .u8 1, .int .u8 (op : Int), .string ⟨#[97]⟩, .string ⟨#[]⟩, .int .i64 0, .slice ua na uc, .slice none 0 0, .slice none 0 0, .int .i64 0] 144) = x := ⟨_, rfl⟩
          obtain ⟨w4, hw4⟩ : ∃ x, w3.alloc (.cells #[.string ⟨#[97]⟩, .slice (some ⟨tb, 0, none⟩) 1 1, .int .i64 0] 93) = x := ⟨_, rfl⟩
          obtain ⟨w5, hw5⟩ : ∃ x, w4.alloc (.cells #[.slice (some ⟨db + 1, 0, none⟩) 1 1, .slice (some ⟨tb + 1, 0, none⟩) 1 1] 51) = x := ⟨_, rfl⟩
          have n3 : Nw wq w3 := by rw [← hw3]; exact (Nw.refl wq).alloc _
          have n4 : Nw w3 w4 := by rw [← hw4]; exact (Nw.refl w3).alloc _
          have n5 : Nw w4 w5 := by rw [← hw5]; exact (Nw.refl w4).alloc _
          have z3 : w3.heap.size = tb + 1 := by rw [← hw3, ← htb]; simp
          have z4 : w4.heap.size = tb + 1 + 1 := by rw [← hw4, ← z3]; simp
          have t3 : w3.heap[tb]? = some (.cells #[.int .u8 1, .int .u8 (op : Int), .string ⟨#[97]⟩, .string ⟨#[]⟩, .int .i64 0, .slice ua na uc, .slice none 0 0, .slice none 0 0, .int .i64 0] 144 (0, 0)) := by rw [← hw3, ← htb]; exact heap_alloc_new wq _
          have t4 : w4.heap[tb + 1]? = some (.cells #[.string ⟨#[97]⟩, .slice (some ⟨tb, 0, none⟩) 1 1, .int .i64 0] 93 (0, 0)) := by rw [← hw4, ← z3]; exact heap_alloc_new w3 _
          have t5 : w5.heap[tb + 1 + 1]? = some (.cells #[.slice (some ⟨db + 1, 0, none⟩) 1 1, .slice (some ⟨tb + 1, 0, none⟩) 1 1] 51 (0, 0)) := by rw [← hw5, ← z4]; exact heap_alloc_new w4 _
          have N5 := Lib.hid (n3.trans (n4.trans n5))
          have D5 := Lib.hid (D.out.on N5.out)
          have P5 := Lib.hid t5
          have X4 := (n5.at_ t4)
          have X3 := ((n4.trans n5).at_ t3)
          have FS : isFs w5 [.int .u8 1, .int .u8 (op : Int), .string ⟨#[97]⟩, .string ⟨#[]⟩, .int .i64 0, .slice ua na uc, .slice none 0 0, .slice none 0 0, .int .i64 0] ⟨op, [97], [], na, 0⟩ := ⟨_, _, _, rfl, HOP.out, by simp, by simp, ⟨by simp, by simp⟩, noughts_rd D5.out.vec, ⟨none, rfl⟩, ⟨none, rfl⟩⟩
          have TS : isThr w5 [.string ⟨#[97]⟩, .slice (some ⟨tb, 0, none⟩) 1 1, .int .i64 0] ⟨[97], [⟨op, [97], [], na, 0⟩], 0⟩ := by
            refine ⟨_, rfl, by simp, ⟨by simp, by simp⟩, .inr ⟨tb, 0, 1, rfl, by simp, by decide, lt_of_block X3, fun i hi => ?_⟩⟩
            obtain rfl : i = 0 := by simpa using hi
            refine ⟨_, rfl, fun j hj => ?_, FS⟩
            rw [cell_of_row _ _ _ _ _ _ X3]
            simp only [Nat.zero_add, Nat.zero_mul, List.getElem?_toArray]
            exact List.getElem?_eq_getElem hj
          have RT : RdK 3 (isThr w5) w5 (.slice (some ⟨tb + 1, 0, none⟩) 1 1) [⟨[97], [⟨op, [97], [], na, 0⟩], 0⟩] := by
            refine .inr ⟨tb + 1, 0, 1, rfl, by simp, by decide, lt_of_block X4, fun i hi => ?_⟩
            obtain rfl : i = 0 := by simpa using hi
            refine ⟨_, rfl, fun j hj => ?_, TS⟩
            rw [cell_of_row _ _ _ _ _ _ X4]
            simp only [Nat.zero_add, Nat.zero_mul, List.getElem?_toArray]
            exact List.getElem?_eq_getElem hj
          have CK := Lib.hid (CheckF_ok (HM.out _ D5.out.nw) (OB.out.nw N5.out) RT)
          rw [HCT.out] at CK
          simp only at CK
          have e3 : wq.heap.size + 1 = tb + 1 := by rw [htb]
          have e4 : wq.heap.size + 1 + 1 = tb + 1 + 1 := by rw [htb]
          (try rw [e4]); (try rw [e3]); (try rw [htb]); rw [hw3, hw4, hw5]
          clear hw3 hw4 hw5 n3 n4 n5 z3 z4 t3 t4 t5 X3 X4 FS TS RT htb e3 e4 s0 s1 s2 s3 s4 s5 s6 s7 s8 sf hsl
          obtain ⟨pp0, pp1, ppf⟩ := box2 P5.out
          obtain ⟨p3, p6, pf⟩ := insbox D5.out.xb
          go_wp2_with fail
          refine CK.out.mono ?_
          rintro z w6 ⟨rfl, n6⟩
          have D6 := Lib.hid (D5.out.on n6)
          clear n6 pp0 pp1 ppf p3 p6 pf CK
          obtain ⟨p3, p6, pf⟩ := insbox D6.out.xb
          unfold fltA
          clear HCT
          have hff := fieldFlt w6 (.int .i64 e) (.int .i64 li)
          by_cases ce : e = 0
          · subst ce
            cases loc <;>
              (go_wp2_with fail
               go_ret
               exact ⟨by rw [HRES.out]; first | rfl | (simp; done) | simp [ci], D6.out.nw⟩)
          · have qe : (e == 0) = false := by simp [ce]
            cases loc <;>
              (go_wp2_with fail
               go_ret
               exact ⟨by rw [HRES.out]; simp [ce], D6.out.nw⟩)
        have q5 : ((kind : Int) == 5) = false := by simp; omega
        by_cases k4 : kind = 4
        · subst k4
          go_upto_region 17 with fail
          obtain ⟨ob, hob⟩ : ∃ b, wy.heap.size = b := ⟨_, rfl⟩
          obtain ⟨wq, hwq⟩ : ∃ x, wy.alloc (.cells #[.int .u8 1, .string ⟨#[98]⟩, .int .i64 0, .string ⟨#[]⟩, .int .i64 0, .int .u8 4, .string ⟨#[97]⟩, .int .i64 0, .string ⟨#[98]⟩, .int .i64 0] 76) = x := ⟨_, rfl⟩
          have NQ : Nw wy wq := by rw [← hwq]; exact (Nw.refl wy).alloc _
          have OQ : wq.heap[ob]? = some (.cells #[.int .u8 1, .string ⟨#[98]⟩, .int .i64 0, .string ⟨#[]⟩, .int .i64 0, .int .u8 4, .string ⟨#[97]⟩, .int .i64 0, .string ⟨#[98]⟩, .int .i64 0] 76 (0, 0)) := by rw [← hwq, ← hob]; exact heap_alloc_new wy _
          have OB : Hid (RdK 5 isDcl wq (.slice (some ⟨ob, 0, none⟩) 2 2) (doesObjs 4)) := Lib.hid (two_dcl (d := ⟨1, [98], 0, [], 0⟩) (e := ⟨4, [97], 0, [98], 0⟩) (by simpa [dclA] using OQ) (by simp [okD]) (by simp [okD]))
          have D := Lib.hid (D.out.on NQ)
          (try rw [hob]); rw [hwq]
          clear hwq hob NQ OQ o0 o1 o2 o3 o4 of hol
          have hsl := lt_of_block D.out.tb
          obtain ⟨s0, s1, s2, s3, s4, s5, s6, s7, s8, sf⟩ := box9 D.out.tb
          go_upto_region 18 with fail
          obtain ⟨tb, htb⟩ : ∃ tb, wq.heap.size = tb := ⟨_, rfl⟩
          obtain ⟨w3, hw3⟩ : ∃ x, wq.alloc (.cells #[.int .u8 1, .int .u8 (op : Int), .string ⟨#[97]⟩, .string ⟨#[]⟩, .int .i64 0, .slice ua na uc, .slice none 0 0, .slice none 0 0, .int .i64 0] 144) = x := ⟨_, rfl⟩
          obtain ⟨w4, hw4⟩ : ∃ x, w3.alloc (.cells #[.string ⟨#[97]⟩, .slice (some ⟨tb, 0, none⟩) 1 1, .int .i64 0] 93) = x := ⟨_, rfl⟩
          obtain ⟨w5, hw5⟩ : ∃ x, w4.alloc (.cells #[.slice (some ⟨ob, 0, none⟩) 2 2, .slice (some ⟨tb + 1, 0, none⟩) 1 1] 51) = x := ⟨_, rfl⟩
          have n3 : Nw wq w3 := by rw [← hw3]; exact (Nw.refl wq).alloc _
          have n4 : Nw w3 w4 := by rw [← hw4]; exact (Nw.refl w3).alloc _
          have n5 : Nw w4 w5 := by rw [← hw5]; exact (Nw.refl w4).alloc _
          have z3 : w3.heap.size = tb + 1 := by rw [← hw3, ← htb]; simp
          have z4 : w4.heap.size = tb + 1 + 1 := by rw [← hw4, ← z3]; simp
          have t3 : w3.heap[tb]? = some (.cells #[.int .u8 1, .int .u8 (op : Int), .string ⟨#[97]⟩, .string ⟨#[]⟩, .int .i64 0, .slice ua na uc, .slice none 0 0, .slice none 0 0, .int .i64 0] 144 (0, 0)) := by rw [← hw3, ← htb]; exact heap_alloc_new wq _
          have t4 : w4.heap[tb + 1]? = some (.cells #[.string ⟨#[97]⟩, .slice (some ⟨tb, 0, none⟩) 1 1, .int .i64 0] 93 (0, 0)) := by rw [← hw4, ← z3]; exact heap_alloc_new w3 _
          have t5 : w5.heap[tb + 1 + 1]? = some (.cells #[.slice (some ⟨ob, 0, none⟩) 2 2, .slice (some ⟨tb + 1, 0, none⟩) 1 1] 51 (0, 0)) := by rw [← hw5, ← z4]; exact heap_alloc_new w4 _
          have N5 := Lib.hid (n3.trans (n4.trans n5))
          have D5 := Lib.hid (D.out.on N5.out)
          have P5 := Lib.hid t5
          have X4 := (n5.at_ t4)
          have X3 := ((n4.trans n5).at_ t3)
          have FS : isFs w5 [.int .u8 1, .int .u8 (op : Int), .string ⟨#[97]⟩, .string ⟨#[]⟩, .int .i64 0, .slice ua na uc, .slice none 0 0, .slice none 0 0, .int .i64 0] ⟨op, [97], [], na, 0⟩ := ⟨_, _, _, rfl, HOP.out, by simp, by simp, ⟨by simp, by simp⟩, noughts_rd D5.out.vec, ⟨none, rfl⟩, ⟨none, rfl⟩⟩
          have TS : isThr w5 [.string ⟨#[97]⟩, .slice (some ⟨tb, 0, none⟩) 1 1, .int .i64 0] ⟨[97], [⟨op, [97], [], na, 0⟩], 0⟩ := by
            refine ⟨_, rfl, by simp, ⟨by simp, by simp⟩, .inr ⟨tb, 0, 1, rfl, by simp, by decide, lt_of_block X3, fun i hi => ?_⟩⟩
            obtain rfl : i = 0 := by simpa using hi
            refine ⟨_, rfl, fun j hj => ?_, FS⟩
            rw [cell_of_row _ _ _ _ _ _ X3]
            simp only [Nat.zero_add, Nat.zero_mul, List.getElem?_toArray]
            exact List.getElem?_eq_getElem hj
          have RT : RdK 3 (isThr w5) w5 (.slice (some ⟨tb + 1, 0, none⟩) 1 1) [⟨[97], [⟨op, [97], [], na, 0⟩], 0⟩] := by
            refine .inr ⟨tb + 1, 0, 1, rfl, by simp, by decide, lt_of_block X4, fun i hi => ?_⟩
            obtain rfl : i = 0 := by simpa using hi
            refine ⟨_, rfl, fun j hj => ?_, TS⟩
            rw [cell_of_row _ _ _ _ _ _ X4]
            simp only [Nat.zero_add, Nat.zero_mul, List.getElem?_toArray]
            exact List.getElem?_eq_getElem hj
          have CK := Lib.hid (CheckF_ok (HM.out _ D5.out.nw) (OB.out.nw N5.out) RT)
          rw [HCT.out] at CK
          simp only at CK
          have e3 : wq.heap.size + 1 = tb + 1 := by rw [htb]
          have e4 : wq.heap.size + 1 + 1 = tb + 1 + 1 := by rw [htb]
          (try rw [e4]); (try rw [e3]); (try rw [htb]); rw [hw3, hw4, hw5]
          clear hw3 hw4 hw5 n3 n4 n5 z3 z4 t3 t4 t5 X3 X4 FS TS RT htb e3 e4 s0 s1 s2 s3 s4 s5 s6 s7 s8 sf hsl
          obtain ⟨pp0, pp1, ppf⟩ := box2 P5.out
          obtain ⟨p3, p6, pf⟩ := insbox D5.out.xb
          go_wp2_with fail
          refine CK.out.mono ?_
          rintro z w6 ⟨rfl, n6⟩
          have D6 := Lib.hid (D5.out.on n6)
          clear n6 pp0 pp1 ppf p3 p6 pf CK
          obtain ⟨p3, p6, pf⟩ := insbox D6.out.xb
          unfold fltA
          clear HCT
          have hff := fieldFlt w6 (.int .i64 e) (.int .i64 li)
          by_cases ce : e = 0
          · subst ce
            cases loc <;>
              (go_wp2_with fail
               go_ret
               exact ⟨by rw [HRES.out]; first | rfl | (simp; done) | simp [ci], D6.out.nw⟩)
          · have qe : (e == 0) = false := by simp [ce]
            cases loc <;>
              (go_wp2_with fail
               go_ret
               exact ⟨by rw [HRES.out]; simp [ce], D6.out.nw⟩)
        have q4 : ((kind : Int) == 4) = false := by simp; omega
        go_upto_region 17 with fail
        have OB : Hid (RdK 5 isDcl wy (.slice (some ⟨db + 1, 0, none⟩) 1 1) (doesObjs kind)) := Lib.hid (by
          have e : doesObjs kind = [⟨kind, [97], 0, [], 0⟩] := by unfold doesObjs; simp [k3, k4, k5, k8]
          rw [e]
          exact one_dcl (d := ⟨kind, [97], 0, [], 0⟩) (by simpa [dclA] using OB0.out) (by simp [okD]; exact HK.out))
        obtain ⟨wq, hwq⟩ : ∃ x, wy = x := ⟨_, rfl⟩
        subst hwq
        clear o0 o1 o2 o3 o4 of hol
        have hsl := lt_of_block D.out.tb
        obtain ⟨s0, s1, s2, s3, s4, s5, s6, s7, s8, sf⟩ := box9 D.out.tb
        go_upto_region 18 with fail
        obtain ⟨tb, htb⟩ : ∃ tb, wy.heap.size = tb := ⟨_, rfl⟩
        obtain ⟨w3, hw3⟩ : ∃ x, wy.alloc (.cells #[.int .u8 1, .int .u8 (op : Int), .string ⟨#[97]⟩, .string ⟨#[]⟩, .int .i64 0, .slice ua na uc, .slice none 0 0, .slice none 0 0, .int .i64 0] 144) = x := ⟨_, rfl⟩
        obtain ⟨w4, hw4⟩ : ∃ x, w3.alloc (.cells #[.string ⟨#[97]⟩, .slice (some ⟨tb, 0, none⟩) 1 1, .int .i64 0] 93) = x := ⟨_, rfl⟩
        obtain ⟨w5, hw5⟩ : ∃ x, w4.alloc (.cells #[.slice (some ⟨db + 1, 0, none⟩) 1 1, .slice (some ⟨tb + 1, 0, none⟩) 1 1] 51) = x := ⟨_, rfl⟩
        have n3 : Nw wy w3 := by rw [← hw3]; exact (Nw.refl wy).alloc _
        have n4 : Nw w3 w4 := by rw [← hw4]; exact (Nw.refl w3).alloc _
        have n5 : Nw w4 w5 := by rw [← hw5]; exact (Nw.refl w4).alloc _
        have z3 : w3.heap.size = tb + 1 := by rw [← hw3, ← htb]; simp
        have z4 : w4.heap.size = tb + 1 + 1 := by rw [← hw4, ← z3]; simp
        have t3 : w3.heap[tb]? = some (.cells #[.int .u8 1, .int .u8 (op : Int), .string ⟨#[97]⟩, .string ⟨#[]⟩, .int .i64 0, .slice ua na uc, .slice none 0 0, .slice none 0 0, .int .i64 0] 144 (0, 0)) := by rw [← hw3, ← htb]; exact heap_alloc_new wy _
        have t4 : w4.heap[tb + 1]? = some (.cells #[.string ⟨#[97]⟩, .slice (some ⟨tb, 0, none⟩) 1 1, .int .i64 0] 93 (0, 0)) := by rw [← hw4, ← z3]; exact heap_alloc_new w3 _
        have t5 : w5.heap[tb + 1 + 1]? = some (.cells #[.slice (some ⟨db + 1, 0, none⟩) 1 1, .slice (some ⟨tb + 1, 0, none⟩) 1 1] 51 (0, 0)) := by rw [← hw5, ← z4]; exact heap_alloc_new w4 _
        have N5 := Lib.hid (n3.trans (n4.trans n5))
        have D5 := Lib.hid (D.out.on N5.out)
        have P5 := Lib.hid t5
        have X4 := (n5.at_ t4)
        have X3 := ((n4.trans n5).at_ t3)
        have FS : isFs w5 [.int .u8 1, .int .u8 (op : Int), .string ⟨#[97]⟩, .string ⟨#[]⟩, .int .i64 0, .slice ua na uc, .slice none 0 0, .slice none 0 0, .int .i64 0] ⟨op, [97], [], na, 0⟩ := ⟨_, _, _, rfl, HOP.out, by simp, by simp, ⟨by simp, by simp⟩, noughts_rd D5.out.vec, ⟨none, rfl⟩, ⟨none, rfl⟩⟩
        have TS : isThr w5 [.string ⟨#[97]⟩, .slice (some ⟨tb, 0, none⟩) 1 1, .int .i64 0] ⟨[97], [⟨op, [97], [], na, 0⟩], 0⟩ := by
          refine ⟨_, rfl, by simp, ⟨by simp, by simp⟩, .inr ⟨tb, 0, 1, rfl, by simp, by decide, lt_of_block X3, fun i hi => ?_⟩⟩
          obtain rfl : i = 0 := by simpa using hi
          refine ⟨_, rfl, fun j hj => ?_, FS⟩
          rw [cell_of_row _ _ _ _ _ _ X3]
          simp only [Nat.zero_add, Nat.zero_mul, List.getElem?_toArray]
          exact List.getElem?_eq_getElem hj
        have RT : RdK 3 (isThr w5) w5 (.slice (some ⟨tb + 1, 0, none⟩) 1 1) [⟨[97], [⟨op, [97], [], na, 0⟩], 0⟩] := by
          refine .inr ⟨tb + 1, 0, 1, rfl, by simp, by decide, lt_of_block X4, fun i hi => ?_⟩
          obtain rfl : i = 0 := by simpa using hi
          refine ⟨_, rfl, fun j hj => ?_, TS⟩
          rw [cell_of_row _ _ _ _ _ _ X4]
          simp only [Nat.zero_add, Nat.zero_mul, List.getElem?_toArray]
          exact List.getElem?_eq_getElem hj
        have CK := Lib.hid (CheckF_ok (HM.out _ D5.out.nw) (OB.out.nw N5.out) RT)
        rw [HCT.out] at CK
        simp only at CK
        have e3 : wy.heap.size + 1 = tb + 1 := by rw [htb]
        have e4 : wy.heap.size + 1 + 1 = tb + 1 + 1 := by rw [htb]
        (try rw [e4]); (try rw [e3]); (try rw [htb]); rw [hw3, hw4, hw5]
        clear hw3 hw4 hw5 n3 n4 n5 z3 z4 t3 t4 t5 X3 X4 FS TS RT htb e3 e4 s0 s1 s2 s3 s4 s5 s6 s7 s8 sf hsl
        obtain ⟨pp0, pp1, ppf⟩ := box2 P5.out
        obtain ⟨p3, p6, pf⟩ := insbox D5.out.xb
        go_wp2_with fail
        refine CK.out.mono ?_
        rintro z w6 ⟨rfl, n6⟩
        have D6 := Lib.hid (D5.out.on n6)
        clear n6 pp0 pp1 ppf p3 p6 pf CK
        obtain ⟨p3, p6, pf⟩ := insbox D6.out.xb
        unfold fltA
        clear HCT
        have hff := fieldFlt w6 (.int .i64 e) (.int .i64 li)
        by_cases ce : e = 0
        · subst ce
          cases loc <;>
            (go_wp2_with fail
             go_ret
             exact ⟨by rw [HRES.out]; first | rfl | (simp; done) | simp [ci], D6.out.nw⟩)
        · have qe : (e == 0) = false := by simp [ce]
          cases loc <;>
            (go_wp2_with fail
             go_ret
             exact ⟨by rw [HRES.out]; simp [ce], D6.out.nw⟩)
      have qi : (inn != -1) = true := by simp [ci]
      obtain ⟨⟨e, li⟩, hct⟩ : ∃ c, checkF (doesObjs kind) [⟨[97], [⟨op, [97], [97], na, 0⟩], 0⟩] = c := ⟨_, rfl⟩
      have hres : doesB kind op na (decide (inn ≠ -1)) loc = (decide (e = 0) && loc) := by
        have hc1 := congrArg Prod.fst hct
        simp only at hc1
        unfold doesB
        simp [ci]
        rw [hc1]
      have HRES := Lib.hid hres
      have HCT := Lib.hid hct
      clear hres hct
      have DI := Lib.hid (D.out.into (.string ⟨#[97]⟩))
      clear D
      go_upto_region 10 with fail
      obtain ⟨wz, hwz⟩ : ∃ x, (wr.setCell ⟨sb, 3, none⟩ (.string ⟨#[97]⟩)) = x := ⟨_, rfl⟩
      rw [hwz] at DI
      have hzs : wr.heap.size = wz.heap.size := by rw [← hwz]; simp
      obtain ⟨db, hdb⟩ : ∃ db, wz.heap.size = db := ⟨_, rfl⟩
      have HSD : Hid (sb < db) := Lib.hid (by have := lt_of_block DI.out.tb; omega)
      have HVD : Hid (∀ g, (Value.slice ua na uc).ownBlock = some g → g < db) := Lib.hid (fun g hg => by have := DI.out.vec.lt g hg; omega)
      obtain ⟨wy, hwy⟩ : ∃ x, (wz.alloc (.cells #[.int .u8 (kind : Int), .string ⟨#[97]⟩, .int .i64 0, .string ⟨#[]⟩, .int .i64 0] 76)).alloc (.cells #[.int .u8 (kind : Int), .string ⟨#[97]⟩, .int .i64 0, .string ⟨#[]⟩, .int .i64 0] 76) = x := ⟨_, rfl⟩
      have TB := two_blk wz #[.int .u8 (kind : Int), .string ⟨#[97]⟩, .int .i64 0, .string ⟨#[]⟩, .int .i64 0] #[.int .u8 (kind : Int), .string ⟨#[97]⟩, .int .i64 0, .string ⟨#[]⟩, .int .i64 0] 76 76
      rw [hwy, hdb] at TB
      have D := Lib.hid (DI.out.on TB.1)
      have OB0 := Lib.hid TB.2.2
      (try rw [hzs]); (try rw [hwz]); (try rw [hdb]); rw [hwy]
      clear hwz hzs hdb hwy TB DI s0 s1 s2 s3 s4 s5 s6 s7 s8 sf hsl hil p3 p6 pf
      obtain ⟨o0, o1, o2, o3, o4, of⟩ := box5 OB0.out
      have hol := lt_of_block OB0.out
      by_cases k3 : kind = 3
      · subst k3
        go_upto_region 17 with fail
        obtain ⟨wq, hwq⟩ : ∃ x, wy.setCell ⟨db + 1, 2, none⟩ (.int .i64 1) = x := ⟨_, rfl⟩
        have DQ := D.out.far (x := db + 1) (i := 2) (y := .int .i64 1) (by have := HSD.out; omega) (fun g hg => by have := HVD.out g hg; omega)
        have OQ := heap_put (i := 2) OB0.out (.int .i64 1)
        rw [hwq] at DQ OQ
        have OB : Hid (RdK 5 isDcl wq (.slice (some ⟨db + 1, 0, none⟩) 1 1) (doesObjs 3)) := Lib.hid (one_dcl (d := ⟨3, [97], 1, [], 0⟩) (by simpa [dclA] using OQ) (by simp [okD]))
        rw [hwq]
        have D := Lib.hid DQ
        clear hwq DQ OQ o0 o1 o2 o3 o4 of hol
        have hsl := lt_of_block D.out.tb
        obtain ⟨s0, s1, s2, s3, s4, s5, s6, s7, s8, sf⟩ := box9 D.out.tb
        go_upto_region 18 with fail
        obtain ⟨tb, htb⟩ : ∃ tb, wq.heap.size = tb := ⟨_, rfl⟩
        obtain ⟨w3, hw3⟩ : ∃ x, wq.alloc (.cells #[.int .u8 1, .int .u8 (op : Int), .string ⟨#[97]⟩, .string ⟨#[97]⟩, .int .i64 0, .slice ua na uc, .slice none 0 0, .slice none 0 0, .int .i64 0] 144) = x := ⟨_, rfl⟩
        obtain ⟨w4, hw4⟩ : ∃ x, w3.alloc (.cells #[.string ⟨#[97]⟩, .slice (some ⟨tb, 0, none⟩) 1 1, .int .i64 0] 93) = x := ⟨_, rfl⟩
        obtain ⟨w5, hw5⟩ : ∃ x, w4.alloc (.cells #[.slice (some ⟨db + 1, 0, none⟩) 1 1, .slice (some ⟨tb + 1, 0, none⟩) 1 1] 51) = x := ⟨_, rfl⟩
        have n3 : Nw wq w3 := by rw [← hw3]; exact (Nw.refl wq).alloc _
        have n4 : Nw w3 w4 := by rw [← hw4]; exact (Nw.refl w3).alloc _
        have n5 : Nw w4 w5 := by rw [← hw5]; exact (Nw.refl w4).alloc _
        have z3 : w3.heap.size = tb + 1 := by rw [← hw3, ← htb]; simp
        have z4 : w4.heap.size = tb + 1 + 1 := by rw [← hw4, ← z3]; simp
        have t3 : w3.heap[tb]? = some (.cells #[.int .u8 1, .int .u8 (op : Int), .string ⟨#[97]⟩, .string ⟨#[97]⟩, .int .i64 0, .slice ua na uc, .slice none 0 0, .slice none 0 0, .int .i64 0] 144 (0, 0)) := by rw [← hw3, ← htb]; exact heap_alloc_new wq _
        have t4 : w4.heap[tb + 1]? = some (.cells #[.string ⟨#[97]⟩, .slice (some ⟨tb, 0, none⟩) 1 1, .int .i64 0] 93 (0, 0)) := by rw [← hw4, ← z3]; exact heap_alloc_new w3 _
        have t5 : w5.heap[tb + 1 + 1]? = some (.cells #[.slice (some ⟨db + 1, 0, none⟩) 1 1, .slice (some ⟨tb + 1, 0, none⟩) 1 1] 51 (0, 0)) := by rw [← hw5, ← z4]; exact heap_alloc_new w4 _
        have N5 := Lib.hid (n3.trans (n4.trans n5))
        have D5 := Lib.hid (D.out.on N5.out)
        have P5 := Lib.hid t5
        have X4 := (n5.at_ t4)
        have X3 := ((n4.trans n5).at_ t3)
        have FS : isFs w5 [.int .u8 1, .int .u8 (op : Int), .string ⟨#[97]⟩, .string ⟨#[97]⟩, .int .i64 0, .slice ua na uc, .slice none 0 0, .slice none 0 0, .int .i64 0] ⟨op, [97], [97], na, 0⟩ := ⟨_, _, _, rfl, HOP.out, by simp, by simp, ⟨by simp, by simp⟩, noughts_rd D5.out.vec, ⟨none, rfl⟩, ⟨none, rfl⟩⟩
        have TS : isThr w5 [.string ⟨#[97]⟩, .slice (some ⟨tb, 0, none⟩) 1 1, .int .i64 0] ⟨[97], [⟨op, [97], [97], na, 0⟩], 0⟩ := by
          refine ⟨_, rfl, by simp, ⟨by simp, by simp⟩, .inr ⟨tb, 0, 1, rfl, by simp, by decide, lt_of_block X3, fun i hi => ?_⟩⟩
          obtain rfl : i = 0 := by simpa using hi
          refine ⟨_, rfl, fun j hj => ?_, FS⟩
          rw [cell_of_row _ _ _ _ _ _ X3]
          simp only [Nat.zero_add, Nat.zero_mul, List.getElem?_toArray]
          exact List.getElem?_eq_getElem hj
        have RT : RdK 3 (isThr w5) w5 (.slice (some ⟨tb + 1, 0, none⟩) 1 1) [⟨[97], [⟨op, [97], [97], na, 0⟩], 0⟩] := by
          refine .inr ⟨tb + 1, 0, 1, rfl, by simp, by decide, lt_of_block X4, fun i hi => ?_⟩
          obtain rfl : i = 0 := by simpa using hi
          refine ⟨_, rfl, fun j hj => ?_, TS⟩
          rw [cell_of_row _ _ _ _ _ _ X4]
          simp only [Nat.zero_add, Nat.zero_mul, List.getElem?_toArray]
          exact List.getElem?_eq_getElem hj
        have CK := Lib.hid (CheckF_ok (HM.out _ D5.out.nw) (OB.out.nw N5.out) RT)
        rw [HCT.out] at CK
        simp only at CK
        have e3 : wq.heap.size + 1 = tb + 1 := by rw [htb]
        have e4 : wq.heap.size + 1 + 1 = tb + 1 + 1 := by rw [htb]
        (try rw [e4]); (try rw [e3]); (try rw [htb]); rw [hw3, hw4, hw5]
        clear hw3 hw4 hw5 n3 n4 n5 z3 z4 t3 t4 t5 X3 X4 FS TS RT htb e3 e4 s0 s1 s2 s3 s4 s5 s6 s7 s8 sf hsl
        obtain ⟨pp0, pp1, ppf⟩ := box2 P5.out
        obtain ⟨p3, p6, pf⟩ := insbox D5.out.xb
        go_wp2_with fail
        refine CK.out.mono ?_
        rintro z w6 ⟨rfl, n6⟩
        have D6 := Lib.hid (D5.out.on n6)
        clear n6 pp0 pp1 ppf p3 p6 pf CK
        obtain ⟨p3, p6, pf⟩ := insbox D6.out.xb
        unfold fltA
        clear HCT
        have hff := fieldFlt w6 (.int .i64 e) (.int .i64 li)
        by_cases ce : e = 0
        · subst ce
          cases loc <;>
            (go_wp2_with fail
             go_ret
             exact ⟨by rw [HRES.out]; first | rfl | (simp; done) | simp [ci], D6.out.nw⟩)
        · have qe : (e == 0) = false := by simp [ce]
          cases loc <;>
            (go_wp2_with fail
             go_ret
             exact ⟨by rw [HRES.out]; simp [ce], D6.out.nw⟩)
      have q3 : ((kind : Int) == 3) = false := by simp; omega
      by_cases k8 : kind = 8
      · subst k8
        go_upto_region 17 with fail
        obtain ⟨wq, hwq⟩ : ∃ x, wy.setCell ⟨db + 1, 2, none⟩ (.int .i64 1) = x := ⟨_, rfl⟩
        have DQ := D.out.far (x := db + 1) (i := 2) (y := .int .i64 1) (by have := HSD.out; omega) (fun g hg => by have := HVD.out g hg; omega)
        have OQ := heap_put (i := 2) OB0.out (.int .i64 1)
        rw [hwq] at DQ OQ
        have OB : Hid (RdK 5 isDcl wq (.slice (some ⟨db + 1, 0, none⟩) 1 1) (doesObjs 8)) := Lib.hid (one_dcl (d := ⟨8, [97], 1, [], 0⟩) (by simpa [dclA] using OQ) (by simp [okD]))
        rw [hwq]
        have D := Lib.hid DQ
        clear hwq DQ OQ o0 o1 o2 o3 o4 of hol
        have hsl := lt_of_block D.out.tb
        obtain ⟨s0, s1, s2, s3, s4, s5, s6, s7, s8, sf⟩ := box9 D.out.tb
        go_upto_region 18 with fail
        obtain ⟨tb, htb⟩ : ∃ tb, wq.heap.size = tb := ⟨_, rfl⟩
        obtain ⟨w3, hw3⟩ : ∃ x, wq.alloc (.cells #[.int .u8 1, .int .u8 (op : Int), .string ⟨#[97]⟩, .string ⟨#[97]⟩, .int .i64 0, .slice ua na uc, .slice none 0 0, .slice none 0 0, .int .i64 0] 144) = x := ⟨_, rfl⟩
        obtain ⟨w4, hw4⟩ : ∃ x, w3.alloc (.cells #[.string ⟨#[97]⟩, .slice (some ⟨tb, 0, none⟩) 1 1, .int .i64 0] 93) = x := ⟨_, rfl⟩
        obtain ⟨w5, hw5⟩ : ∃ x, w4.alloc (.cells #[.slice (some ⟨db + 1, 0, none⟩) 1 1, .slice (some ⟨tb + 1, 0, none⟩) 1 1] 51) = x := ⟨_, rfl⟩
        have n3 : Nw wq w3 := by rw [← hw3]; exact (Nw.refl wq).alloc _
        have n4 : Nw w3 w4 := by rw [← hw4]; exact (Nw.refl w3).alloc _
        have n5 : Nw w4 w5 := by rw [← hw5]; exact (Nw.refl w4).alloc _
        have z3 : w3.heap.size = tb + 1 := by rw [← hw3, ← htb]; simp
        have z4 : w4.heap.size = tb + 1 + 1 := by rw [← hw4, ← z3]; simp
        have t3 : w3.heap[tb]? = some (.cells #[.int .u8 1, .int .u8 (op : Int), .string ⟨#[97]⟩, .string ⟨#[97]⟩, .int .i64 0, .slice ua na uc, .slice none 0 0, .slice none 0 0, .int .i64 0] 144 (0, 0)) := by rw [← hw3, ← htb]; exact heap_alloc_new wq _
        have t4 : w4.heap[tb + 1]? = some (.cells #[.string ⟨#[97]⟩, .slice (some ⟨tb, 0, none⟩) 1 1, .int .i64 0] 93 (0, 0)) := by rw [← hw4, ← z3]; exact heap_alloc_new w3 _
        have t5 : w5.heap[tb + 1 + 1]? = some (.cells #[.slice (some ⟨db + 1, 0, none⟩) 1 1, .slice (some ⟨tb + 1, 0, none⟩) 1 1] 51 (0, 0)) := by rw [← hw5, ← z4]; exact heap_alloc_new w4 _
        have N5 := Lib.hid (n3.trans (n4.trans n5))
        have D5 := Lib.hid (D.out.on N5.out)
        have P5 := Lib.hid t5
        have X4 := (n5.at_ t4)
        have X3 := ((n4.trans n5).at_ t3)
        have FS : isFs w5 [.int .u8 1, .int .u8 (op : Int), .string ⟨#[97]⟩, .string ⟨#[97]⟩, .int .i64 0, .slice ua na uc, .slice none 0 0, .slice none 0 0, .int .i64 0] ⟨op, [97], [97], na, 0⟩ := ⟨_, _, _, rfl, HOP.out, by simp, by simp, ⟨by simp, by simp⟩, noughts_rd D5.out.vec, ⟨none, rfl⟩, ⟨none, rfl⟩⟩
        have TS : isThr w5 [.string ⟨#[97]⟩, .slice (some ⟨tb, 0, none⟩) 1 1, .int .i64 0] ⟨[97], [⟨op, [97], [97], na, 0⟩], 0⟩ := by
          refine ⟨_, rfl, by simp, ⟨by simp, by simp⟩, .inr ⟨tb, 0, 1, rfl, by simp, by decide, lt_of_block X3, fun i hi => ?_⟩⟩
          obtain rfl : i = 0 := by simpa using hi
          refine ⟨_, rfl, fun j hj => ?_, FS⟩
          rw [cell_of_row _ _ _ _ _ _ X3]
          simp only [Nat.zero_add, Nat.zero_mul, List.getElem?_toArray]
          exact List.getElem?_eq_getElem hj
        have RT : RdK 3 (isThr w5) w5 (.slice (some ⟨tb + 1, 0, none⟩) 1 1) [⟨[97], [⟨op, [97], [97], na, 0⟩], 0⟩] := by
          refine .inr ⟨tb + 1, 0, 1, rfl, by simp, by decide, lt_of_block X4, fun i hi => ?_⟩
          obtain rfl : i = 0 := by simpa using hi
          refine ⟨_, rfl, fun j hj => ?_, TS⟩
          rw [cell_of_row _ _ _ _ _ _ X4]
          simp only [Nat.zero_add, Nat.zero_mul, List.getElem?_toArray]
          exact List.getElem?_eq_getElem hj
        have CK := Lib.hid (CheckF_ok (HM.out _ D5.out.nw) (OB.out.nw N5.out) RT)
        rw [HCT.out] at CK
        simp only at CK
        have e3 : wq.heap.size + 1 = tb + 1 := by rw [htb]
        have e4 : wq.heap.size + 1 + 1 = tb + 1 + 1 := by rw [htb]
        (try rw [e4]); (try rw [e3]); (try rw [htb]); rw [hw3, hw4, hw5]
        clear hw3 hw4 hw5 n3 n4 n5 z3 z4 t3 t4 t5 X3 X4 FS TS RT htb e3 e4 s0 s1 s2 s3 s4 s5 s6 s7 s8 sf hsl
        obtain ⟨pp0, pp1, ppf⟩ := box2 P5.out
        obtain ⟨p3, p6, pf⟩ := insbox D5.out.xb
        go_wp2_with fail
        refine CK.out.mono ?_
        rintro z w6 ⟨rfl, n6⟩
        have D6 := Lib.hid (D5.out.on n6)
        clear n6 pp0 pp1 ppf p3 p6 pf CK
        obtain ⟨p3, p6, pf⟩ := insbox D6.out.xb
        unfold fltA
        clear HCT
        have hff := fieldFlt w6 (.int .i64 e) (.int .i64 li)
        by_cases ce : e = 0
        · subst ce
          cases loc <;>
            (go_wp2_with fail
             go_ret
             exact ⟨by rw [HRES.out]; first | rfl | (simp; done) | simp [ci], D6.out.nw⟩)
        · have qe : (e == 0) = false := by simp [ce]
          cases loc <;>
            (go_wp2_with fail
             go_ret
             exact ⟨by rw [HRES.out]; simp [ce], D6.out.nw⟩)
      have q8 : ((kind : Int) == 8) = false := by simp; omega
      by_cases k5 : kind = 5
      · subst k5
        go_upto_region 17 with fail
        obtain ⟨wq, hwq⟩ : ∃ x, wy.setCell ⟨db + 1, 2, none⟩ (.int .i64 1) = x := ⟨_, rfl⟩
        have DQ := D.out.far (x := db + 1) (i := 2) (y := .int .i64 1) (by have := HSD.out; omega) (fun g hg => by have := HVD.out g hg; omega)
        have OQ := heap_put (i := 2) OB0.out (.int .i64 1)
        rw [hwq] at DQ OQ
        have OB : Hid (RdK 5 isDcl wq (.slice (some ⟨db + 1, 0, none⟩) 1 1) (doesObjs 5)) := Lib.hid (one_dcl (d := ⟨5, [97], 1, [], 0⟩) (by simpa [dclA] using OQ) (by simp [okD]))
        rw [hwq]
        have D := Lib.hid DQ
        clear hwq DQ OQ o0 o1 o2 o3 o4 of hol
        have hsl := lt_of_block D.out.tb
        obtain ⟨s0, s1, s2, s3, s4, s5, s6, s7, s8, sf⟩ := box9 D.out.tb
        go_upto_region 18 with fail
        obtain ⟨tb, htb⟩ : ∃ tb, wq.heap.size = tb := ⟨_, rfl⟩
        obtain ⟨w3, hw3⟩ : ∃ x, wq.alloc (.cells #[.int .u8 1, .int .u8 (op : Int), .string ⟨#[97]⟩, .string ⟨#[97]⟩, .int .i64 0, .slice ua na uc, .slice none 0 0, .slice none 0 0, .int .i64 0] 144) = x := ⟨_, rfl⟩
        obtain ⟨w4, hw4⟩ : ∃ x, w3.alloc (.cells #[.string ⟨#[97]⟩, .slice (some ⟨tb, 0, none⟩) 1 1, .int .i64 0] 93) = x := ⟨_, rfl⟩
        obtain ⟨w5, hw5⟩ : ∃ x, w4.alloc (.cells #[.slice (some ⟨db + 1, 0, none⟩) 1 1, .slice (some ⟨tb + 1, 0, none⟩) 1 1] 51) = x := ⟨_, rfl⟩
        have n3 : Nw wq w3 := by rw [← hw3]; exact (Nw.refl wq).alloc _
        have n4 : Nw w3 w4 := by rw [← hw4]; exact (Nw.refl w3).alloc _
        have n5 : Nw w4 w5 := by rw [← hw5]; exact (Nw.refl w4).alloc _
        have z3 : w3.heap.size = tb + 1 := by rw [← hw3, ← htb]; simp
        have z4 : w4.heap.size = tb + 1 + 1 := by rw [← hw4, ← z3]; simp
        have t3 : w3.heap[tb]? = some (.cells #[.int .u8 1, .int .u8 (op : Int), .string ⟨#[97]⟩, .string ⟨#[97]⟩, .int .i64 0, .slice ua na uc, .slice none 0 0, .slice none 0 0, .int .i64 0] 144 (0, 0)) := by rw [← hw3, ← htb]; exact heap_alloc_new wq _
        have t4 : w4.heap[tb + 1]? = some (.cells #[.string ⟨#[97]⟩, .slice (some ⟨tb, 0, none⟩) 1 1, .int .i64 0] 93 (0, 0)) := by rw [← hw4, ← z3]; exact heap_alloc_new w3 _
        have t5 : w5.heap[tb + 1 + 1]? = some (.cells #[.slice (some ⟨db + 1, 0, none⟩) 1 1, .slice (some ⟨tb + 1, 0, none⟩) 1 1] 51 (0, 0)) := by rw [← hw5, ← z4]; exact heap_alloc_new w4 _
        have N5 := Lib.hid (n3.trans (n4.trans n5))
        have D5 := Lib.hid (D.out.on N5.out)
        have P5 := Lib.hid t5
        have X4 := (n5.at_ t4)
        have X3 := ((n4.trans n5).at_ t3)
        have FS : isFs w5 [.int .u8 1, .int .u8 (op : Int), .string ⟨#[97]⟩, .string ⟨#[97]⟩, .int .i64 0, .slice ua na uc, .slice none 0 0, .slice none 0 0, .int .i64 0] ⟨op, [97], [97], na, 0⟩ := ⟨_, _, _, rfl, HOP.out, by simp, by simp, ⟨by simp, by simp⟩, noughts_rd D5.out.vec, ⟨none, rfl⟩, ⟨none, rfl⟩⟩
        have TS : isThr w5 [.string ⟨#[97]⟩, .slice (some ⟨tb, 0, none⟩) 1 1, .int .i64 0] ⟨[97], [⟨op, [97], [97], na, 0⟩], 0⟩ := by
          refine ⟨_, rfl, by simp, ⟨by simp, by simp⟩, .inr ⟨tb, 0, 1, rfl, by simp, by decide, lt_of_block X3, fun i hi => ?_⟩⟩
          obtain rfl : i = 0 := by simpa using hi
          refine ⟨_, rfl, fun j hj => ?_, FS⟩
          rw [cell_of_row _ _ _ _ _ _ X3]
          simp only [Nat.zero_add, Nat.zero_mul, List.getElem?_toArray]
          exact List.getElem?_eq_getElem hj
        have RT : RdK 3 (isThr w5) w5 (.slice (some ⟨tb + 1, 0, none⟩) 1 1) [⟨[97], [⟨op, [97], [97], na, 0⟩], 0⟩] := by
          refine .inr ⟨tb + 1, 0, 1, rfl, by simp, by decide, lt_of_block X4, fun i hi => ?_⟩
          obtain rfl : i = 0 := by simpa using hi
          refine ⟨_, rfl, fun j hj => ?_, TS⟩
          rw [cell_of_row _ _ _ _ _ _ X4]
          simp only [Nat.zero_add, Nat.zero_mul, List.getElem?_toArray]
          exact List.getElem?_eq_getElem hj
        have CK := Lib.hid (CheckF_ok (HM.out _ D5.out.nw) (OB.out.nw N5.out) RT)
        rw [HCT.out] at CK
        simp only at CK
        have e3 : wq.heap.size + 1 = tb + 1 := by rw [htb]
        have e4 : wq.heap.size + 1 + 1 = tb + 1 + 1 := by rw [htb]
        (try rw [e4]); (try rw [e3]); (try rw [htb]); rw [hw3, hw4, hw5]
        clear hw3 hw4 hw5 n3 n4 n5 z3 z4 t3 t4 t5 X3 X4 FS TS RT htb e3 e4 s0 s1 s2 s3 s4 s5 s6 s7 s8 sf hsl
        obtain ⟨pp0, pp1, ppf⟩ := box2 P5.out
        obtain ⟨p3, p6, pf⟩ := insbox D5.out.xb
        go_wp2_with fail
        refine CK.out.mono ?_
        rintro z w6 ⟨rfl, n6⟩
        have D6 := Lib.hid (D5.out.on n6)
        clear n6 pp0 pp1 ppf p3 p6 pf CK
        obtain ⟨p3, p6, pf⟩ := insbox D6.out.xb
        unfold fltA
        clear HCT
        have hff := fieldFlt w6 (.int .i64 e) (.int .i64 li)
        by_cases ce : e = 0
        · subst ce
          cases loc <;>
            (go_wp2_with fail
             go_ret
             exact ⟨by rw [HRES.out]; first | rfl | (simp; done) | simp [ci], D6.out.nw⟩)
        · have qe : (e == 0) = false := by simp [ce]
          cases loc <;>
            (go_wp2_with fail
             go_ret
             exact ⟨by rw [HRES.out]; simp [ce], D6.out.nw⟩)
      have q5 : ((kind : Int) == 5) = false := by simp; omega
      by_cases k4 : kind = 4
      · subst k4
        go_upto_region 17 with fail
        obtain ⟨ob, hob⟩ : ∃ b, wy.heap.size = b := ⟨_, rfl⟩
        obtain ⟨wq, hwq⟩ : ∃ x, wy.alloc (.cells #[.int .u8 1, .string ⟨#[98]⟩, .int .i64 0, .string ⟨#[]⟩, .int .i64 0, .int .u8 4, .string ⟨#[97]⟩, .int .i64 0, .string ⟨#[98]⟩, .int .i64 0] 76) = x := ⟨_, rfl⟩
        have NQ : Nw wy wq := by rw [← hwq]; exact (Nw.refl wy).alloc _
        have OQ : wq.heap[ob]? = some (.cells #[.int .u8 1, .string ⟨#[98]⟩, .int .i64 0, .string ⟨#[]⟩, .int .i64 0, .int .u8 4, .string ⟨#[97]⟩, .int .i64 0, .string ⟨#[98]⟩, .int .i64 0] 76 (0, 0)) := by rw [← hwq, ← hob]; exact heap_alloc_new wy _
        have OB : Hid (RdK 5 isDcl wq (.slice (some ⟨ob, 0, none⟩) 2 2) (doesObjs 4)) := Lib.hid (two_dcl (d := ⟨1, [98], 0, [], 0⟩) (e := ⟨4, [97], 0, [98], 0⟩) (by simpa [dclA] using OQ) (by simp [okD]) (by simp [okD]))
        have D := Lib.hid (D.out.on NQ)
        (try rw [hob]); rw [hwq]
        clear hwq hob NQ OQ o0 o1 o2 o3 o4 of hol
        have hsl := lt_of_block D.out.tb
        obtain ⟨s0, s1, s2, s3, s4, s5, s6, s7, s8, sf⟩ := box9 D.out.tb
        go_upto_region 18 with fail
        obtain ⟨tb, htb⟩ : ∃ tb, wq.heap.size = tb := ⟨_, rfl⟩
        obtain ⟨w3, hw3⟩ : ∃ x, wq.alloc (.cells #[.int .u8 1, .int .u8 (op : Int), .string ⟨#[97]⟩, .string ⟨#[97]⟩, .int .i64 0, .slice ua na uc, .slice none 0 0, .slice none 0 0, .int .i64 0] 144) = x := ⟨_, rfl⟩
        obtain ⟨w4, hw4⟩ : ∃ x, w3.alloc (.cells #[.string ⟨#[97]⟩, .slice (some ⟨tb, 0, none⟩) 1 1, .int .i64 0] 93) = x := ⟨_, rfl⟩
        obtain ⟨w5, hw5⟩ : ∃ x, w4.alloc (.cells #[.slice (some ⟨ob, 0, none⟩) 2 2, .slice (some ⟨tb + 1, 0, none⟩) 1 1] 51) = x := ⟨_, rfl⟩
        have n3 : Nw wq w3 := by rw [← hw3]; exact (Nw.refl wq).alloc _
        have n4 : Nw w3 w4 := by rw [← hw4]; exact (Nw.refl w3).alloc _
        have n5 : Nw w4 w5 := by rw [← hw5]; exact (Nw.refl w4).alloc _
        have z3 : w3.heap.size = tb + 1 := by rw [← hw3, ← htb]; simp
        have z4 : w4.heap.size = tb + 1 + 1 := by rw [← hw4, ← z3]; simp
        have t3 : w3.heap[tb]? = some (.cells #[.int .u8 1, .int .u8 (op : Int), .string ⟨#[97]⟩, .string ⟨#[97]⟩, .int .i64 0, .slice ua na uc, .slice none 0 0, .slice none 0 0, .int .i64 0] 144 (0, 0)) := by rw [← hw3, ← htb]; exact heap_alloc_new wq _
        have t4 : w4.heap[tb + 1]? = some (.cells #[.string ⟨#[97]⟩, .slice (some ⟨tb, 0, none⟩) 1 1, .int .i64 0] 93 (0, 0)) := by rw [← hw4, ← z3]; exact heap_alloc_new w3 _
        have t5 : w5.heap[tb + 1 + 1]? = some (.cells #[.slice (some ⟨ob, 0, none⟩) 2 2, .slice (some ⟨tb + 1, 0, none⟩) 1 1] 51 (0, 0)) := by rw [← hw5, ← z4]; exact heap_alloc_new w4 _
        have N5 := Lib.hid (n3.trans (n4.trans n5))
        have D5 := Lib.hid (D.out.on N5.out)
        have P5 := Lib.hid t5
        have X4 := (n5.at_ t4)
        have X3 := ((n4.trans n5).at_ t3)
        have FS : isFs w5 [.int .u8 1, .int .u8 (op : Int), .string ⟨#[97]⟩, .string ⟨#[97]⟩, .int .i64 0, .slice ua na uc, .slice none 0 0, .slice none 0 0, .int .i64 0] ⟨op, [97], [97], na, 0⟩ := ⟨_, _, _, rfl, HOP.out, by simp, by simp, ⟨by simp, by simp⟩, noughts_rd D5.out.vec, ⟨none, rfl⟩, ⟨none, rfl⟩⟩
        have TS : isThr w5 [.string ⟨#[97]⟩, .slice (some ⟨tb, 0, none⟩) 1 1, .int .i64 0] ⟨[97], [⟨op, [97], [97], na, 0⟩], 0⟩ := by
          refine ⟨_, rfl, by simp, ⟨by simp, by simp⟩, .inr ⟨tb, 0, 1, rfl, by simp, by decide, lt_of_block X3, fun i hi => ?_⟩⟩
          obtain rfl : i = 0 := by simpa using hi
          refine ⟨_, rfl, fun j hj => ?_, FS⟩
          rw [cell_of_row _ _ _ _ _ _ X3]
          simp only [Nat.zero_add, Nat.zero_mul, List.getElem?_toArray]
          exact List.getElem?_eq_getElem hj
        have RT : RdK 3 (isThr w5) w5 (.slice (some ⟨tb + 1, 0, none⟩) 1 1) [⟨[97], [⟨op, [97], [97], na, 0⟩], 0⟩] := by
          refine .inr ⟨tb + 1, 0, 1, rfl, by simp, by decide, lt_of_block X4, fun i hi => ?_⟩
          obtain rfl : i = 0 := by simpa using hi
          refine ⟨_, rfl, fun j hj => ?_, TS⟩
          rw [cell_of_row _ _ _ _ _ _ X4]
          simp only [Nat.zero_add, Nat.zero_mul, List.getElem?_toArray]
          exact List.getElem?_eq_getElem hj
        have CK := Lib.hid (CheckF_ok (HM.out _ D5.out.nw) (OB.out.nw N5.out) RT)
        rw [HCT.out] at CK
        simp only at CK
        have e3 : wq.heap.size + 1 = tb + 1 := by rw [htb]
        have e4 : wq.heap.size + 1 + 1 = tb + 1 + 1 := by rw [htb]
        (try rw [e4]); (try rw [e3]); (try rw [htb]); rw [hw3, hw4, hw5]
        clear hw3 hw4 hw5 n3 n4 n5 z3 z4 t3 t4 t5 X3 X4 FS TS RT htb e3 e4 s0 s1 s2 s3 s4 s5 s6 s7 s8 sf hsl
        obtain ⟨pp0, pp1, ppf⟩ := box2 P5.out
        obtain ⟨p3, p6, pf⟩ := insbox D5.out.xb
        go_wp2_with fail
        refine CK.out.mono ?_
        rintro z w6 ⟨rfl, n6⟩
        have D6 := Lib.hid (D5.out.on n6)
        clear n6 pp0 pp1 ppf p3 p6 pf CK
        obtain ⟨p3, p6, pf⟩ := insbox D6.out.xb
        unfold fltA
        clear HCT
        have hff := fieldFlt w6 (.int .i64 e) (.int .i64 li)
        by_cases ce : e = 0
        · subst ce
          cases loc <;>
            (go_wp2_with fail
             go_ret
             exact ⟨by rw [HRES.out]; first | rfl | (simp; done) | simp [ci], D6.out.nw⟩)
        · have qe : (e == 0) = false := by simp [ce]
          cases loc <;>
            (go_wp2_with fail
             go_ret
             exact ⟨by rw [HRES.out]; simp [ce], D6.out.nw⟩)
      have q4 : ((kind : Int) == 4) = false := by simp; omega
      go_upto_region 17 with fail
      have OB : Hid (RdK 5 isDcl wy (.slice (some ⟨db + 1, 0, none⟩) 1 1) (doesObjs kind)) := Lib.hid (by
        have e : doesObjs kind = [⟨kind, [97], 0, [], 0⟩] := by unfold doesObjs; simp [k3, k4, k5, k8]
        rw [e]
        exact one_dcl (d := ⟨kind, [97], 0, [], 0⟩) (by simpa [dclA] using OB0.out) (by simp [okD]; exact HK.out))
      obtain ⟨wq, hwq⟩ : ∃ x, wy = x := ⟨_, rfl⟩
      subst hwq
      clear o0 o1 o2 o3 o4 of hol
      have hsl := lt_of_block D.out.tb
      obtain ⟨s0, s1, s2, s3, s4, s5, s6, s7, s8, sf⟩ := box9 D.out.tb
      go_upto_region 18 with fail
      obtain ⟨tb, htb⟩ : ∃ tb, wy.heap.size = tb := ⟨_, rfl⟩
      obtain ⟨w3, hw3⟩ : ∃ x, wy.alloc (.cells #[.int .u8 1, .int .u8 (op : Int), .string ⟨#[97]⟩, .string ⟨#[97]⟩, .int .i64 0, .slice ua na uc, .slice none 0 0, .slice none 0 0, .int .i64 0] 144) = x := ⟨_, rfl⟩
      obtain ⟨w4, hw4⟩ : ∃ x, w3.alloc (.cells #[.string ⟨#[97]⟩, .slice (some ⟨tb, 0, none⟩) 1 1, .int .i64 0] 93) = x := ⟨_, rfl⟩
      obtain ⟨w5, hw5⟩ : ∃ x, w4.alloc (.cells #[.slice (some ⟨db + 1, 0, none⟩) 1 1, .slice (some ⟨tb + 1, 0, none⟩) 1 1] 51) = x := ⟨_, rfl⟩
      have n3 : Nw wy w3 := by rw [← hw3]; exact (Nw.refl wy).alloc _
      have n4 : Nw w3 w4 := by rw [← hw4]; exact (Nw.refl w3).alloc _
      have n5 : Nw w4 w5 := by rw [← hw5]; exact (Nw.refl w4).alloc _
      have z3 : w3.heap.size = tb + 1 := by rw [← hw3, ← htb]; simp
      have z4 : w4.heap.size = tb + 1 + 1 := by rw [← hw4, ← z3]; simp
      have t3 : w3.heap[tb]? = some (.cells #[.int .u8 1, .int .u8 (op : Int), .string ⟨#[97]⟩, .string ⟨#[97]⟩, .int .i64 0, .slice ua na uc, .slice none 0 0, .slice none 0 0, .int .i64 0] 144 (0, 0)) := by rw [← hw3, ← htb]; exact heap_alloc_new wy _
      have t4 : w4.heap[tb + 1]? = some (.cells #[.string ⟨#[97]⟩, .slice (some ⟨tb, 0, none⟩) 1 1, .int .i64 0] 93 (0, 0)) := by rw [← hw4, ← z3]; exact heap_alloc_new w3 _
      have t5 : w5.heap[tb + 1 + 1]? = some (.cells #[.slice (some ⟨db + 1, 0, none⟩) 1 1, .slice (some ⟨tb + 1, 0, none⟩) 1 1] 51 (0, 0)) := by rw [← hw5, ← z4]; exact heap_alloc_new w4 _
      have N5 := Lib.hid (n3.trans (n4.trans n5))
      have D5 := Lib.hid (D.out.on N5.out)
      have P5 := Lib.hid t5
      have X4 := (n5.at_ t4)
      have X3 := ((n4.trans n5).at_ t3)
      have FS : isFs w5 [.int .u8 1, .int .u8 (op : Int), .string ⟨#[97]⟩, .string ⟨#[97]⟩, .int .i64 0, .slice ua na uc, .slice none 0 0, .slice none 0 0, .int .i64 0] ⟨op, [97], [97], na, 0⟩ := ⟨_, _, _, rfl, HOP.out, by simp, by simp, ⟨by simp, by simp⟩, noughts_rd D5.out.vec, ⟨none, rfl⟩, ⟨none, rfl⟩⟩
      have TS : isThr w5 [.string ⟨#[97]⟩, .slice (some ⟨tb, 0, none⟩) 1 1, .int .i64 0] ⟨[97], [⟨op, [97], [97], na, 0⟩], 0⟩ := by
        refine ⟨_, rfl, by simp, ⟨by simp, by simp⟩, .inr ⟨tb, 0, 1, rfl, by simp, by decide, lt_of_block X3, fun i hi => ?_⟩⟩
        obtain rfl : i = 0 := by simpa using hi
        refine ⟨_, rfl, fun j hj => ?_, FS⟩
        rw [cell_of_row _ _ _ _ _ _ X3]
        simp only [Nat.zero_add, Nat.zero_mul, List.getElem?_toArray]
        exact List.getElem?_eq_getElem hj
      have RT : RdK 3 (isThr w5) w5 (.slice (some ⟨tb + 1, 0, none⟩) 1 1) [⟨[97], [⟨op, [97], [97], na, 0⟩], 0⟩] := by
        refine .inr ⟨tb + 1, 0, 1, rfl, by simp, by decide, lt_of_block X4, fun i hi => ?_⟩
        obtain rfl : i = 0 := by simpa using hi
        refine ⟨_, rfl, fun j hj => ?_, TS⟩
        rw [cell_of_row _ _ _ _ _ _ X4]
        simp only [Nat.zero_add, Nat.zero_mul, List.getElem?_toArray]
        exact List.getElem?_eq_getElem hj
      have CK := Lib.hid (CheckF_ok (HM.out _ D5.out.nw) (OB.out.nw N5.out) RT)
      rw [HCT.out] at CK
      simp only at CK
      have e3 : wy.heap.size + 1 = tb + 1 := by rw [htb]
      have e4 : wy.heap.size + 1 + 1 = tb + 1 + 1 := by rw [htb]
      (try rw [e4]); (try rw [e3]); (try rw [htb]); rw [hw3, hw4, hw5]
      clear hw3 hw4 hw5 n3 n4 n5 z3 z4 t3 t4 t5 X3 X4 FS TS RT htb e3 e4 s0 s1 s2 s3 s4 s5 s6 s7 s8 sf hsl
      obtain ⟨pp0, pp1, ppf⟩ := box2 P5.out
      obtain ⟨p3, p6, pf⟩ := insbox D5.out.xb
      go_wp2_with fail
      refine CK.out.mono ?_
      rintro z w6 ⟨rfl, n6⟩
      have D6 := Lib.hid (D5.out.on n6)
      clear n6 pp0 pp1 ppf p3 p6 pf CK
      obtain ⟨p3, p6, pf⟩ := insbox D6.out.xb
      unfold fltA
      clear HCT
      have hff := fieldFlt w6 (.int .i64 e) (.int .i64 li)
      by_cases ce : e = 0
      · subst ce
        cases loc <;>
          (go_wp2_with fail
           go_ret
           exact ⟨by rw [HRES.out]; first | rfl | (simp; done) | simp [ci], D6.out.nw⟩)
      · have qe : (e == 0) = false := by simp [ce]
        cases loc <;>
          (go_wp2_with fail
           go_ret
           exact ⟨by rw [HRES.out]; simp [ce], D6.out.nw⟩)
end Go.Proofs.YtcmaedoolinijaaGreatDoor
