/-
  Texts merged by a program of this claim's: LogPlain, BytesA, BytesB.
-/
import Derived.Test.YtjapijndljknnaaGreatDoorM3
import Derived.Test.YtjapijndljknnaaGreatDoorM9
import Derived.Lib.ItoaNum
import Derived.Test.YtjapijndljknnaaGreatDoorM2
import Derived.Lib.AppendZeros
import Derived.Lib.Zigzag
import Derived.Lib.EndianBits
import Derived.Laws.Bits64b
import Derived.Shelf.Spec.TrailingZeros
/-
  A log on a disk, in plain words (packages segment, seglog): pieces, manifests, heads, what each call does to the disk and the log.
-/
namespace Go.Proofs.YtjapijndljknnaaGreatDoor
open Go

/-! ### The sum -/
def bitStep (k r out : Nat) : Nat := if r / 2 ^ k % 2 = 1 then out ^^^ (3988292384 / 2 ^ (3 - k)) else out
def halfN (r : Nat) : Nat := bitStep 3 r (bitStep 2 r (bitStep 1 r (bitStep 0 r (r / 16))))
def crcGo (r : Nat) (l : List UInt8) : Nat := l.foldl (fun r c => halfN (halfN (r ^^^ c.toNat))) r
def crcN (l : List UInt8) : Nat := 4294967295 - crcGo 4294967295 l
def sumB (l : List UInt8) : List UInt8 := [UInt8.ofNat (crcN l / 16777216), UInt8.ofNat (crcN l / 65536), UInt8.ofNat (crcN l / 256), UInt8.ofNat (crcN l)]
theorem sumB_len (l : List UInt8) : (sumB l).length = 4 := rfl
theorem bitStep_lt {k r out : Nat} (h : out < 4294967296) : bitStep k r out < 4294967296 := by
  unfold bitStep
  split
  · refine Nat.xor_lt_two_pow (n := 32) h (Nat.lt_of_le_of_lt (Nat.div_le_self _ _) (by decide))
  · exact h
theorem halfN_lt {r : Nat} (h : r < 4294967296) : halfN r < 4294967296 := by
  unfold halfN
  exact bitStep_lt (bitStep_lt (bitStep_lt (bitStep_lt (by omega))))
theorem crcGo_lt : ∀ (l : List UInt8) (r : Nat), r < 4294967296 → crcGo r l < 4294967296
  | [], _, h => h
  | c :: l, r, h => crcGo_lt l _ (halfN_lt (halfN_lt (Nat.xor_lt_two_pow (n := 32) h (Nat.lt_trans c.toNat_lt (by decide)))))
theorem crcN_lt (l : List UInt8) : crcN l < 4294967296 := by unfold crcN; omega

/-! ### Pieces -/
structure Pc where
  name : Str
  first : Int
  count : Int
  dense : Bool
deriving DecidableEq
def Pc.zero : Pc := ⟨[], 0, 0, false⟩
def manifestS : Str := [109, 97, 110, 105, 102, 101, 115, 116]
def nextS : Str := [109, 97, 110, 105, 102, 101, 115, 116, 46, 110, 101, 119]
def okPiece (s : Str) : Bool := okName s && decide (s ≠ manifestS) && decide (s ≠ nextS)
def rightFrom : List Str → Int → List Pc → Bool
  | _, _, [] => true
  | seen, first, p :: l => okPiece p.name && !decide (p.name ∈ seen) && decide (p.first = first) && (if l = [] then decide (p.count = 0) && !p.dense else decide (1 ≤ p.count) && decide (p.count ≤ 1099511627776)) && rightFrom (p.name :: seen) (first + p.count) l
def rightL (l : List Pc) : Bool := decide (1 ≤ l.length) && decide (l.length ≤ 100) && rightFrom [] 0 l
def blobB (b : List UInt8) : List UInt8 := uintB b.length ++ b
def pieceB (p : Pc) : List UInt8 := blobB p.name ++ uintB p.first.toNat ++ uintB p.count.toNat ++ [if p.dense then 1 else 0]
def manifestIn (l : List Pc) : List UInt8 := [65, 77, 77, 49] ++ uintB l.length ++ l.flatMap pieceB
def manifestB (l : List Pc) : List UInt8 := sealB sumB (manifestIn l)
def headB (n : Nat) : List UInt8 := sealB sumB ([65, 77, 83, 49] ++ uintB n)
abbrev frmB (l : List Ev) : List UInt8 := frameB sumB l
def segName (n : Nat) : Str := 115 :: Lib.decDigits n

/-! ### What is done to the disk -/
def andThen (r : Dsk × Int) (f : Dsk → Dsk × Int) : Dsk × Int := if r.2 = 0 then f r.1 else r
def Dsk.gone (d : Dsk) (n : Str) : Dsk × Int := ((d.remove n).1, if (d.remove n).2 = 13 then 0 else (d.remove n).2)
def Dsk.fresh (d : Dsk) (n : Str) (b : List UInt8) : Dsk × Int := andThen (andThen (d.gone n) (·.append n b)) (·.sync n)
def Dsk.install (d : Dsk) (l : List Pc) : Dsk × Int := if rightL l then andThen (d.fresh nextS (manifestB l)) (·.rename nextS manifestS) else (d, 14)
def Dsk.begun (d : Dsk) (n : Nat) : Dsk × Int := d.fresh (segName n) (headB n)

/-! ### The log -/
structure Lg where
  size : Int
  l : List Pc
  n : Nat
  acked : Nat
  bytes : Nat
  over : Bool
def lastP (l : List Pc) : Pc := l.getLastD Pc.zero
structure LgR where
  d : Dsk
  L : Lg
  e : Int
def morePcs (L : Lg) : List Pc := L.l.dropLast ++ [{ lastP L.l with count := L.n - (lastP L.l).first }, ⟨segName L.n, L.n, 0, false⟩]
def Lg.another (L : Lg) (d : Dsk) : LgR :=
  if 100 ≤ L.l.length then ⟨d, L, 5⟩ else
  if (d.sync (lastP L.l).name).2 ≠ 0 then ⟨(d.sync (lastP L.l).name).1, L, (d.sync (lastP L.l).name).2⟩ else
  if ((d.sync (lastP L.l).name).1.begun L.n).2 ≠ 0 then ⟨((d.sync (lastP L.l).name).1.begun L.n).1, { L with acked := L.n }, ((d.sync (lastP L.l).name).1.begun L.n).2⟩ else
  if (((d.sync (lastP L.l).name).1.begun L.n).1.install (morePcs L)).2 ≠ 0 then ⟨(((d.sync (lastP L.l).name).1.begun L.n).1.install (morePcs L)).1, { L with acked := L.n }, (((d.sync (lastP L.l).name).1.begun L.n).1.install (morePcs L)).2⟩ else
  ⟨(((d.sync (lastP L.l).name).1.begun L.n).1.install (morePcs L)).1, { L with acked := L.n, l := morePcs L, bytes := (headB L.n).length }, 0⟩
def Lg.roomed (L : Lg) (d : Dsk) : LgR := if (lastP L.l).first < L.n ∧ L.size ≤ L.bytes then L.another d else ⟨d, L, 0⟩
def Lg.put (L : Lg) (d : Dsk) (es : List Ev) : LgR :=
  if (d.append (lastP L.l).name (frmB es)).2 ≠ 0 then ⟨(d.append (lastP L.l).name (frmB es)).1, { L with over := true }, (d.append (lastP L.l).name (frmB es)).2⟩
  else ⟨(d.append (lastP L.l).name (frmB es)).1, { L with n := L.n + es.length, bytes := L.bytes + (frmB es).length }, 0⟩
def Lg.add (L : Lg) (d : Dsk) (es : List Ev) : LgR :=
  if L.over then ⟨d, L, 16⟩ else if es.length = 0 then ⟨d, L, 2⟩ else if 4096 < es.length then ⟨d, L, 3⟩ else
  if (L.roomed d).e ≠ 0 then ⟨(L.roomed d).d, { (L.roomed d).L with over := true }, (L.roomed d).e⟩ else (L.roomed d).L.put (L.roomed d).d es
def Lg.sync (L : Lg) (d : Dsk) : LgR :=
  if L.over then ⟨d, L, 16⟩ else
  if (d.sync (lastP L.l).name).2 ≠ 0 then ⟨(d.sync (lastP L.l).name).1, { L with over := true }, (d.sync (lastP L.l).name).2⟩ else
  ⟨(d.sync (lastP L.l).name).1, { L with acked := L.n }, 0⟩
def Lg.swap (L : Lg) (d : Dsk) (ps : List Pc) : LgR :=
  if L.over then ⟨d, L, 16⟩ else
  if rightL (ps ++ [lastP L.l]) = false then ⟨d, L, 14⟩ else
  if (d.install (ps ++ [lastP L.l])).2 ≠ 0 then ⟨(d.install (ps ++ [lastP L.l])).1, { L with over := true }, (d.install (ps ++ [lastP L.l])).2⟩ else
  ⟨(d.install (ps ++ [lastP L.l])).1, { L with l := ps ++ [lastP L.l] }, 0⟩
/-- Create: the disk then, the error, and (at 0) the log. -/
def newLg (size : Int) : Lg := ⟨size, [⟨segName 0, 0, 0, false⟩], 0, 0, (headB 0).length, false⟩
def createD (d : Dsk) (size : Int) : Dsk × Int :=
  if size < 64 ∨ 16777216 < size then (d, 2) else
  if (d.read manifestS).2 = 0 then (d, 14) else
  if (d.read manifestS).2 ≠ 13 then (d, (d.read manifestS).2) else
  if (d.begun 0).2 ≠ 0 then d.begun 0 else (d.begun 0).1.install (newLg size).l
end Go.Proofs.YtjapijndljknnaaGreatDoor

/-
  Package bytes, walked: Uint, Int, and the library's Grow and Concat as they are called there.
-/
namespace Go.Proofs.YtjapijndljknnaaGreatDoor
open Go Go.RowKit Go.Sort
set_option maxRecDepth 100000
set_option maxHeartbeats 1600000

theorem u8_cell (c : UInt8) : (u8 c).oneCell' = true := rfl
theorem infoU8 : (Tryz.prog.info? 5).map (fun i => (i.zero, i.size, i.bytes)) = some (some (.int .u8 0), 1, 1) := by kernel_rfl

/-- What a maker of bytes hands back: bytes of its own, made behind w. -/
def NewB (w : World) (l : List UInt8) (e : Ending) (w' : World) : Prop := ∃ v', e = .returned v' ∧ Vec 1 w' v' l.length (l.map u8) ∧ Nw w w' ∧ ∀ g, v'.ownBlock = some g → w.heap.size ≤ g

theorem Grow_ok (w : World) (n : Nat) (hn : n ≤ 140737488355328) :
    Calls Tryz.prog 157 #[.slice none 0 0, .int .i64 n] w (NewB w []) := by
  obtain ⟨i0, hi, hz0, hz1, hz2⟩ := info_parts infoU8
  by_cases h0 : n = 0
  · subst h0
    go_enter Tryz.func157, Tryz.ntmps157
    go_wp2
    go_ret
    exact ⟨_, rfl, Vec.nil, Nw.refl _, fun g hg => by cases hg⟩
  · have hp : 0 < n := by omega
    have hr := Lib.run_append_nil_zeros (P := Tryz.prog) w 35 3 35 5 i0 (.int .u8 0) .i64 .i64 Tryz.underlying35 Tryz.underlying3 hi hz0 n hp (by omega) (by omega) (by rw [hz2]; omega)
    have HR := Lib.hid hr
    clear hr
    have hcap := grownCap_le_maxLen w n 0 5 (by unfold maxLen; omega)
    have hcge := grownCap_ge w n 0 5
    generalize grownCap w n 0 5 = cap at HR hcap hcge
    have HCP := Lib.hid (And.intro hcap hcge)
    clear hcap hcge
    generalize hW : w.drew.alloc (.cells (Builtin.zeroCells (Value.int .u8 0).cells n ++ Builtin.zeroCells (Value.int .u8 0).cells (cap - n)) 5) = w1 at HR
    have HW := Lib.hid hW
    clear hW
    go_enter Tryz.func157, Tryz.ntmps157
    go_wp2_with (at_builtin; refine Lib.wpList_append_run _ rfl _ _ 35 3 rfl _ _ rfl rfl _ _ HR.out ?_)
    go_wp2
    go_ret
    obtain ⟨h1, h2⟩ := HCP.out
    have hN : Nw w w1 := by rw [← HW.out]; exact (Nw.refl w).drew.alloc _
    have hb : w1.heap[w.heap.size]? = some (.cells (Builtin.zeroCells (Value.int .u8 0).cells n ++ Builtin.zeroCells (Value.int .u8 0).cells (cap - n)) 5 (0, 0)) := by
      rw [← HW.out]; exact heap_alloc_new w.drew _
    refine ⟨_, rfl, ⟨rfl, .inr ⟨w.heap.size, 0, cap, rfl, Nat.zero_le _, h1, lt_of_block hb, fun j hj => ?_, fun j hj => ?_, fun j h => absurd h (by simp)⟩⟩, hN, fun g hg => by cases hg; exact Nat.le_refl _⟩
    · have hsz : j < (Builtin.zeroCells (Value.int .u8 0).cells n ++ Builtin.zeroCells (Value.int .u8 0).cells (cap - n)).size := by
        simp only [Array.size_append, size_zeroCells]
        simp only [show (Value.int .u8 0).cells.size = 1 from rfl]
        omega
      rw [Nat.zero_add]
      simp only [World.cell?, hb]
      rw [Array.getElem?_eq_getElem hsz]; rfl
    · simp [World.frozen?, hb]

theorem and127 (m : Nat) (h : m < 18446744073709551616) : bits .and .u64 (m : Int) 127 = ((m % 128 : Nat) : Int) := by
  have := bits_mask .u64 64 (by decide) Go.wraps_u64 7 (by decide) (m : Int) (by omega) (by omega)
  rw [show ((2 : Int) ^ 7 - 1) = 127 by decide] at this
  rw [this]; omega
theorem or128 : ∀ q : Nat, q < 128 → bits .or .u8 (q : Int) 128 = ((q + 128 : Nat) : Int) := by
  have h : ∀ q : Fin 128, bits .or .u8 ((q.val : Nat) : Int) 128 = ((q.val + 128 : Nat) : Int) := by decide +kernel
  exact fun q hq => h ⟨q, hq⟩
theorem sliceTen (g : Nat) (k : Nat) (hk : k ≤ 9) (W : World) : (Instr.sliceAt 153 (.pointer (some ⟨g, 0, none⟩)) none (some (.int .i64 ((k : Int) + 1))) none).run Tryz.prog W = .ok (.slice (some ⟨g, 0, none⟩) (k + 1) 10) W := by
  have hal : Tryz.prog.arrayLen 153 = 10 := by kernel_rfl
  rw [run_sliceAt_array_h W 153 ⟨g, 0, none⟩ (by kernel_rfl) .i64 ((k : Int) + 1) (by omega) (by rw [hal]; omega)]
  go_simp

theorem Uint_ok {w : World} {v : Value} {l : List UInt8} (hv : Vec 1 w v l.length (l.map u8)) (n : Nat) (hn : n < 18446744073709551616) (hl : l.length ≤ 100000000) :
    Calls Tryz.prog 69 #[v, .int .u64 n] w fun e w' => ∃ v', e = .returned v' ∧ Vec 1 w' v' (l ++ uintB n).length ((l ++ uintB n).map u8) ∧ Only (fun k => v.ownBlock = some k) w w' ∧ (v'.ownBlock = v.ownBlock ∨ ∀ g, v'.ownBlock = some g → w.heap.size ≤ g) := by
  have HV := Lib.hid hv
  obtain ⟨sa, sc, rfl, hsl⟩ := hv.len
  clear hv hsl
  obtain ⟨i0, hi, hz0, hz1, hz2⟩ := info_parts infoU8
  have HI := Lib.hid hi
  have HZ0 := Lib.hid hz0
  have HZ1 := Lib.hid hz1
  have HZ2 := Lib.hid hz2
  clear hi hz0 hz1 hz2
  go_enter Tryz.func69, Tryz.ntmps69
  go_wp2
  go_loopw [1, 6] (fun n' k wr => ∃ (pre : List UInt8) (m : Nat) (cs : Array Value), n' = .int .u64 m ∧ k = .int .i64 pre.length ∧ pre ++ uintB m = uintB n ∧ m * 128 ^ pre.length < 2 ^ 64 ∧ pre.length ≤ 9 ∧ cs.size = 10 ∧
    (∀ j (h : j < pre.length), cs[j]? = some (Go.Proofs.YtjapijndljknnaaGreatDoor.u8 pre[j])) ∧ wr.heap[w.heap.size]? = some (.cells cs 153 (0, 0)) ∧ Nw w wr) (fun n' _ _ => (intOf n').toNat)
  case atStart => exact ⟨[], n, _, rfl, rfl, rfl, by simpa using hn, by simp, rfl, fun j h => absurd h (by simp), heap_alloc_new _ _, (Nw.refl w).alloc _⟩
  case round =>
    obtain ⟨pre, m, cs, rfl, rfl, hpre, hm, hk, hcs, hj, hb, hw⟩ := hrel
    have hmlt : m < 18446744073709551616 := by
      have : m * 1 ≤ m * 128 ^ pre.length := Nat.mul_le_mul_left _ (Nat.one_le_pow _ _ (by decide))
      omega
    have hand := and127 m hmlt
    have HP := Lib.hid hpre
    have HM := Lib.hid hm
    have HJ := Lib.hid hj
    have HW := Lib.hid hw
    have HC := Lib.hid hcs
    clear hpre hm hj hw
    generalize hpl : pre.length = pl at hk
    have HPL := Lib.hid hpl
    obtain ⟨u, hc⟩ : ∃ u, wr.cell? ⟨w.heap.size, pl, none⟩ = some u := by
      have hlt' : pl < cs.size := by omega
      simp [World.cell?, hb, hlt']
    have hf : wr.frozen? ⟨w.heap.size, pl, none⟩ = false := by simp [World.frozen?, hb]
    have HB := Lib.hid hb
    clear hb hcs hpl
    have hlt : m % 128 < 128 := by omega
    have hq : ((m % 128 : Nat) : Int) % 256 = ((m % 128 : Nat) : Int) := by omega
    by_cases hs : m < 128
    · have hdiv : (m : Int) / 128 = 0 := by omega
      have hmod : m % 128 = m := Nat.mod_eq_of_lt hs
      rw [hmod] at hand hq
      have hsl := sliceTen w.heap.size pl hk
      have HS : Hid (SrcV 1 (wr.setCell ⟨w.heap.size, pl, none⟩ (.int .u8 m)) (.slice (some ⟨w.heap.size, 0, none⟩) (pl + 1) 10) (pl + 1) ((pre ++ [UInt8.ofNat m]).map Go.Proofs.YtjapijndljknnaaGreatDoor.u8)) := by
        show SrcV _ _ _ _ _
        obtain rfl := HPL.out
        refine ⟨by simp, .inr ⟨w.heap.size, 0, 10, rfl, by omega, by decide, by simpa using lt_of_block HB.out, fun j hj' => ?_⟩⟩
        simp only [List.length_map, List.length_append, List.length_singleton] at hj'
        rw [Nat.zero_add]
        by_cases hjl : j < pre.length
        · have : (⟨w.heap.size, pre.length, none⟩ : Addr) ≠ ⟨w.heap.size, j, none⟩ := fun e => by injection e; omega
          rw [World.cell?_setCell_other (h := this)]
          simp only [World.cell?, HB.out, HJ.out j hjl, List.getElem_map, List.getElem_append_left hjl]
          rfl
        · obtain rfl : j = pre.length := by omega
          rw [World.cell?_setCell_same (h := hc)]
          simp [Go.Proofs.YtjapijndljknnaaGreatDoor.u8]
          omega
      have HV1 : Hid (Vec 1 (wr.setCell ⟨w.heap.size, pl, none⟩ (.int .u8 m)) (.slice sa l.length sc) l.length (l.map Go.Proofs.YtjapijndljknnaaGreatDoor.u8)) :=
        Lib.hid (HV.out.nw (Only.setCell (S := fun _ => False) HW.out (fun h => absurd h (by simp)) _))
      go_wp2_with (at_builtin; refine wpList_append_vec rfl _ _ 35 rfl 5 i0 (.int .u8 0) 1 1 Tryz.underlying35 HI.out HZ0.out HZ1.out HZ2.out rfl (by decide) rfl rfl HV1.out HS.out ?c1 ?c2 ?c3 ?_)
      case c1 => exact fun u hu => by obtain ⟨y, _, rfl⟩ := List.mem_map.1 hu; exact u8_cell y
      case c2 => unfold maxLen; omega
      case c3 => omega
      intro v' w2 h1 h2 h3
      have H1 := Lib.hid h1
      have H2 := Lib.hid h2
      have H3 := Lib.hid h3
      clear h1 h2 h3
      go_wp2
      go_ret
      have e : l ++ uintB n = l ++ (pre ++ [UInt8.ofNat m]) := by rw [← HP.out, uintB_small hs]
      have hw1 : Nw w (wr.setCell ⟨w.heap.size, pl, none⟩ (.int .u8 m)) := Only.setCell (S := fun _ => False) HW.out (fun h => absurd h (by simp)) _
      refine ⟨v', rfl, ?_, hw1.only.trans' H2.out (fun k _ hk => hk), H3.out.imp id (fun h g hg => by have := h g hg; have := hw1.size; simp only [World.size_setCell] at *; omega)⟩
      have := H1.out
      rw [e, List.map_append, List.map_append (l₂ := [UInt8.ofNat m]), List.map_singleton, show (l ++ (pre ++ [UInt8.ofNat m])).length = l.length + (pl + 1) by simp [← HPL.out]]
      exact this
    · have hne : ((m : Int) / 128 == 0) = false := by simp; omega
      have hor := or128 (m % 128) hlt
      have c1 : (wr.setCell ⟨w.heap.size, pl, none⟩ (.int .u8 ((m % 128 : Nat) : Int))).cell? ⟨w.heap.size, pl, none⟩ = some (.int .u8 ((m % 128 : Nat) : Int)) := World.cell?_setCell_same _ _ _ hc
      have f1 : (wr.setCell ⟨w.heap.size, pl, none⟩ (.int .u8 ((m % 128 : Nat) : Int))).frozen? ⟨w.heap.size, pl, none⟩ = false := by rw [World.frozen?_setCell]; exact hf
      generalize hq0 : m % 128 = q at *
      have HQ0 := Lib.hid hq0
      clear hq0 hlt
      go_wp2
      have hmq : m % 128 = q := HQ0.out
      have hw1 : Nw w ((wr.setCell ⟨w.heap.size, pl, none⟩ (.int .u8 (q : Int))).setCell ⟨w.heap.size, pl, none⟩ (.int .u8 ((q + 128 : Nat) : Int))) :=
        Only.setCell (S := fun _ => False) (Only.setCell (S := fun _ => False) HW.out (fun h => absurd h (by simp)) _) (fun h => absurd h (by simp)) _
      obtain rfl := HPL.out
      have h64 : m * 128 ^ pre.length < 2 ^ 64 := HM.out
      have hle : pre.length + 1 ≤ 9 := by
        refine Nat.lt_of_not_le fun h9 => ?_
        have e9 : pre.length = 9 := by omega
        rw [e9] at h64
        have : 128 * 128 ^ 9 ≤ m * 128 ^ 9 := Nat.mul_le_mul_right _ (by omega)
        have e2 : (2 : Nat) ^ 64 < 128 * 128 ^ 9 := by decide
        omega
      have hb2 := heap_setCell_at (heap_setCell_at HB.out pre.length (.int .u8 (q : Int))) pre.length (.int .u8 ((q + 128 : Nat) : Int))
      have hq7 : (UInt8.ofNat (q + 128)).toNat = q + 128 := by simp; omega
      have hcs : cs.size = 10 := HC.out
      go_roundw
      case rel =>
        refine ⟨pre ++ [UInt8.ofNat (q + 128)], m / 128, _, ?_, ?_, ?_, ?_, ?_, ?_, ?_, hb2, hw1⟩
        · simp
        · simp
        · rw [List.append_assoc, List.singleton_append, ← HP.out, uintB_big hs, hmq]
        · rw [List.length_append, List.length_singleton, Nat.pow_succ]
          refine Nat.lt_of_le_of_lt ?_ h64
          rw [Nat.mul_comm (128 ^ pre.length) 128, ← Nat.mul_assoc]
          exact Nat.mul_le_mul_right _ (by omega)
        · simpa using hle
        · simp [hcs]
        · intro j hj
          simp only [List.length_append, List.length_singleton] at hj
          by_cases hjl : j < pre.length
          · rw [Array.getElem?_setIfInBounds_ne (by omega), Array.getElem?_setIfInBounds_ne (by omega), HJ.out j hjl, List.getElem_append_left hjl]
          · obtain rfl : j = pre.length := by omega
            rw [Array.getElem?_setIfInBounds_self_of_lt (by simp; omega)]
            simp only [List.getElem_append_right (Nat.le_refl _), Nat.sub_self, List.getElem_singleton, Go.Proofs.YtjapijndljknnaaGreatDoor.u8, hq7]
      case measure =>
        simp only [intOf]
        have e1 : ((m : Int) / 128).toNat = m / 128 := by omega
        simp [e1]
        omega
end Go.Proofs.YtjapijndljknnaaGreatDoor

/-
  Package bytes, walked: folded, half, the sum.
-/
namespace Go.Proofs.YtjapijndljknnaaGreatDoor
open Go Go.RowKit Go.Sort
set_option maxRecDepth 100000
set_option maxHeartbeats 1600000

theorem xor_u32 (a b : Nat) (ha : a < 4294967296) (hb : b < 4294967296) : bits .xor .u32 (a : Int) (b : Int) = ((a ^^^ b : Nat) : Int) := by
  show IntKind.u32.wrap ((BitVec.ofInt 32 (a : Int) ^^^ BitVec.ofInt 32 (b : Int)).toNat : Int) = _
  have h1 : (BitVec.ofInt 32 (a : Int)).toNat = a := by rw [BitVec.ofInt_natCast, BitVec.toNat_ofNat]; exact Nat.mod_eq_of_lt (by omega)
  have h2 : (BitVec.ofInt 32 (b : Int)).toNat = b := by rw [BitVec.ofInt_natCast, BitVec.toNat_ofNat]; exact Nat.mod_eq_of_lt (by omega)
  have h3 : a ^^^ b < 4294967296 := Nat.xor_lt_two_pow (n := 32) ha hb
  rw [BitVec.toNat_xor, h1, h2]
  exact wraps_u32 _ (by omega) (by omega)
theorem and1_u32 (a : Nat) (ha : a < 4294967296) : bits .and .u32 (a : Int) 1 = ((a % 2 : Nat) : Int) := by
  have := bits_mask .u32 32 (by decide) wraps_u32 1 (by decide) (a : Int) (by omega) (by omega)
  rw [show ((2 : Int) ^ 1 - 1) = 1 by decide] at this
  rw [this]; omega

theorem folded_ok (n : Int) (h0 : -9223372036854775808 ≤ n) (h1 : n ≤ 9223372036854775807) (w : World) :
    Calls Tryz.prog 176 #[.int .i64 n] w fun e w' => e = .returned (.int .u64 (zig n)) ∧ w = w' := by
  by_cases hn : 0 ≤ n
  · have e3 := bits_xor_u64_nat 0 (2 * n.toNat) (by omega) (by omega)
    rw [Nat.zero_xor, show ((2 * n.toNat : Nat) : Int) = n * 2 by omega] at e3
    have e4 : ((zig n : Nat) : Int) = n * 2 := by unfold zig; rw [if_pos hn]; omega
    have E := Lib.hid (e3.trans e4.symm)
    clear e3 e4
    have e1 : n / 9223372036854775808 = 0 := by omega
    go_enter Tryz.func176, Tryz.ntmps176
    go_wp2
    go_ret
    refine ⟨ret1 ?_, rfl⟩
    have := E.out
    simpa [e1] using this
  · have e2 : IntKind.u64.wrap (IntKind.u64.wrap n * 2) = (((2 * n + 18446744073709551616).toNat : Nat) : Int) := by rw [IntKind.wrap_u64, IntKind.wrap_u64]; omega
    have e0 : IntKind.u64.wrap (-1) = ((2 ^ 64 - 1 : Nat) : Int) := by decide
    have e3 := bits_xor_u64_nat (2 ^ 64 - 1) (2 * n + 18446744073709551616).toNat (by decide) (by omega)
    rw [Lib.xor_ones64 _ (by omega), ← e2, ← e0] at e3
    have e4 : zig n = 2 ^ 64 - 1 - (2 * n + 18446744073709551616).toNat := by unfold zig; rw [if_neg hn]; omega
    rw [← e4] at e3
    have E := Lib.hid e3
    clear e3 e4 e2 e0
    have e1 : n / 9223372036854775808 = -1 := by omega
    go_enter Tryz.func176, Tryz.ntmps176
    go_wp2
    go_ret
    refine ⟨ret1 ?_, rfl⟩
    have := E.out
    simpa [e1] using this

def halfK (r k : Nat) : Nat := (List.range k).foldl (fun o k => bitStep k r o) (r / 16)
theorem halfK_succ (r k : Nat) : halfK r (k + 1) = bitStep k r (halfK r k) := by simp [halfK, List.range_succ]
theorem halfK_lt {r : Nat} (h : r < 4294967296) : ∀ k, halfK r k < 4294967296
  | 0 => by simp only [halfK, List.range_zero, List.foldl_nil]; omega
  | k + 1 => by rw [halfK_succ]; exact bitStep_lt (halfK_lt h k)
theorem halfK_four (r : Nat) : halfK r 4 = halfN r := by
  simp only [halfK_succ, halfN]; rfl

theorem half_ok (r : Nat) (h : r < 4294967296) (w : World) :
    Calls Tryz.prog 158 #[.int .u32 r] w fun e w' => e = .returned (.int .u32 (halfN r)) ∧ w = w' := by
  go_enter Tryz.func158, Tryz.ntmps158
  go_wp2
  go_loopw [3, 7] (fun o k wr => ∃ i : Nat, i ≤ 4 ∧ k = .int .i64 i ∧ o = .int .u32 (halfK r i) ∧ w = wr) (fun _ k _ => 4 - (intOf k).toNat)
  case atStart => exact ⟨0, by omega, rfl, by simp [halfK], rfl⟩
  case round =>
    obtain ⟨i, hi, rfl, rfl, rfl⟩ := hrel
    have hlt := halfK_lt h i
    have hc : i = 0 ∨ i = 1 ∨ i = 2 ∨ i = 3 ∨ i = 4 := by omega
    rcases hc with rfl | rfl | rfl | rfl | rfl
    · have hs := halfK_succ r 0
      generalize halfK r 0 = o at hlt hs ⊢
      have ha0 := and1_u32 (r) (by omega)
      have hx := xor_u32 o 498536548 hlt (by decide)
      rcases Nat.mod_two_eq_zero_or_one (r) with hb | hb
      · have hs' : halfK r 1 = o := by rw [hs]; unfold bitStep; rw [if_neg (by simp; omega)]
        have ha : bits .and .u32 (r : Int) 1 = 0 := by rw [hb] at ha0; simpa using ha0
        clear ha0
        clear hs hb hx
        go_wp2
        go_roundw
        case rel => exact ⟨1, by omega, rfl, by rw [hs'], by trivial⟩
        case measure => simp [intOf]
      · have hs' : halfK r 1 = o ^^^ 498536548 := by rw [hs]; unfold bitStep; rw [if_pos (by simp; omega)]
        have ha : bits .and .u32 (r : Int) 1 = 1 := by rw [hb] at ha0; simpa using ha0
        clear ha0
        clear hs hb
        go_wp2
        go_roundw
        case rel => exact ⟨1, by omega, rfl, by rw [hs', ← hx]; rfl, by trivial⟩
        case measure => simp [intOf]
    · have hs := halfK_succ r 1
      generalize halfK r 1 = o at hlt hs ⊢
      have ha0 := and1_u32 (r / 2) (by omega)
      have hx := xor_u32 o 997073096 hlt (by decide)
      rcases Nat.mod_two_eq_zero_or_one (r / 2) with hb | hb
      · have hs' : halfK r 2 = o := by rw [hs]; unfold bitStep; rw [if_neg (by simp; omega)]
        have ha : bits .and .u32 ((r : Int) / 2) 1 = 0 := by rw [hb] at ha0; simpa using ha0
        clear ha0
        clear hs hb hx
        go_wp2
        go_roundw
        case rel => exact ⟨2, by omega, rfl, by rw [hs'], by trivial⟩
        case measure => simp [intOf]
      · have hs' : halfK r 2 = o ^^^ 997073096 := by rw [hs]; unfold bitStep; rw [if_pos (by simp; omega)]
        have ha : bits .and .u32 ((r : Int) / 2) 1 = 1 := by rw [hb] at ha0; simpa using ha0
        clear ha0
        clear hs hb
        go_wp2
        go_roundw
        case rel => exact ⟨2, by omega, rfl, by rw [hs', ← hx]; rfl, by trivial⟩
        case measure => simp [intOf]
    · have hs := halfK_succ r 2
      generalize halfK r 2 = o at hlt hs ⊢
      have ha0 := and1_u32 (r / 4) (by omega)
      have hx := xor_u32 o 1994146192 hlt (by decide)
      rcases Nat.mod_two_eq_zero_or_one (r / 4) with hb | hb
      · have hs' : halfK r 3 = o := by rw [hs]; unfold bitStep; rw [if_neg (by simp; omega)]
        have ha : bits .and .u32 ((r : Int) / 4) 1 = 0 := by rw [hb] at ha0; simpa using ha0
        clear ha0
        clear hs hb hx
        go_wp2
        go_roundw
        case rel => exact ⟨3, by omega, rfl, by rw [hs'], by trivial⟩
        case measure => simp [intOf]
      · have hs' : halfK r 3 = o ^^^ 1994146192 := by rw [hs]; unfold bitStep; rw [if_pos (by simp; omega)]
        have ha : bits .and .u32 ((r : Int) / 4) 1 = 1 := by rw [hb] at ha0; simpa using ha0
        clear ha0
        clear hs hb
        go_wp2
        go_roundw
        case rel => exact ⟨3, by omega, rfl, by rw [hs', ← hx]; rfl, by trivial⟩
        case measure => simp [intOf]
    · have hs := halfK_succ r 3
      generalize halfK r 3 = o at hlt hs ⊢
      have ha0 := and1_u32 (r / 8) (by omega)
      have hx := xor_u32 o 3988292384 hlt (by decide)
      rcases Nat.mod_two_eq_zero_or_one (r / 8) with hb | hb
      · have hs' : halfK r 4 = o := by rw [hs]; unfold bitStep; rw [if_neg (by simp; omega)]
        have ha : bits .and .u32 ((r : Int) / 8) 1 = 0 := by rw [hb] at ha0; simpa using ha0
        clear ha0
        clear hs hb hx
        go_wp2
        go_roundw
        case rel => exact ⟨4, by omega, rfl, by rw [hs'], by trivial⟩
        case measure => simp [intOf]
      · have hs' : halfK r 4 = o ^^^ 3988292384 := by rw [hs]; unfold bitStep; rw [if_pos (by simp; omega)]
        have ha : bits .and .u32 ((r : Int) / 8) 1 = 1 := by rw [hb] at ha0; simpa using ha0
        clear ha0
        clear hs hb
        go_wp2
        go_roundw
        case rel => exact ⟨4, by omega, rfl, by rw [hs', ← hx]; rfl, by trivial⟩
        case measure => simp [intOf]
    · rw [halfK_four]
      go_wp2
      go_ret
      exact ⟨rfl, rfl⟩

theorem Crc_ok {w : World} {v : Value} {l : List UInt8} (hv : Bs w v l) :
    Calls Tryz.prog 121 #[v] w fun e w' => e = .returned (.int .u32 (crcN l)) ∧ w = w' := by
  obtain ⟨a, cap, rfl, h1, h2, hel⟩ := hv.elems
  have hmax : l.length ≤ 9223372036854775807 := by unfold maxLen at h2; omega
  clear hv h1 h2
  have HE := Lib.hid hel
  clear hel
  go_enter Tryz.func121, Tryz.ntmps121
  go_wp2
  go_loopw [3, 8] (fun r k wr => ∃ i : Nat, i ≤ l.length ∧ k = .int .i64 i ∧ r = .int .u32 (crcGo 4294967295 (l.take i)) ∧ w = wr) (fun _ k _ => l.length - (intOf k).toNat)
  case atStart => exact ⟨0, by omega, rfl, rfl, rfl⟩
  case round =>
    obtain ⟨i, hi, rfl, rfl, rfl⟩ := hrel
    have hr := crcGo_lt (l.take i) 4294967295 (by decide)
    by_cases hlt : i < l.length
    · obtain ⟨g, o, rfl, hg, hcell⟩ := HE.out i hlt
      have hn : crcGo 4294967295 (l.take (i + 1)) = halfN (halfN (crcGo 4294967295 (l.take i) ^^^ l[i].toNat)) := by
        unfold crcGo
        rw [List.take_succ_eq_append_getElem hlt, List.foldl_append]; rfl
      have HN := Lib.hid hn
      clear hn
      have hc8 : l[i].toNat < 256 := l[i].toNat_lt
      have hx := xor_u32 (crcGo 4294967295 (l.take i)) l[i].toNat hr (by omega)
      have hxl : crcGo 4294967295 (l.take i) ^^^ l[i].toNat < 4294967296 := Nat.xor_lt_two_pow (n := 32) hr (by omega)
      have hcell' : w.cell? ⟨g, o + i, none⟩ = some (.int .u8 (l[i].toNat : Int)) := hcell
      have hid : ((l[i].toNat : Nat) : Int) % 4294967296 = (l[i].toNat : Int) := by omega
      generalize crcGo 4294967295 (l.take i) ^^^ l[i].toNat = x at hx hxl HN
      generalize crcGo 4294967295 (l.take i) = r at hx hr ⊢
      generalize l[i].toNat = c at hx hcell' hid hc8
      clear hcell
      go_wp2_with fail
      refine (half_ok x hxl w).mono ?_
      rintro e w1 ⟨rfl, rfl⟩
      go_wp2_with fail
      refine (half_ok (halfN x) (halfN_lt hxl) w).mono ?_
      rintro e w1 ⟨rfl, rfl⟩
      go_wp2
      go_roundw
      case rel => exact ⟨i + 1, by omega, by go_num, by rw [HN.out], by trivial⟩
      case measure => simp [intOf]; omega
    · obtain rfl : i = l.length := by omega
      rw [List.take_length] at hr ⊢
      have e : (4294967295 : Int) - (crcGo 4294967295 l : Int) = (crcN l : Int) := by unfold crcN; omega
      go_wp2
      go_ret
      exact ⟨rfl, rfl⟩
end Go.Proofs.YtjapijndljknnaaGreatDoor
