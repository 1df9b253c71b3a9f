/-
  Texts merged by a program of this claim's: Frames, LogUse, ToldA, SizePlain, PiecesPlain.
-/
import Derived.Test.YtjapijndljknnaaGreatDoorM27
import Derived.Test.YtjapijndljknnaaGreatDoorM14
import Derived.Test.YtjapijndljknnaaGreatDoorM12
import Derived.Test.YtjapijndljknnaaGreatDoorM26
import Derived.Test.YtjapijndljknnaaGreatDoorM23
import Derived.Test.YtjapijndljknnaaGreatDoorM25
import Derived.Test.YtjapijndljknnaaGreatDoorM13
/-
  Arguments of chapter 05's laws, opened: slices of frames of events, pieces, bools.
-/
namespace Go.Proofs.YtjapijndljknnaaGreatDoor
open Go Go.ChangeShapes Go.WideShapes Go.ChangeAt Go.RowKit Go.Deep
set_option maxRecDepth 100000

theorem flatN_at {α : Type} {k : Nat} {f : α → List Value} : ∀ (l : List α), (∀ x ∈ l, (f x).length = k) → ∀ (i : Nat) (h : i < l.length) (j : Nat), j < k → (l.flatMap f)[i * k + j]? = (f l[i])[j]?
  | [], _, i, h, _, _ => absurd h (by simp)
  | x :: r, hf, 0, _, j, hj => by
    rw [List.flatMap_cons, Nat.zero_mul, Nat.zero_add, List.getElem?_append_left (by rw [hf x (by simp)]; exact hj)]
    rfl
  | x :: r, hf, i + 1, h, j, hj => by
    have hx := hf x (by simp)
    have e : (i + 1) * k + j - k = i * k + j := by rw [Nat.succ_mul]; omega
    have hle : k ≤ (i + 1) * k + j := by rw [Nat.succ_mul]; omega
    rw [List.flatMap_cons, List.getElem?_append_right (by rw [hx]; exact hle), hx, e]
    exact flatN_at r (fun y hy => hf y (by simp [hy])) i (by simpa using h) j hj
theorem flatN_len {α : Type} {k : Nat} {f : α → List Value} : ∀ (l : List α), (∀ x ∈ l, (f x).length = k) → (l.flatMap f).length = l.length * k
  | [], _ => by simp
  | x :: r, hf => by
    rw [List.flatMap_cons, List.length_append, hf x (by simp), flatN_len r (fun y hy => hf y (by simp [hy])), List.length_cons, Nat.succ_mul, Nat.add_comm]
/-- Elements that were opened, as cells one behind the other. -/
theorem RdK.src {α β : Type} {k : Nat} (hk : 0 < k) {R : List Value → α → Prop} {w : World} {v : Value} {l : List α} (g : α → β) (f : β → List Value) (h : RdK k R w v l) (hR : ∀ cs x, R cs x → cs = f (g x)) (hf : ∀ y, (f y).length = k) :
    SrcV k w v (l.map g).length ((l.map g).flatMap f) := by
  refine ⟨flatN_len _ (fun y _ => hf y), ?_⟩
  rcases h with ⟨a, rfl, rfl⟩ | ⟨b, o, cap, rfl, h1, h2, hg, h3⟩
  · exact .inl ⟨a, rfl, rfl⟩
  · refine .inr ⟨b, o, cap, by simp, by simpa using h1, h2, hg, fun j hj => ?_⟩
    have hl := flatN_len (l.map g) (f := f) (k := k) (fun y _ => hf y)
    have hj' : j < l.length * k := by rw [hl] at hj; simpa using hj
    have hi : j / k < l.length := Nat.div_lt_of_lt_mul (by rw [Nat.mul_comm]; exact hj')
    have hm : j % k < k := Nat.mod_lt _ hk
    obtain ⟨cs, hck, hc, hr⟩ := h3 (j / k) hi
    obtain rfl := hR _ _ hr
    have e : j / k * k + j % k = j := by rw [Nat.mul_comm]; exact Nat.div_add_mod j k
    have e2 : o + j / k * k + j % k = o + j := by omega
    have := hc (j % k) (by rw [hf]; exact hm)
    rw [e2] at this
    rw [this]
    have hat := flatN_at (l.map g) (f := f) (k := k) (fun y _ => hf y) (j / k) (by simpa using hi) (j % k) hm
    rw [e, List.getElem?_eq_getElem hj] at hat
    rw [List.getElem?_eq_getElem (by rw [hf]; exact hm)] at hat
    simp only [List.getElem_map, Option.some.injEq] at hat
    rw [hat]
theorem RdK.mem {α : Type} {k : Nat} {R : List Value → α → Prop} {w : World} {v : Value} {l : List α} (h : RdK k R w v l) : ∀ x ∈ l, ∃ cs, R cs x := by
  intro x hx
  rcases h with ⟨_, _, rfl⟩ | ⟨g, o, cap, _, _, _, _, h3⟩
  · cases hx
  · obtain ⟨i, hi, rfl⟩ := List.getElem_of_mem hx
    obtain ⟨cs, -, -, hr⟩ := h3 i hi
    exact ⟨cs, hr⟩

/-- An event's five cells. -/
def isEv (cs : List Value) (e : Ev) : Prop := cs = evV e ∧ e.Ok
/-- A piece's four cells. -/
def isPc (cs : List Value) (q : Pc) : Prop := cs = pcV q ∧ q.Ok
def isEvs (W : World) (cs : List Value) (l : List Ev) : Prop := ∃ v, cs = [v] ∧ Evs W v l
section
variable {H : Type} {enc : TypeId × Value → H} {W : World}
theorem Opener.ev : Opener enc Tryz.prog W 73 isEv :=
  (Opener.struct5 Tryz.underlying73 (by kernel_rfl) (by kernel_rfl) (Opener.i64 Tryz.underlying3) (Opener.u8 Tryz.underlying71) (Opener.i64 Tryz.underlying3) (Opener.i64 Tryz.underlying3) (Opener.i64 Tryz.underlying3)).imp
    fun cs ⟨t, o, b, a, c⟩ ⟨v0, v1, v2, v3, v4, hc, ⟨h0, p0⟩, h1, ⟨h2, p2⟩, ⟨h3, p3⟩, ⟨h4, p4⟩⟩ => by
      have e1 : v1 = Go.Proofs.YtjapijndljknnaaGreatDoor.u8 o := by simpa [isU8] using h1
      simp only [List.cons.injEq, and_true] at h0 h2 h3 h4
      subst h0 h2 h3 h4 e1
      exact ⟨⟨t, o, b, a, c⟩, by rw [hc]; rfl, ⟨p0, p2, p3, p4⟩⟩
theorem RdK.evs {w : World} {v : Value} {l : List Ev} (h : RdK 5 isEv w v l) : Evs w v l :=
  ⟨by simpa using h.src (by omega) id evV (fun _ _ h => h.1) (fun _ => rfl), fun x hx => by obtain ⟨cs, -, ho⟩ := h.mem x hx; exact ho⟩
theorem RdK.pcs {w : World} {v : Value} {l : List Pc} (h : RdK 4 isPc w v l) : Pcs w v l :=
  ⟨by simpa using h.src (by omega) id pcV (fun _ _ h => h.1) (fun _ => rfl), fun x hx => by obtain ⟨cs, -, ho⟩ := h.mem x hx; exact ho⟩
theorem Opener.evs : Opener enc Tryz.prog W 25 (isEvs W) :=
  (Opener.slice (k := 5) Tryz.underlying25 (by kernel_rfl) (by omega) Opener.ev).imp fun _ l ⟨v, hv, h⟩ => ⟨l, v, hv, h.evs⟩
theorem Opener.pc : Opener enc Tryz.prog W 32 isPc :=
  (Opener.struct4 Tryz.underlying32 (by kernel_rfl) (by kernel_rfl) (Opener.str Tryz.underlying9) (Opener.i64 Tryz.underlying3) (Opener.i64 Tryz.underlying3) (Opener.bool Tryz.underlying4)).imp
    fun cs ⟨n, f, c, d⟩ ⟨v0, v1, v2, v3, hc, ⟨h0, p0⟩, ⟨h1, p1⟩, ⟨h2, p2⟩, h3⟩ => by
      have e3 : v3 = .bool d := by simpa [isBool] using h3
      simp only [List.cons.injEq, and_true] at h0 h1 h2
      subst h0 h1 h2 e3
      exact ⟨⟨n, f, c, d⟩, by rw [hc]; rfl, ⟨p0, p1, p2⟩⟩
end
end Go.Proofs.YtjapijndljknnaaGreatDoor

/-
  A log in a statement's hands: Append and Sync behind few frames; a map of the statement's beside it.
-/
namespace Go.Proofs.YtjapijndljknnaaGreatDoor
open Go Go.RowKit Go.Sort
set_option maxRecDepth 100000
section
variable {X Y : Nat → Prop} {w0 w w' : World} {p b : Nat} {d d' : Dsk} {L : Lg}
theorem pcs_at {l : List Pc} {a : Option Addr} {n cap : Nat} (h : Pcs w (.slice a n cap) l) (hn : l.length = n) {k : Nat} (hk : k < n) :
    ∃ g o, a = some ⟨g, o, none⟩ ∧ g < w.heap.size ∧ w.cell? ⟨g, o + k * 4, none⟩ = some (.string ⟨(l[k]'(by omega)).name.toArray⟩) ∧ w.cell? ⟨g, o + k * 4 + 1, none⟩ = some (.int .i64 (l[k]'(by omega)).first) ∧
      w.cell? ⟨g, o + k * 4 + 2, none⟩ = some (.int .i64 (l[k]'(by omega)).count) ∧ w.cell? ⟨g, o + k * 4 + 3, none⟩ = some (.bool (l[k]'(by omega)).dense) := by
  obtain ⟨a', cap', hv, -, -, hel⟩ := h.elem
  injection hv with e1 e2 e3
  subst e1
  exact hel k (by omega)
theorem Firsts.apart {m : Nat} (h : Firsts w m) {g i : Nat} {v : Value} (hc : w.cell? ⟨g, i, none⟩ = some v) : g ≠ m := by
  rintro rfl
  obtain ⟨E, ck, hm, -⟩ := h
  unfold World.cell? at hc
  rw [show (⟨g, i, none⟩ : Addr).block = g from rfl, hm] at hc
  cases hc
theorem Ak.call {size : Int} {c : Nat} (h : HasL X w0 w p b d L) (hs : Ak size c d L) (hc : c ≤ 60) (hz : in64 size) (ht : Tab w0) {v : Value} {es : List Ev} (hv : Evs w v es) :
    Calls Tryz.prog 31 #[.pointer (some ⟨p, 0, none⟩), v] w (DidL X w0 w p b (L.add d es).d (L.add d es).L (.int .i64 (L.add d es).e)) := by
  obtain ⟨f1, f2, f3, f4, f5, f6, f7, f8, f9⟩ := hs.facts hc
  exact LAppend_ok h ht ⟨by omega, by omega⟩ f7 (by omega) (by rw [hs.size]; exact hz) hv h.pok
/-- Blocks beside a log are written, or made. -/
theorem HasL.grow {Z Y : Nat → Prop} (h : HasL X w0 w p b d L) (ho : Only Z w w') (hz : ∀ k, Z k → k < w.heap.size → X k ∧ w0.heap.size ≤ k) (hy : ∀ k, Y k → X k ∨ w.heap.size ≤ k ∧ k < w'.heap.size) : HasL Y w0 w' p b d L := by
  obtain ⟨g, o, cap, h⟩ := h
  have hpl := lt_of_block h.mem.blk
  have hgl := h.mem.last.2.2.2.2.1
  refine ⟨g, o, cap, h.mem.kept (Y := fun k => k = p ∨ k = g) ⟨ho.size, fun j hj hl => ho.block j hl fun e => ?_⟩ (.inl rfl) (.inr rfl), h.disk.put ho (fun k hk hl => ⟨.inl (hz k hk hl).1, (hz k hk hl).2⟩) (fun k hk => ?_), h.p0, fun hc => ?_, h.g0, h.g1.1, fun hc => ?_⟩
  · rcases hj with rfl | rfl
    · exact h.p1 (hz _ e hl).1
    · exact h.g1.2 (hz _ e hl).1
  · rcases hk with hk | hk
    · exact (hy k hk).imp .inl id
    · exact .inl (.inr hk)
  · rcases hy p hc with e | e
    · exact h.p1 e
    · omega
  · rcases hy g hc with e | e
    · exact h.g1.2 e
    · omega
theorem Vec.kept {k : Nat} {v : Value} {n : Nat} {cs : List Value} (h : Vec k w v n cs) (hk : Kept Y w w') (hx : ∀ g, v.ownBlock = some g → Y g) : Vec k w' v n cs :=
  h.keep hk.1 fun g hg => hk.2 g (hx g hg) (h.lt g hg)
theorem Firsts.kept {m : Nat} (h : Firsts w m) (hk : Kept Y w w') (hm : Y m) : Firsts w' m := by
  obtain ⟨l, c, h1, h2⟩ := h
  exact ⟨l, c, (hk.2 m hm (lt_of_block h1)).trans h1, h2⟩
end
end Go.Proofs.YtjapijndljknnaaGreatDoor

/-
  The law's 'told', walked: the events that the files of a manifest tell.
-/
namespace Go.Proofs.YtjapijndljknnaaGreatDoor
open Go Go.RowKit Go.Sort
set_option maxRecDepth 100000
set_option maxHeartbeats 1600000

theorem read_len {d : Dsk} (ok : d.Ok) (n : Str) : (d.read n).1.length ≤ 16777216 := by
  unfold Dsk.read
  split
  · simp
  · split
    · simp
    · rename_i f hf
      exact bytes_le ok hf
end Go.Proofs.YtjapijndljknnaaGreatDoor

/-
  When a piece is sealed, in plain words: the open piece's file has as many bytes as the log says.
-/
namespace Go.Proofs.YtjapijndljknnaaGreatDoor
open Go
structure Sk (size : Int) (c : Nat) (d : Dsk) (L : Lg) (p : Pc) (last : Nat) : Prop where
  inv : ∃ A, LInv d L A p ∧ A.length ≤ c
  most : d.most = 1048576
  used : usedF d.files ≤ 40 + c * 7466
  n : L.n ≤ 30 * c
  bytes : L.bytes ≤ 18 + c * 1239
  sz : L.size = size
  file : (fileOf d.files p.name).bytes.length = L.bytes
  less : p.first < L.n → (L.bytes : Int) < size + last
  last_ : last ≤ L.bytes
  empty : L.n ≤ p.first → L.bytes ≤ 18
theorem Sk.ak {size : Int} {c : Nat} {d : Dsk} {L : Lg} {p : Pc} {last : Nat} (h : Sk size c d L p last) : Ak size c d L := by
  obtain ⟨A, h1, h2⟩ := h.inv
  exact ⟨⟨A, p, h1, h2⟩, h.most, h.used, h.n, h.bytes, h.sz⟩
theorem Sk.new {size : Int} (hs : 64 ≤ size) (hs2 : size ≤ 16777216) : ∃ d, createD (newDsk 1048576) size = (d, 0) ∧ Sk size 0 d (newLg size) ⟨segName 0, 0, 0, false⟩ 0 := by
  obtain ⟨F, h1, h2, h3, h4⟩ := create_calm' 1048576 (by omega) hs hs2
  have hb : (headB 0).length ≤ 18 := headB_len (n := 0) (by omega)
  exact ⟨_, h1, ⟨_, h2, by simp⟩, rfl, by simpa using h3, by simp [newLg], by simpa [newLg] using hb, rfl, by simp only [h4]; simp [fileOf, getF, newLg], by simp [newLg], by omega, fun _ => by simpa [newLg] using hb⟩
section
variable {size : Int} {c : Nat} {d : Dsk} {L : Lg} {p : Pc} {last : Nat}
/-- The frame goes into the open piece. -/
structure Stay (d : Dsk) (L : Lg) (p : Pc) (es : List Ev) (d' : Dsk) (L' : Lg) : Prop where
  not : ¬ (p.first < L.n ∧ L.size ≤ L.bytes)
  l : L'.l = L.l
  file : (fileOf d'.files p.name).bytes.length = L.bytes + (frmB es).length
/-- The open piece is sealed, and another one has the frame. -/
structure More (d : Dsk) (L : Lg) (p : Pc) (es : List Ev) (d' : Dsk) (L' : Lg) (p' : Pc) : Prop where
  sealed_ : p.first < L.n ∧ L.size ≤ L.bytes
  len : L'.l.length = L.l.length + 1
  other : p'.name ≠ p.name
  first : p'.first = L.n
  file : (fileOf d'.files p.name).bytes.length = L.bytes
  synced : (fileOf d'.files p.name).synced = L.bytes
  file' : (fileOf d'.files p'.name).bytes.length = (headB L.n).length + (frmB es).length
theorem frmB_pos (es : List Ev) : 0 < (frmB es).length := by
  have : frmB es = uintB (bodyB es).length ++ sealB sumB (bodyB es) := rfl
  rw [this, List.length_append]
  have := uintB_pos (bodyB es).length
  omega
theorem Sk.add (h : Sk size c d L p last) (hc : c < 60) (hs : 64 ≤ size) {es : List Ev} (h1 : es.length ≠ 0) (h2 : es.length ≤ 30) : ∃ d' L' p', L.add d es = ⟨d', L', 0⟩ ∧ Sk size (c + 1) d' L' p' (frmB es).length ∧ L'.n = L.n + es.length ∧
    ((p' = p ∧ Stay d L p es d' L') ∨ More d L p es d' L' p') := by
  obtain ⟨⟨A, hi, hA⟩, hm, hu, hn, hb, hsz, hfl, hle, hla, hem⟩ := h
  have ha0 := hi.acked0
  have ha1 := hi.acked1
  have hf := frm_le h2
  have hpos := frmB_pos es
  by_cases hst : p.first < L.n ∧ L.size ≤ L.bytes
  · obtain ⟨F, a1, a2, a3, a4⟩ := another_calm hi (by omega) hst.1 (by omega) (by rw [hm]; omega)
    obtain ⟨p1, p2, p3⟩ := put_calm a2 es (by simp only; rw [hm]; omega)
    have hh : (headB L.n).length ≤ 18 := headB_len (n := L.n) (by omega)
    have e := add_more hi h1 (by omega) hst (by rw [a1])
    rw [a1] at e
    have hne : segName L.n ≠ p.name := fun hc => hi.no_seg hst.1 (hc ▸ hi.mem)
    have hpm : ¬ p.name = manifestS := (okPiece_name hi.right.name).2.1
    have hsm : ¬ segName L.n = manifestS := (okPiece_name (segName_ok (n := L.n) (by omega))).2.1
    have f0 := a4 (segName L.n)
    rw [if_neg hsm, if_pos rfl] at f0
    have f1 := a4 p.name
    rw [if_neg hpm, if_neg (Ne.symm hne), if_pos rfl] at f1
    have k1 := fileOf_setF F (segName L.n) p.name ⟨(fileOf F (segName L.n)).bytes ++ frmB es, (fileOf F (segName L.n)).synced⟩
    rw [if_neg hne, f1] at k1
    have k2 := fileOf_setF F (segName L.n) (segName L.n) ⟨(fileOf F (segName L.n)).bytes ++ frmB es, (fileOf F (segName L.n)).synced⟩
    rw [if_pos rfl, f0] at k2
    simp only at k2
    refine ⟨_, _, _, e.trans p1, ⟨⟨_, p2, ?_⟩, hm, ?_, ?_, ?_, hsz, ?_, ?_, ?_, ?_⟩, rfl, .inr ⟨hst, ?_, hne, rfl, ?_, ?_, ?_⟩⟩
    · simp; omega
    · rw [p3]; simp only; omega
    · simp only; omega
    · simp only; omega
    · simp only [f0]; rw [k2]; simp
    · intro _; simp only; omega
    · simp only; omega
    · intro hc; simp only at hc; omega
    · simp only; rw [morePcs_eq hi, hi.l]; simp
    · simp only; rw [k1]; exact hfl
    · simp only; rw [k1]; exact hfl
    · simp only [f0]; rw [k2]; simp
  · obtain ⟨p1, p2, p3⟩ := put_calm hi es (by rw [hm]; omega)
    have k2 := fileOf_setF d.files p.name p.name ⟨(fileOf d.files p.name).bytes ++ frmB es, (fileOf d.files p.name).synced⟩
    rw [if_pos rfl] at k2
    have kl : (fileOf (setF d.files p.name ⟨(fileOf d.files p.name).bytes ++ frmB es, (fileOf d.files p.name).synced⟩) p.name).bytes.length = L.bytes + (frmB es).length := by
      rw [k2]; simp [hfl]
    refine ⟨_, _, _, (add_stay hi h1 (by omega) hst).trans p1, ⟨⟨_, p2, by omega⟩, hm, ?_, ?_, ?_, hsz, kl, ?_, ?_, ?_⟩, rfl, .inl ⟨rfl, hst, rfl, kl⟩⟩
    · simp only; rw [p3]; omega
    · simp only; omega
    · simp only; omega
    · intro _; simp only
      by_cases hp : p.first < L.n
      · have : ¬ L.size ≤ L.bytes := fun hc => hst ⟨hp, hc⟩
        omega
      · have := hem (by omega)
        omega
    · simp only; omega
    · intro hc; simp only at hc; omega
end
end Go.Proofs.YtjapijndljknnaaGreatDoor

/-
  A log's pieces and its disk's files, in plain words; the whole of what its files tell; frames of few events on a calm disk.
-/
namespace Go.Proofs.YtjapijndljknnaaGreatDoor
open Go

/-! ### The open piece has events -/
structure Pk (size : Int) (c : Nat) (d : Dsk) (L : Lg) : Prop where
  sk : ∃ p last, Sk size c d L p last ∧ (L.n = 0 ∨ p.first < L.n)
theorem Pk.new {size : Int} (hs : 64 ≤ size) (hs2 : size ≤ 16777216) : ∃ d, createD (newDsk 1048576) size = (d, 0) ∧ Pk size 0 d (newLg size) := by
  obtain ⟨d, h1, h2⟩ := Sk.new hs hs2
  exact ⟨d, h1, _, _, h2, .inl rfl⟩
section
variable {size : Int} {c : Nat} {d : Dsk} {L : Lg}
theorem Pk.add (h : Pk size c d L) (hc : c < 60) (hs : 64 ≤ size) {es : List Ev} (h1 : es.length ≠ 0) (h2 : es.length ≤ 30) : ∃ d' L', L.add d es = ⟨d', L', 0⟩ ∧ Pk size (c + 1) d' L' ∧ L'.n = L.n + es.length := by
  obtain ⟨p, last, h, hp⟩ := h
  obtain ⟨d', L', p', a1, a2, a3, a4⟩ := h.add hc hs h1 h2
  obtain ⟨A, hi, -⟩ := h.inv
  have h3 := hi.acked0
  have h4 := hi.acked1
  refine ⟨d', L', a1, ⟨p', _, a2, .inr ?_⟩, a3⟩
  rcases a4 with ⟨rfl, -⟩ | hm
  · rw [a3]; omega
  · rw [hm.first, a3]; omega
theorem Pk.ak (h : Pk size c d L) : Ak size c d L := by
  obtain ⟨p, last, h, -⟩ := h
  exact h.ak
/-- What the statement asks of a log and its disk. -/
theorem Pk.facts (h : Pk size c d L) : rightL L.l = true ∧ d.list.Perm (manifestS :: L.l.map Pc.name) ∧ d.read manifestS = (manifestB L.l, 0) ∧ (L.n = 0 ∨ (lastP L.l).first < L.n) ∧ (lastP L.l).first ≤ L.acked := by
  obtain ⟨p, last, h, hp⟩ := h
  obtain ⟨A, hi, -⟩ := h.inv
  have hl := hi.open_
  refine ⟨by rw [hi.l]; exact (rightL_iff A p).2 hi.right, ?_, read_of hi.calm.up (congrArg DFile.bytes hi.man) (manifestB_ne _), by rw [hl]; exact hp, by rw [hl]; exact hi.acked0⟩
  exact (List.mergeSort_perm _ _).trans hi.names
end

/-! ### All is told -/
/-! ### Frames of at most nine events -/
structure Ck (size : Int) (c : Nat) (d : Dsk) (L : Lg) (all : List Ev) : Prop where
  inv : ∃ A p, LInv d L A p
  kin : KInv Whole d.files L all
  most : d.most = 1048576
  used : usedF d.files ≤ 40 + c * 6605
  n : L.n ≤ 9 * c
  bytes : L.bytes ≤ 18 + c * 378
  size : L.size = size
theorem frm_le9 {es : List Ev} (h : es.length ≤ 9) : (frmB es).length ≤ 378 := by
  have := frameB_len (sum := sumB) (fun b => sumB_len b) es (by omega)
  have e : (frmB es).length = (frameB sumB es).length := rfl
  omega
theorem Ck.new {size : Int} (hs : 64 ≤ size) (hs2 : size ≤ 16777216) : ∃ d, createD (newDsk 1048576) size = (d, 0) ∧ Ck size 0 d (newLg size) [] := by
  obtain ⟨F, h1, h2, h3, h4⟩ := create_calm' 1048576 (by omega) hs hs2
  have hb : (headB 0).length ≤ 18 := headB_len (n := 0) (by omega)
  exact ⟨_, h1, ⟨⟨_, _, h2⟩, KInv.new 1048576 (by omega) hs hs2 h1, rfl, by simpa using h3, by simp [newLg], by simpa [newLg] using hb, rfl⟩⟩
section
variable {size : Int} {c : Nat} {d : Dsk} {L : Lg} {all : List Ev}
theorem Ck.add (h : Ck size c d L all) (hc : c < 120) {es : List Ev} (h1 : es.length ≠ 0) (h2 : es.length ≤ 9) (h3 : ∀ e ∈ es, e.Ok) :
    (∃ d' L', L.add d es = ⟨d', L', 0⟩ ∧ Ck size (c + 1) d' L' (all ++ es)) ∨ ∃ d' L', L.add d es = ⟨d', L', 5⟩ ∧ L'.l.length = 100 ∧ L'.l.length ≤ 1000 := by
  obtain ⟨⟨A, p, hi⟩, hk, hm, hu, hn, hb, hs⟩ := h
  have hf := frm_le9 h2
  have hK := hk.add (d := d) seals_whole h3
  by_cases hst : p.first < L.n ∧ L.size ≤ L.bytes
  · by_cases h100 : A.length + 1 < 100
    · obtain ⟨F, a1, a2, a3, -⟩ := another_calm hi h100 hst.1 (by omega) (by rw [hm]; omega)
      obtain ⟨p1, p2, p3⟩ := put_calm a2 es (by simp only; rw [hm]; omega)
      have hh : (headB L.n).length ≤ 18 := headB_len (n := L.n) (by omega)
      have e := add_more hi h1 (by omega) hst (by rw [a1])
      rw [a1] at e
      have e := e.trans p1
      rw [e, if_pos rfl] at hK
      refine .inl ⟨_, _, e, ⟨⟨_, _, p2⟩, hK, hm, ?_, ?_, ?_, hs⟩⟩
      · rw [p3]; simp only; omega
      · simp only; omega
      · simp only; omega
    · have hl : L.l.length = A.length + 1 := by rw [hi.l]; simp
      have hr2 := hi.right.few
      have e : L.add d es = ⟨d, { L with over := true }, 5⟩ := by
        unfold Lg.add Lg.roomed Lg.another
        rw [hi.over, hi.open_, if_pos hst, if_pos (show 100 ≤ L.l.length by omega), if_neg (by simp), if_neg h1, if_neg (by omega), if_pos (by simp)]
      exact .inr ⟨_, _, e, by simp only; omega, by simp only; omega⟩
  · obtain ⟨p1, p2, p3⟩ := put_calm hi es (by rw [hm]; omega)
    have e := (add_stay hi h1 (by omega) hst).trans p1
    rw [e, if_pos rfl] at hK
    refine .inl ⟨_, _, e, ⟨⟨_, _, p2⟩, hK, hm, ?_, ?_, ?_, hs⟩⟩
    · simp only; rw [p3]; omega
    · simp only; omega
    · simp only; omega
theorem Ck.facts (h : Ck size c d L all) (hc : c ≤ 120) : L.l ≠ [] ∧ L.l.length ≤ 1000 ∧ L.n ≤ 1080 ∧ L.bytes ≤ 45378 ∧ 0 ≤ (lastP L.l).first ∧ L.over = false ∧ d.down = false := by
  obtain ⟨⟨A, p, hi⟩, hk, hm, hu, hn, hb, hs⟩ := h
  have hl := hi.open_
  have hf := hi.right.few
  exact ⟨by rw [hi.l]; simp, by rw [hi.l]; simp; omega, by omega, by omega, by rw [hl]; exact hi.firsts.1, hi.over, hi.calm.up⟩
end

/-! ### A call on a log that is not over never tells that it is -/
end Go.Proofs.YtjapijndljknnaaGreatDoor
