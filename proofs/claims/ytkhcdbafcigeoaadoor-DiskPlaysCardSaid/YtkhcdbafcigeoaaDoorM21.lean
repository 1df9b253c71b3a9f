/-
  Texts merged by a program of this claim's: PlaysM.
-/
import Derived.Test.YtkhcdbafcigeoaaDoorM15
import Derived.Test.YtkhcdbafcigeoaaDoorM16
import Derived.Test.YtkhcdbafcigeoaaDoorM17
import Derived.Test.YtkhcdbafcigeoaaDoorM18
import Derived.Test.YtkhcdbafcigeoaaDoorM19
import Derived.Test.YtkhcdbafcigeoaaDoorM20
/-
  amanuensislaw02.DiskPlays: what lies in memory while the script runs: the program's disk, the document's in its box, the call.
-/
namespace Go.Proofs.YtkhcdbafcigeoaaDoor
open Go Go.RowKit Go.Sort
set_option maxRecDepth 100000
set_option maxHeartbeats 1600000
theorem mem_getF : ∀ {L : List (Str × DFile)} {n : Str} {f : DFile}, getF L n = some f → (n, f) ∈ L
  | [], _, _, h => by simp [getF] at h
  | (k, g) :: L, n, f, h => by
    by_cases e : k = n
    · simp only [getF, if_pos e] at h
      obtain rfl := Option.some.inj h
      rw [e]; exact List.mem_cons_self
    · simp only [getF, if_neg e] at h
      exact List.mem_cons_of_mem _ (mem_getF h)
theorem RefOf.sy {d r : Dsk} (h : RefOf d r) (ok : d.Ok) : ∀ x ∈ r.files, x.2.synced ≤ x.2.bytes.length := by
  intro x hx
  obtain ⟨k, hk, rfl⟩ := List.getElem_of_mem hx
  have := getF_at (srt_nodup h.srt) k hk
  rw [h.get] at this
  exact ok.synced _ (mem_getF this)
theorem rfind_neg {L : List (Str × DFile)} {n : Str} (h : rfindI L n < 0) : getF L n = none := by
  unfold rfindI at h
  split at h
  · omega
  · rename_i he
    rw [List.findIdx?_eq_none_iff] at he
    induction L with
    | nil => rfl
    | cons x L ih =>
      have h1 : ¬ x.1 = n := by simpa using he x List.mem_cons_self
      simp only [getF, if_neg h1]
      exact ih (fun y hy => he y (List.mem_cons_of_mem _ hy)) 
def diskV (r : Dsk) (a : Option Addr) (c : Nat) : Value := .agg #[.int .i64 r.most, .slice a r.files.length c, .int .i64 r.arm, .bool r.down]
/-- The disks, the call o in its box po; in the document's box pw lies anything. -/
structure PB (W w : World) (b pw po : Nat) (d r : Dsk) (o : OpR) (vb vk v : Value) : Prop where
  lies : Lies (fun k => k = pw ∨ k = po) W w b d r v
  op : OpIs W [.int .i64 o.kind, .int .i64 o.n, .string ⟨o.name.toArray⟩, .string ⟨o.tgt.toArray⟩, vb, vk] o vb vk
  hop : w.heap[po]? = some (.cells #[.int .i64 o.kind, .int .i64 o.n, .string ⟨o.name.toArray⟩, .string ⟨o.tgt.toArray⟩, vb, vk] 36 (0, 0))
  w0 : W.heap.size ≤ pw
  ne : pw ≠ po
  box : ∃ u0 u1 u2 u3, w.heap[pw]? = some (.cells #[u0, u1, u2, u3] 29 (0, 0))
/-- .. there lies the document's disk. -/
structure PM (W w : World) (b pw po : Nat) (d r : Dsk) (o : OpR) (vb vk : Value) (a : Option Addr) (c : Nat) : Prop where
  base : PB W w b pw po d r o vb vk (diskV r a c)
  box : w.heap[pw]? = some (DB (.int .i64 r.most) (.slice a r.files.length c) (.int .i64 r.arm) (.bool r.down))
section
variable {W w w' : World} {b pw po : Nat} {d d' r r' : Dsk} {o : OpR} {vb vk v v' : Value} {a : Option Addr} {c : Nat}
theorem Kept.at_ {X : Nat → Prop} (h : Kept X w w') {k : Nat} {u : Obj} (hk : w.heap[k]? = some u) (hx : X k) : w'.heap[k]? = some u := by
  rw [h.2 k hx (by obtain ⟨hlt, -⟩ := Array.getElem?_eq_some_iff.1 hk; exact hlt)]
  exact hk
theorem PB.turn (h : PB W w b pw po d r o vb vk v) (hl : Lies (fun k => k = pw ∨ k = po) W w' b d' r' v') (hk : Kept (fun k => k = pw ∨ k = po) w w') : PB W w' b pw po d' r' o vb vk v' := by
  obtain ⟨u0, u1, u2, u3, hb⟩ := h.box
  exact ⟨hl, h.op, hk.at_ h.hop (.inr rfl), h.w0, h.ne, u0, u1, u2, u3, hk.at_ hb (.inl rfl)⟩
theorem PB.nw (h : PB W w b pw po d r o vb vk v) (hw : Nw w w') : PB W w' b pw po d r o vb vk v := h.turn (h.lies.nw hw) hw.kept
theorem PM.nw (h : PM W w b pw po d r o vb vk a c) (hw : Nw w w') : PM W w' b pw po d r o vb vk a c := ⟨h.base.nw hw, hw.at_ h.box⟩
theorem PB.cells (h : PB W w b pw po d r o vb vk v) : w.cell? ⟨po, 0, none⟩ = some (.int .i64 o.kind) ∧ w.cell? ⟨po, 1, none⟩ = some (.int .i64 o.n) ∧ w.cell? ⟨po, 2, none⟩ = some (.string ⟨o.name.toArray⟩) ∧ w.cell? ⟨po, 3, none⟩ = some (.string ⟨o.tgt.toArray⟩) ∧ w.cell? ⟨po, 4, none⟩ = some vb ∧ w.cell? ⟨po, 5, none⟩ = some vk := by
  simp [World.cell?, h.hop]
theorem PB.free (h : PB W w b pw po d r o vb vk v) : ∃ u0 u1 u2 u3, w.cell? ⟨pw, 0, none⟩ = some u0 ∧ w.cell? ⟨pw, 1, none⟩ = some u1 ∧ w.cell? ⟨pw, 2, none⟩ = some u2 ∧ w.cell? ⟨pw, 3, none⟩ = some u3 ∧
    w.frozen? ⟨pw, 0, none⟩ = false ∧ w.frozen? ⟨pw, 1, none⟩ = false ∧ w.frozen? ⟨pw, 2, none⟩ = false ∧ w.frozen? ⟨pw, 3, none⟩ = false := by
  obtain ⟨u0, u1, u2, u3, hb⟩ := h.box
  exact ⟨u0, u1, u2, u3, box_cells hb⟩
theorem PM.disk (h : PM W w b pw po d r o vb vk a c) : w.cell? ⟨pw, 0, none⟩ = some (.int .i64 r.most) ∧ w.cell? ⟨pw, 1, none⟩ = some (.slice a r.files.length c) ∧ w.cell? ⟨pw, 2, none⟩ = some (.int .i64 r.arm) ∧ w.cell? ⟨pw, 3, none⟩ = some (.bool r.down) := by
  obtain ⟨b0, b1, b2, b3, -⟩ := box_cells h.box
  exact ⟨b0, b1, b2, b3⟩
/-- An operation of the program's disk. -/
theorem PM.dsk {P : Program} {f : FuncId} {args : Array Value} {y : Value} (h : PM W w b pw po d r o vb vk a c)
    (hc : ∀ X : Nat → Prop, HasX X W w b d → Calls P f args w (DidX X W w b d' y)) :
    Calls P f args w fun e w' => e = .returned y ∧ PM W w' b pw po d' r o vb vk a c := by
  refine (h.base.lies.dsk fun X _ hX => hc X hX).mono ?_
  rintro e w' ⟨he, hl, hk⟩
  exact ⟨he, h.base.turn hl hk, hk.at_ h.box (.inl rfl)⟩
theorem PM.kept {P : Program} {f : FuncId} {args : Array Value} {R : Ending → World → Prop} (h : PM W w b pw po d r o vb vk a c) (hc : Calls P f args w fun e w' => R e w' ∧ Nw w w') :
    Calls P f args w fun e w' => R e w' ∧ Nw w w' ∧ PM W w' b pw po d r o vb vk a c := hc.mono fun _ _ ⟨h1, h2⟩ => ⟨h1, h2, h.nw h2⟩
/-- An operation of the document's disk. -/
theorem PM.doc {P : Program} {f : FuncId} {args : Array Value} {x : Int} (h : PM W w b pw po d r o vb vk a c)
    (hc : ∀ X : Nat → Prop, (∀ k, w.heap.size ≤ k → X k) → RefD X w (diskV r a c) r → Calls P f args w fun e w' => ∃ v', e = .returned (.tuple #[v', .int .i64 x]) ∧ RefD X w' v' r' ∧ Nw w w') :
    Calls P f args w fun e w' => ∃ a' c', e = .returned (.tuple #[.agg #[.int .i64 r'.most, .slice a' r'.files.length c', .int .i64 r'.arm, .bool r'.down], .int .i64 x]) ∧ PB W w' b pw po d r' o vb vk (diskV r' a' c') := by
  refine (h.base.lies.doc (E := fun v => .tuple #[v, .int .i64 x]) hc).mono ?_
  rintro e w' ⟨v', rfl, hl, hn⟩
  obtain ⟨a', c', rfl⟩ := hl.parts
  exact ⟨a', c', rfl, h.base.turn hl hn.kept⟩
theorem PM.doc1 {P : Program} {f : FuncId} {args : Array Value} (h : PM W w b pw po d r o vb vk a c)
    (hc : ∀ X : Nat → Prop, (∀ k, w.heap.size ≤ k → X k) → RefD X w (diskV r a c) r → Calls P f args w fun e w' => ∃ v', e = .returned v' ∧ RefD X w' v' r' ∧ Nw w w') :
    Calls P f args w fun e w' => ∃ a' c', e = .returned (.agg #[.int .i64 r'.most, .slice a' r'.files.length c', .int .i64 r'.arm, .bool r'.down]) ∧ PB W w' b pw po d r' o vb vk (diskV r' a' c') := by
  refine (h.base.lies.doc (E := fun v => v) hc).mono ?_
  rintro e w' ⟨v', rfl, hl, hn⟩
  obtain ⟨a', c', rfl⟩ := hl.parts
  exact ⟨a', c', rfl, h.base.turn hl hn.kept⟩
/-- It is stored into its box. -/
theorem PB.store (h : PB W w b pw po d r o vb vk (diskV r a c)) : PM W ((((w.setCell ⟨pw, 0, none⟩ (.int .i64 r.most)).setCell ⟨pw, 1, none⟩ (.slice a r.files.length c)).setCell ⟨pw, 2, none⟩ (.int .i64 r.arm)).setCell ⟨pw, 3, none⟩ (.bool r.down)) b pw po d r o vb vk a c := by
  obtain ⟨u0, u1, u2, u3, hb⟩ := h.box
  have hO := only_set4 w pw (.int .i64 r.most) (.slice a r.files.length c) (.int .i64 r.arm) (.bool r.down)
  have hH := heap_set4 hb (.int .i64 r.most) (.slice a r.files.length c) (.int .i64 r.arm) (.bool r.down)
  refine ⟨⟨h.lies.put hO (fun k hk _ => ⟨.inl hk, by rw [hk]; exact h.w0⟩) (fun k hk => .inl hk), h.op, hO.at_ h.hop (Ne.symm h.ne), h.w0, h.ne, _, _, _, _, hH⟩, hH⟩
theorem PM.ok (h : PM W w b pw po d r o vb vk a c) : d.Ok := h.base.lies.has.ok
theorem PM.nwW (h : PM W w b pw po d r o vb vk a c) : Nw W w := h.base.lies.base
/-! The operations, both -/
theorem PM.append (h : PM W w b pw po d r o vb vk a c) (hs : o.b.length ≤ 200) (hn : o.name.length ≤ 100) {x : Int} (hr : d.append o.name o.b = (d', x)) :
    Calls Tryd.prog 7 #[.pointer (some ⟨b, 0, none⟩), .string ⟨o.name.toArray⟩, vb] w fun e w' => e = .returned (.int .i64 x) ∧ PM W w' b pw po d' r o vb vk a c :=
  h.dsk fun X hX => hX.append o.name o.b vb (h.base.op.bs.nw hX.base) (fun hne g hg => .inr (h.base.op.bs.lt hne g hg)) (by omega) (by omega) hr
theorem PM.rAppend (h : PM W w b pw po d r o vb vk a c) (hk : ROk r) (hs : o.b.length ≤ 200) (hn : o.name.length ≤ 100) {x : Int} (hr : r.rAppend o.name o.b = (r', x)) :
    Calls Tryd.prog 8 #[.agg #[.int .i64 r.most, .slice a r.files.length c, .int .i64 r.arm, .bool r.down], .string ⟨o.name.toArray⟩, vb] w fun e w' => ∃ a' c', e = .returned (.tuple #[.agg #[.int .i64 r'.most, .slice a' r'.files.length c', .int .i64 r'.arm, .bool r'.down], .int .i64 x]) ∧ PB W w' b pw po d r' o vb vk (diskV r' a' c') :=
  h.doc fun X hX hR => by
    have := rAppend_ok hX hR hk o.name (by omega) o.b (h.base.op.bs.nw h.nwW) (by omega)
    rw [hr] at this
    exact this
theorem PM.sync (h : PM W w b pw po d r o vb vk a c) {x : Int} (hr : d.sync o.name = (d', x)) :
    Calls Tryd.prog 9 #[.pointer (some ⟨b, 0, none⟩), .string ⟨o.name.toArray⟩] w fun e w' => e = .returned (.int .i64 x) ∧ PM W w' b pw po d' r o vb vk a c :=
  h.dsk fun X hX => hX.sync o.name hr
theorem PM.rSync (h : PM W w b pw po d r o vb vk a c) (hk : ROk r) {x : Int} (hr : r.rSync o.name = (r', x)) :
    Calls Tryd.prog 10 #[.agg #[.int .i64 r.most, .slice a r.files.length c, .int .i64 r.arm, .bool r.down], .string ⟨o.name.toArray⟩] w fun e w' => ∃ a' c', e = .returned (.tuple #[.agg #[.int .i64 r'.most, .slice a' r'.files.length c', .int .i64 r'.arm, .bool r'.down], .int .i64 x]) ∧ PB W w' b pw po d r' o vb vk (diskV r' a' c') :=
  h.doc fun X hX hR => by
    have := rSync_ok hX hR hk o.name
    rw [hr] at this
    exact this
theorem PM.remove (h : PM W w b pw po d r o vb vk a c) {x : Int} (hr : d.remove o.name = (d', x)) :
    Calls Tryd.prog 13 #[.pointer (some ⟨b, 0, none⟩), .string ⟨o.name.toArray⟩] w fun e w' => e = .returned (.int .i64 x) ∧ PM W w' b pw po d' r o vb vk a c :=
  h.dsk fun X hX => hX.remove o.name hr
theorem PM.rRemove (h : PM W w b pw po d r o vb vk a c) (hk : ROk r) {x : Int} (hr : r.rRemove o.name = (r', x)) :
    Calls Tryd.prog 14 #[.agg #[.int .i64 r.most, .slice a r.files.length c, .int .i64 r.arm, .bool r.down], .string ⟨o.name.toArray⟩] w fun e w' => ∃ a' c', e = .returned (.tuple #[.agg #[.int .i64 r'.most, .slice a' r'.files.length c', .int .i64 r'.arm, .bool r'.down], .int .i64 x]) ∧ PB W w' b pw po d r' o vb vk (diskV r' a' c') :=
  h.doc fun X hX hR => by
    have := rRemove_ok hX hR hk o.name
    rw [hr] at this
    exact this
theorem PM.rename (h : PM W w b pw po d r o vb vk a c) (hn : o.tgt.length ≤ 100) {x : Int} (hr : d.rename o.name o.tgt = (d', x)) :
    Calls Tryd.prog 11 #[.pointer (some ⟨b, 0, none⟩), .string ⟨o.name.toArray⟩, .string ⟨o.tgt.toArray⟩] w fun e w' => e = .returned (.int .i64 x) ∧ PM W w' b pw po d' r o vb vk a c :=
  h.dsk fun X hX => hX.rename o.name o.tgt (by omega) hr
theorem PM.rRename (h : PM W w b pw po d r o vb vk a c) (hk : ROk r) (hn : o.tgt.length ≤ 100) {x : Int} (hr : r.rRename o.name o.tgt = (r', x)) :
    Calls Tryd.prog 12 #[.agg #[.int .i64 r.most, .slice a r.files.length c, .int .i64 r.arm, .bool r.down], .string ⟨o.name.toArray⟩, .string ⟨o.tgt.toArray⟩] w fun e w' => ∃ a' c', e = .returned (.tuple #[.agg #[.int .i64 r'.most, .slice a' r'.files.length c', .int .i64 r'.arm, .bool r'.down], .int .i64 x]) ∧ PB W w' b pw po d r' o vb vk (diskV r' a' c') :=
  h.doc fun X hX hR => by
    have := rRename_ok hX hR hk o.name o.tgt (by omega)
    rw [hr] at this
    exact this
theorem PM.cut (h : PM W w b pw po d r o vb vk a c) {x : Int} (hr : d.cut o.name o.n = (d', x)) :
    Calls Tryd.prog 15 #[.pointer (some ⟨b, 0, none⟩), .string ⟨o.name.toArray⟩, .int .i64 o.n] w fun e w' => e = .returned (.int .i64 x) ∧ PM W w' b pw po d' r o vb vk a c :=
  h.dsk fun X hX => hX.cut o.name o.n hr
theorem PM.rCut (h : PM W w b pw po d r o vb vk a c) (hk : ROk r) {x : Int} (hr : r.rCut o.name o.n = (r', x)) :
    Calls Tryd.prog 16 #[.agg #[.int .i64 r.most, .slice a r.files.length c, .int .i64 r.arm, .bool r.down], .string ⟨o.name.toArray⟩, .int .i64 o.n] w fun e w' => ∃ a' c', e = .returned (.tuple #[.agg #[.int .i64 r'.most, .slice a' r'.files.length c', .int .i64 r'.arm, .bool r'.down], .int .i64 x]) ∧ PB W w' b pw po d r' o vb vk (diskV r' a' c') :=
  h.doc fun X hX hR => by
    have := rCut_ok hX hR hk o.name o.n
    rw [hr] at this
    exact this
theorem PM.arm (h : PM W w b pw po d r o vb vk a c) (hr : d.armed o.n = d') :
    Calls Tryd.prog 17 #[.pointer (some ⟨b, 0, none⟩), .int .i64 o.n] w fun e w' => e = .returned (.tuple #[]) ∧ PM W w' b pw po d' r o vb vk a c :=
  h.dsk fun X hX => hX.arm o.n h.base.op.n1 hr
theorem PM.rArm (h : PM W w b pw po d r o vb vk a c) (hr : r.armed o.n = r') :
    Calls Tryd.prog 18 #[.agg #[.int .i64 r.most, .slice a r.files.length c, .int .i64 r.arm, .bool r.down], .int .i64 o.n] w fun e w' => ∃ a' c', e = .returned (.agg #[.int .i64 r'.most, .slice a' r'.files.length c', .int .i64 r'.arm, .bool r'.down]) ∧ PB W w' b pw po d r' o vb vk (diskV r' a' c') :=
  h.doc1 fun X hX hR => by
    have := rArm_ok hR o.n
    rw [hr] at this
    exact this
theorem PM.crash (h : PM W w b pw po d r o vb vk a c) (hr : d.crash o.keeps = d') :
    Calls Tryd.prog 19 #[.pointer (some ⟨b, 0, none⟩), vk] w fun e w' => e = .returned (.tuple #[]) ∧ PM W w' b pw po d' r o vb vk a c :=
  h.dsk fun X hX => hX.crash vk o.keeps (h.base.op.ks.nw hX.base) (fun hne g hg => .inr (h.base.op.ks.lt hne g hg)) hr
theorem PM.rCrash (h : PM W w b pw po d r o vb vk a c) (hk : ROk r) (hsy : ∀ x ∈ r.files, x.2.synced ≤ x.2.bytes.length) (hr : r.rCrash o.keeps = r') :
    Calls Tryd.prog 20 #[.agg #[.int .i64 r.most, .slice a r.files.length c, .int .i64 r.arm, .bool r.down], vk] w fun e w' => ∃ a' c', e = .returned (.agg #[.int .i64 r'.most, .slice a' r'.files.length c', .int .i64 r'.arm, .bool r'.down]) ∧ PB W w' b pw po d r' o vb vk (diskV r' a' c') :=
  h.doc1 fun X hX hR => by
    have := rCrash_ok hX hR hk hsy o.keeps (h.base.op.ks.nw h.nwW)
    rw [hr] at this
    exact this
theorem PM.read (h : PM W w b pw po d r o vb vk a c) {l : List UInt8} {x : Int} (hr : d.read o.name = (l, x)) :
    Calls Tryd.prog 21 #[.pointer (some ⟨b, 0, none⟩), .string ⟨o.name.toArray⟩] w fun e w' => ∃ a1 c1, e = .returned (.tuple #[.slice a1 l.length c1, .int .i64 x]) ∧ Bs w' (.slice a1 l.length c1) l ∧ PM W w' b pw po d r o vb vk a c :=
  (h.base.lies.has.read o.name hr).mono fun e w' ⟨v, he, ho, hn, _⟩ => by
    obtain ⟨a1, c1, rfl, -⟩ := ho.rd.len
    exact ⟨a1, c1, he, ho.rd, h.nw hn⟩
theorem PM.rRead (h : PM W w b pw po d r o vb vk a c) {l : List UInt8} {x : Int} (hr : r.read o.name = (l, x)) :
    Calls Tryd.prog 22 #[.agg #[.int .i64 r.most, .slice a r.files.length c, .int .i64 r.arm, .bool r.down], .string ⟨o.name.toArray⟩] w fun e w' => ∃ a1 c1, e = .returned (.tuple #[.slice a1 l.length c1, .int .i64 x]) ∧ Bs w' (.slice a1 l.length c1) l ∧ Nw w w' ∧ PM W w' b pw po d r o vb vk a c := by
  obtain ⟨X, hR⟩ := h.base.lies.ref
  have := rRead_ok hR o.name
  rw [hr] at this
  refine Calls.mono this fun e w' ⟨v, he, ho, hn⟩ => ?_
  obtain ⟨a1, c1, rfl, -⟩ := Rd.len ho
  exact ⟨a1, c1, he, ho, hn, h.nw hn⟩
end
end Go.Proofs.YtkhcdbafcigeoaaDoor
