/-
  Texts merged by a program of this claim's: Law6C, VecG.
-/
import Derived.Test.YtjapijndljknnaaGreatDoorM28
import Derived.Test.YtjapijndljknnaaGreatDoorM22
import Derived.Test.YtjapijndljknnaaGreatDoorM2
/-
  amanuensislow.CopyEvents, walked.
-/
namespace Go.Proofs.YtjapijndljknnaaGreatDoor
open Go Go.RowKit Go.Sort
set_option maxRecDepth 100000
set_option maxHeartbeats 1600000
theorem CopyEvents_ok {w : World} {v : Value} {l : List Ev} (h : Evs w v l) (hl : l.length ≤ 1000000) :
    Calls Tryz.prog 44 #[v] w fun e w' => ∃ v', e = .returned v' ∧ Vec 5 w' v' l.length (l.flatMap evV) ∧ Nw w w' ∧ ∀ g, v'.ownBlock = some g → w.heap.size ≤ g := by
  obtain ⟨i0, hi, hz0, hz1, hz2⟩ := info_parts infoEv
  have HI := Lib.hid hi
  have HZ0 := Lib.hid hz0
  have HZ1 := Lib.hid hz1
  have HZ2 := Lib.hid hz2
  have HV := Lib.hid h.src
  obtain ⟨a, cap, rfl, -⟩ := h.elem
  have V0 : Hid (Vec 5 w (.slice none 0 0) 0 []) := Lib.hid Vec.nil
  clear h hi hz0 hz1 hz2
  go_enter Tryz.func44, Tryz.ntmps44
  go_wp2_with (at_builtin; refine wpList_append_vec rfl _ _ 25 rfl 73 i0 (.agg #[.int .i64 0, .int .u8 0, .int .i64 0, .int .i64 0, .int .i64 0]) 5 40 Tryz.underlying25 HI.out HZ0.out HZ1.out HZ2.out rfl (by decide) rfl rfl V0.out HV.out ?c1 ?c2 ?c3 ?_)
  case c1 => exact evV_one l
  case c2 => unfold maxLen; omega
  case c3 => omega
  intro v5 w5 q5 q6 q7
  have Q := Lib.hid (And.intro q5 (And.intro q6 q7))
  clear q5 q6 q7
  go_wp2
  go_ret
  refine ⟨v5, rfl, by simpa using Q.out.1, Q.out.2.1.mono (fun k hk hc => by cases hc), fun g hg => ?_⟩
  rcases Q.out.2.2 with h | h
  · rw [h] at hg; cases hg
  · exact h g hg
end Go.Proofs.YtjapijndljknnaaGreatDoor

/-
  Program-independent: an append behind a guard that lets it in.
-/
namespace Go.Proofs.YtjapijndljknnaaGreatDoor
open Go Go.RowKit
section
variable {k n : Nat} {w w' : World} {v : Value} {cs : List Value}
theorem wpList_append_vec_g {P : Program} {ops : Array Oper} {rest : List Oper} {o : Oper} {a : Act} {Q : Exit → Act → World → Prop} (hw : Region.wanted o (yielded ops a.tmps) = true) (s x : Operand) (t : TypeId)
    (ho : o.op = .call { callee := .builtin .append, args := #[s, x], argTypes := #[t, t] })
    (e : TypeId) (i : TypeInfo) (z : Value) (size bytes : Nat) (ht : P.underlying t = some (.slice e)) (hi : P.info? e = some i) (hz : i.zero = some z) (hsize : i.size = size) (hby : i.bytes = bytes) (hzs : z.cells.size = size) (hsz : 0 < size)
    {src : Value} {m : Nat} {news : List Value} (hs : a.eval s = v) (hx : a.eval x = src) (hv : Vec size w v n cs) (hsrc : SrcV size w src m news) (h1 : ∀ u ∈ news, u.oneCell' = true)
    (hlen : n + m ≤ maxLen) (hbytes : (n + m) * bytes ≤ 140737488355328)
    (h : ∀ v' w', Vec size w' v' (n + m) (cs ++ news) → Only (fun k => v.ownBlock = some k) w w' → (v'.ownBlock = v.ownBlock ∨ ∀ g, v'.ownBlock = some g → w.heap.size ≤ g) →
      wpList P ops Q rest (a.put o.dst v') w') : wpList P ops Q (o :: rest) a w := by
  obtain ⟨v', w', hr, h2, h3, h4⟩ := run_append_vec (P := P) (w := w) t o.type e i z size bytes ht hi hz hsize hby hzs hsz hv hsrc h1 hlen hbytes
  unfold wpList
  rw [if_pos hw]
  refine .inl ?_
  unfold Oper.wp execOp
  simp only [ho, resolve, invoke, builtin, Sem.run_bind, Sem.run_pure, Result.andThen_ok, List.map_toArray, List.map_cons, List.map_nil, hs, hx, hr]
  exact h v' w' h2 h3 h4
end
end Go.Proofs.YtjapijndljknnaaGreatDoor
