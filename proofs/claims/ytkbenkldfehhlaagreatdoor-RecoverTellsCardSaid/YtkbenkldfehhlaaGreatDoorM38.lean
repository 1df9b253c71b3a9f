/-
  Texts merged by a program of this claim's: EvCut.
-/
import Derived.Test.YtkbenkldfehhlaaGreatDoorM9
namespace Go.Proofs.YtkbenkldfehhlaaGreatDoor
open Go Go.RowKit Go.Sort
set_option maxRecDepth 100000
theorem SrcV.keep {k:Nat}{S:Nat→Prop}{w w':World}{v:Value}{n:Nat}{cs:List Value}(h:SrcV k w v n cs) (ho:Only S w w') (hb:∀g,v.ownBlock=some g→¬ S g):SrcV k w' v n cs:=by
 obtain⟨e,⟨a,hv,hn⟩|⟨g,o,cap,rfl,h1,h2,h3,h4⟩⟩:=h
 ·exact⟨e,.inl ⟨a,hv,hn⟩⟩
 ·exact⟨e,.inr ⟨g,o,cap,rfl,h1,h2,Nat.lt_of_lt_of_le h3 ho.size,fun j hj=>ho.cell (h4 j hj) (hb g rfl)⟩⟩
theorem Evs.keep {S:Nat→Prop}{w w':World}{v:Value}{l:List Ev}(h:Evs w v l) (ho:Only S w w') (hb:∀g,v.ownBlock=some g→¬ S g):Evs w' v l:=⟨h.src.keep ho hb,h.ok⟩
end Go.Proofs.YtkbenkldfehhlaaGreatDoor
