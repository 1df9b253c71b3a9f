/-
  Texts merged by a program of this claim's: Inv, Grd, Rgn.
-/
import Derived.Test.YtkbenkldfehhlaaGreatDoorM10
import Derived.Test.YtkbenkldfehhlaaGreatDoorM16
namespace Go.Proofs.YtkbenkldfehhlaaGreatDoor
open Go Go.RowKit
section
variable {P:Program}{ops:Array Oper}{Q:Exit→Act→World→Prop}
theorem wpOp_of_list {i:Nat}{o:Oper}{K:Act→World→Prop}{a:Act}{w:World}(ho:ops[i]? = some o) (h:wpList P ops (Exit.then K Q) [o] a w):wpOp P ops Q i K a w:=by
 simp only[wpOp,ho]
 simp only[wpList]at h
 split
 ·rename_i hw
  rw[if_pos hw]at h
  rcases h with h|⟨h1,h2⟩
  ·refine .inl ?_
   unfold Oper.wp at *
   generalize (execOp a.eval o).run P w=r at *
   cases r with
   |ok n w' =>
    cases n <;> simp only[Oper.upon]at h ⊢
    case value u=>exact h
    case skip=>exact h
    case defer d=>exact h
    case enter f args=>exact Calls.mono h fun e w'' he=>by cases e <;> exact he
    case row row args=>exact h
   |halt x w' =>
    cases x <;> simp only[Oper.upon]at h ⊢
    case panic u=>exact h
  ·exact .inr ⟨h1,h2⟩
 ·rename_i hw
  rw[if_neg hw]at h
  exact h
def Done (i:Nat) (D:Nat→Prop):Nat→Prop:=fun j=>j=i∨D j
def Region.backB (ops:Array Oper):Bool:=(List.range ops.size).all fun i=>((ops[i]?).map fun o=>o.after.all fun e=>!Region.binds .any e || decide (e.on<i)).getD true
theorem Region.backB_spec {ops:Array Oper}(h:Region.backB ops=true){i:Nat}{o:Oper}(ho:ops[i]? = some o):∀e∈o.after,Region.binds .any e=true→e.on<i:=by
 intro e he hb
 have hi:i<ops.size:=by
  rcases Nat.lt_or_ge i ops.size with h1|h1
  ·exact h1
  ·rw[Array.getElem?_eq_none h1]at ho;cases ho
 have h1:=List.all_eq_true.1 h i (List.mem_range.2 hi)
 rw[ho]at h1
 simp only[Option.map_some,Option.getD_some]at h1
 have h2:=Array.all_eq_true'.1 h1 e he
 rw[hb]at h2
 simpa using h2
theorem ready_all (hb:Region.backB ops=true){listed:Array Bool}(hs:listed.size=ops.size) (hr:Region.ready .any ops listed=[]):∀i,i<ops.size→listed.getD i false=true:=by
 intro i
 induction i using Nat.strongRecOn with
 |ind i ih =>
  intro hi
  cases hl:listed.getD i false with
  |true=>rfl
  |false =>
   exfalso
   have ho:ops[i]? = some ops[i]:=by simp[hi]
   have:i∈Region.ready .any ops listed:=mem_ready.2 ⟨getD_in (by omega) hl,ops[i],ho,fun e he hbi=>by
    have h1:=Region.backB_spec hb ho e he hbi
    exact ih e.on h1 (by omega)⟩
   rw[hr]at this
   cases this
theorem wpAny_inv (I:(Nat→Prop)→Act→World→Prop) (hb:Region.backB ops=true)
  (hs:∀(D:Nat→Prop) (i:Nat) (o:Oper),ops[i]? = some o→(∀e∈o.after,Region.binds .any e=true→D e.on)→¬ D i→∀a w,I D a w→wpOp P ops Q i (fun a' w'=>I (fun j=>j=i∨D j) a' w') a w)
  (he:∀D a w,(∀i,i<ops.size→D i)→I D a w→Q .normal a w) :
  ∀(f:Nat) (listed:Array Bool) (D:Nat→Prop) (a:Act) (w:World),listed.size=ops.size→(∀i,i<ops.size→(listed.getD i false=true↔D i))→listed.toList.count false=f→I D a w→wpAny P .any ops Q f listed a w
 |0,listed,D,a,w,h1,h2,h3,h4=>by
  have hall:∀i,i<ops.size→listed.getD i false=true:=fun i hi=>by
   cases hl:listed.getD i false with
   |true=>rfl
   |false =>
    exfalso
    have hi':i<listed.size:=by omega
    have:false∈listed.toList:=by
     simp[hi']at hl
     rw[←hl]
     exact Array.getElem_mem_toList hi'
    have:=List.count_pos_iff.2 this
    omega
  refine⟨?_,he D a w (fun i hi=>(h2 i hi).1 (hall i hi)) h4⟩
  cases hr:Region.ready .any ops listed with
  |nil=>rfl
  |cons j l =>
   exfalso
   obtain⟨h5,o,ho,-⟩:=mem_ready.1 (show j∈Region.ready .any ops listed by rw[hr];simp)
   have hj:j<ops.size:=by
    rcases Nat.lt_or_ge j ops.size with h|h
    ·exact h
    ·rw[Array.getElem?_eq_none h]at ho;cases ho
   have:=hall j hj
   rw[getD_both h5]at this
   cases this
 |f+1,listed,D,a,w,h1,h2,h3,h4=>by
  refine⟨fun hr=>he D a w (fun i hi=>(h2 i hi).1 (ready_all hb h1 hr i hi)) h4,fun i hi=>?_⟩
  obtain⟨h5,o,ho,h6⟩:=mem_ready.1 hi
  have hil:i<ops.size:=by
   rcases Nat.lt_or_ge i ops.size with h|h
   ·exact h
   ·rw[Array.getElem?_eq_none h]at ho;cases ho
  have h7:=getD_both h5
  have hD:¬ D i:=fun hc=>by
   have:=(h2 i hil).2 hc
   rw[h7]at this
   cases this
  have hback:=Region.backB_spec hb ho
  refine wpOp_mono (fun a' w' h'=>wpAny_inv I hb hs he f _ (fun j=>j=i∨D j) a' w' (by simpa using h1) (fun j hj=>?_) ?_ h') (hs D i o ho (fun e he' hbi=>(h2 e.on (by have:=hback e he' hbi;omega)).1 (h6 e he' hbi)) hD a w h4)
  ·by_cases hji:j=i
   ·subst hji
    simp[h1,hil]
   ·rw[getD_set_ne false (Ne.symm hji),h2 j hj]
    simp[hji]
  ·have hi':i<listed.toList.length:=by simpa [h1] using hil
   have hlf:listed.toList[i]=false:=by simp[h1,hil]at h7;simpa using h7
   rw[Array.toList_setIfInBounds,List.count_set hi',hlf,h3]
   simp
def waits (o:Oper) (j:Nat):Bool:=o.after.toList.any fun e=>Region.binds .any e && Nat.beq e.on j
theorem waits_of {o:Oper}{D:Nat→Prop}(h:∀e∈o.after,Region.binds .any e=true→D e.on) (j:Nat) (hj:waits o j=true):D j:=by
 unfold waits at hj
 obtain⟨e,he,hb⟩:=List.any_eq_true.1 hj
 simp only[Bool.and_eq_true]at hb
 obtain⟨hb,h1⟩:=hb
 obtain rfl:=Nat.eq_of_beq_eq_true h1
 exact h e (by simpa using he) hb
theorem wp_region_inv {id:Nat}{a:Act}{w:World}{l:List Oper}(I:(Nat→Prop)→Act→World→Prop) (hm:P.follows .mixedOrders=true) (hb:Region.backB l.toArray=true) (h0:I (fun _=>False) a w.drew)
  (hs:∀(i:Nat) (o:Oper),l[i]? = some o→∀D:Nat→Prop,(∀j,waits o j=true→D j)→¬ D i→∀a w,I D a w→∀K':Act→World→Prop,(∀a' w',I (Done i D) a' w'→K' a' w')→wpList P l.toArray (Exit.then K' Q) [o] a w)
  (he:∀D a w,(∀i,i<l.length→D i)→I D a w→Q .normal a w):(Code.region id l.toArray true).wp P Q a w:=by
 refine wp_region_any hm (wpAny_inv I hb (fun D i o ho h1 h2 a w h3=>?_) (fun D a w h1 h2=>he D a w (fun i hi=>h1 i (by simpa using hi)) h2) _ _ (fun _=>False) a w.drew (by simp) (fun i hi=>?_) (by simp) h0)
 ·exact wpOp_of_list ho (hs i o (by simpa using ho) D (waits_of h1) h2 a w h3 _ fun a' w' h=>h)
 ·rw[getD_replicate_false];simp
def EachO (p:Nat→Oper→Prop):Nat→List Oper→Prop
 |_,[]=>True
 |k,x::l=>p k x∧EachO p (k+1) l
theorem EachO.at_ {p:Nat→Oper→Prop}:∀{l:List Oper}{k:Nat}(i:Nat) (o:Oper),EachO p k l→l[i]? = some o→p (k+i) o
 |[],_,_,_,_,h=>by simp at h
 |x::l,k,0,o,h,ho=>by simp at ho;subst ho;exact h.1
 |x::l,k,i+1,o,h,ho=>by
  have:=EachO.at_ (k:=k+1) i o h.2 (by simpa using ho)
  rwa [show k+1+i=k+(i+1) by omega]at this
theorem of_each {p:Nat→Oper→Prop}{l:List Oper}(h:EachO p 0 l):∀(i:Nat) (o:Oper),l[i]? = some o→p i o:=fun i o ho=>by
 have:=EachO.at_ i o h ho
 rwa [Nat.zero_add]at this
end
section
variable {P:Program}{L:List Oper}{C:World→Prop}{Q:Exit→Act→World→Prop}
theorem yielded_at {tmps:Array Value}{j dj:Nat}{oj:Oper}{x:Bool}(hj:L[j]? = some oj) (hjd:oj.dst=some dj) (hy:tmps[dj]? = some (.bool x)):yielded L.toArray tmps j=some x:=by
 unfold yielded
 rw[at_list hj]
 simp only[Option.bind_some,hjd,hy]
theorem wanted_no {o oj:Oper}{tmps:Array Value}{j dj:Nat}{b:Bool}(hg:o.guard=some (j,b)) (hj:L[j]? = some oj) (hjd:oj.dst=some dj) (hy:tmps[dj]? = some (.bool (!b))):Region.wanted o (yielded L.toArray tmps)=false:=by
 unfold Region.wanted
 rw[hg]
 simp only[yielded_at hj hjd hy]
 cases b <;> rfl
theorem wanted_yes {o oj:Oper}{tmps:Array Value}{j dj:Nat}{b:Bool}(hg:o.guard=some (j,b)) (hj:L[j]? = some oj) (hjd:oj.dst=some dj) (hy:tmps[dj]? = some (.bool b)):Region.wanted o (yielded L.toArray tmps)=true:=by
 unfold Region.wanted
 rw[hg]
 simp only[yielded_at hj hjd hy]
 cases b <;> rfl
theorem put_at {a:Act}{d dj:Nat}{v:Value}(h:d≠dj):(a.put (some d) v).tmps[dj]? = a.tmps[dj]?:=by
 simp[Act.put,h]
theorem stp_skip {K:Act→World→Prop}{a:Act}{w:World}{i:Nat}{l:List Stp}{o oj:Oper}{d j dj:Nat}{b:Bool}(ho:L[i]? = some o) (hd:o.dst=some d) (hg:o.guard=some (j,b)) (hj:L[j]? = some oj) (hjd:oj.dst=some dj)
  (hy:a.tmps[dj]? = some (.bool (!b))) (h:wpSteps P L.toArray C Q K l (a.put (some d) undef) w):wpSteps P L.toArray C Q K (.rd i::l) a w:=
 stp_no ho hd (wanted_no hg hj hjd hy) h
theorem stp_in {K:Act→World→Prop}{a:Act}{w:World}{i:Nat}{l:List Stp}{o oj:Oper}{d j dj:Nat}{b:Bool}(v:Value) (ho:L[i]? = some o) (hd:o.dst=some d) (hg:o.guard=some (j,b)) (hj:L[j]? = some oj) (hjd:oj.dst=some dj)
  (hy:a.tmps[dj]? = some (.bool b)) (hv:∀w,C w→(execOp a.eval o).run P w=.ok (.value v) w) (h:wpSteps P L.toArray C Q K l (a.put (some d) v) w):wpSteps P L.toArray C Q K (.rd i::l) a w:=
 stp_val v ho hd (wanted_yes hg hj hjd hy) hv h
theorem stp_skip_end {K:Act→World→Prop}{a:Act}{w:World}{i:Nat}{o oj:Oper}{d j dj:Nat}{b:Bool}(ho:L[i]? = some o) (hd:o.dst=some d) (hg:o.guard=some (j,b)) (hj:L[j]? = some oj) (hjd:oj.dst=some dj)
  (hy:a.tmps[dj]? = some (.bool (!b))) (h:∀K':Act→World→Prop,(∀a w,K a w→K' a w)→K' (a.put (some d) undef) w):wpSteps P L.toArray C Q K [.rd i] a w:=
 stp_skip ho hd hg hj hjd hy (wpSteps_nil (h K fun _ _ h=>h))
theorem stp_in_end {K:Act→World→Prop}{a:Act}{w:World}{i:Nat}{o oj:Oper}{d j dj:Nat}{b:Bool}(v:Value) (ho:L[i]? = some o) (hd:o.dst=some d) (hg:o.guard=some (j,b)) (hj:L[j]? = some oj) (hjd:oj.dst=some dj)
  (hy:a.tmps[dj]? = some (.bool b)) (hv:∀w,C w→(execOp a.eval o).run P w=.ok (.value v) w) (h:∀K':Act→World→Prop,(∀a w,K a w→K' a w)→K' (a.put (some d) v) w):wpSteps P L.toArray C Q K [.rd i] a w:=
 stp_in v ho hd hg hj hjd hy hv (wpSteps_nil (h K fun _ _ h=>h))
end
def puts (A:Act):List (Nat×Value)→Act
 |[]=>A
 |(d,v)::l=>(puts A l).put (some d) v
def seek:List (Nat×Value)→Nat→Option Value
 |[],_=>none
 |(d,v)::l,t=>bif Nat.beq d t then some v else seek l t
section
variable {A:Act}{l:List (Nat×Value)}{t:Nat}{v:Value}
theorem puts_size:∀l:List (Nat×Value),(puts A l).tmps.size=A.tmps.size
 |[]=>rfl
 |(d,v)::l=>by simp[puts,Act.put,puts_size l]
theorem get_hit:∀{l:List (Nat×Value)},seek l t=some v→t<A.tmps.size→(puts A l).tmps[t]? = some v
 |[],h,_=>by cases h
 |(d,u)::l,h,ht=>by
  unfold seek at h
  by_cases e:d=t
  ·subst e
   rw[show Nat.beq d d=true by simp]at h
   simp only[cond_true,Option.some.injEq]at h
   subst h
   simp[puts,Act.put,puts_size l,ht]
  ·rw[show Nat.beq d t=false by cases h0:Nat.beq d t with|false=>rfl|true=>exact absurd (Nat.eq_of_beq_eq_true h0) e]at h
   simp only[cond_false]at h
   have:=get_hit h ht
   simp only[puts]
   rw[put_at e];exact this
theorem get_old:∀{l:List (Nat×Value)},seek l t=none→A.tmps[t]? = some v→(puts A l).tmps[t]? = some v
 |[],_,ho=>ho
 |(d,u)::l,h,ho=>by
  unfold seek at h
  by_cases e:d=t
  ·subst e
   rw[show Nat.beq d d=true by simp]at h
   cases h
  ·rw[show Nat.beq d t=false by cases h0:Nat.beq d t with|false=>rfl|true=>exact absurd (Nat.eq_of_beq_eq_true h0) e]at h
   simp only[cond_false]at h
   simp only[puts]
   rw[put_at e];exact get_old h ho
theorem eval_of {a:Act}(h:a.tmps[t]? = some v):a.eval (.tmp t)=v:=by
 unfold Act.eval
 simp only[Array.getD_eq_getD_getElem?,h,Option.getD_some]
variable {P:Program}{L:List Oper}{C:World→Prop}{Q:Exit→Act→World→Prop}{K:Act→World→Prop}{w:World}{i:Nat}{st:List Stp}{o:Oper}{d:Nat}
theorem w_none {f:Nat→Option Bool}(h:o.guard=none):Region.wanted o f=true:=by unfold Region.wanted;rw[h]
abbrev Consts (ρ:Operand→Value):Prop:=(∀c,ρ (.const c)=c)∧(∀f,ρ (.func f)=.func (.func f) #[] #[])
theorem rgn_rd (v:Value) (fs:List (Nat×Value)) (ho:L[i]? = some o) (hd:o.dst=some d) (hg:Region.wanted o (yielded L.toArray (puts A l).tmps)=true) (hf:∀x∈fs,(puts A l).tmps[x.1]? = some x.2)
  (hv:∀ρ:Operand→Value,(∀x∈fs,ρ (.tmp x.1)=x.2)→Consts ρ→∀w,C w→(execOp ρ o).run P w=.ok (.value v) w) (h:wpSteps P L.toArray C Q K st (puts A ((d,v)::l)) w):wpSteps P L.toArray C Q K (.rd i::st) (puts A l) w:=
 stp_val v ho hd hg (hv _ (fun x hx=>eval_of (hf x hx)) ⟨fun _=>rfl,fun _=>rfl⟩) h
theorem rgn_rd1 {t1:Nat}{v1:Value}(v:Value) (ho:L[i]? = some o) (hd:o.dst=some d) (hg:Region.wanted o (yielded L.toArray (puts A l).tmps)=true) (f1:(puts A l).tmps[t1]? = some v1)
  (hv:∀ρ:Operand→Value,ρ (.tmp t1)=v1→Consts ρ→∀w,C w→(execOp ρ o).run P w=.ok (.value v) w) (h:wpSteps P L.toArray C Q K st (puts A ((d,v)::l)) w):wpSteps P L.toArray C Q K (.rd i::st) (puts A l) w:=
 stp_val v ho hd hg (hv _ (eval_of f1) ⟨fun _=>rfl,fun _=>rfl⟩) h
theorem rgn_rd2 {t1 t2:Nat}{v1 v2:Value}(v:Value) (ho:L[i]? = some o) (hd:o.dst=some d) (hg:Region.wanted o (yielded L.toArray (puts A l).tmps)=true) (f1:(puts A l).tmps[t1]? = some v1) (f2:(puts A l).tmps[t2]? = some v2)
  (hv:∀ρ:Operand→Value,ρ (.tmp t1)=v1→ρ (.tmp t2)=v2→Consts ρ→∀w,C w→(execOp ρ o).run P w=.ok (.value v) w) (h:wpSteps P L.toArray C Q K st (puts A ((d,v)::l)) w):wpSteps P L.toArray C Q K (.rd i::st) (puts A l) w:=
 stp_val v ho hd hg (hv _ (eval_of f1) (eval_of f2) ⟨fun _=>rfl,fun _=>rfl⟩) h
theorem name_frame {c:Code}{a:Act}(h:∀B:Act,B=a→Code.wp P c Q (puts B []) w):Code.wp P c Q a w:=h a rfl
end
end Go.Proofs.YtkbenkldfehhlaaGreatDoor
