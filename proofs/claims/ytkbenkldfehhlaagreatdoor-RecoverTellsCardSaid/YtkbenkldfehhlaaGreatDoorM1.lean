/-
  Texts merged by a program of this claim's: BytesPlain, EventPlain, Lib, Map, App, Disk.
-/
import Derived.WalkKit
import Derived.Lib.Hide
import Derived.Lib.QuietBelow
import Derived.Deep.QuietTactic
import Derived.BigQuiet
import Derived.StillTailTactics
import Derived.StringKeys
import Derived.Laws.IdiomRangeMap
import Derived.Sort.EncStr
import Derived.Laws.AppendOwn
import Derived.OwnWalk
namespace Go.Proofs.YtkbenkldfehhlaaGreatDoor
def uintB (n:Nat):List UInt8:=if h:n<128 then [UInt8.ofNat n] else UInt8.ofNat (n % 128+128)::uintB (n / 128)
termination_by n
decreasing_by omega
theorem uintB_small {n:Nat}(h:n<128):uintB n=[UInt8.ofNat n]:=by rw[uintB,dif_pos h]
theorem uintB_big {n:Nat}(h:¬ n<128):uintB n=UInt8.ofNat (n % 128+128)::uintB (n / 128):=by rw[uintB,dif_neg h]
def numF:Nat→Nat→List UInt8→Nat×Int
 |_,_,[]=>(0,0)
 |i,acc,c::l =>
  if i=9∧1<c.toNat then (0,-1)
  else if 128≤c.toNat then numF (i+1) (acc+c.toNat % 128*2 ^ (7*i)) l
  else if c.toNat=0∧0<i then (0,-1)
  else (acc+c.toNat % 128*2 ^ (7*i),(i:Int)+1)
theorem pow7 (i:Nat):(2:Nat) ^ (7*(i+1))=128*2 ^ (7*i):=by rw[Nat.mul_add,Nat.pow_add,Nat.mul_comm]
theorem pow_pos7 (i:Nat):0<(2:Nat) ^ (7*i):=Nat.pow_pos (by decide)
theorem numF_uintB (rest:List UInt8):∀(m i acc:Nat),i≤9→m*2 ^ (7*i)<2 ^ 64→(0<i→0<m)→numF i acc (uintB m++rest)=(acc+m*2 ^ (7*i),(i:Int)+(uintB m).length):=by
 intro m
 induction m using Nat.strongRecOn with
 |ind m ih =>
  intro i acc hi hm h0
  by_cases hs:m<128
  ·rw[uintB_small hs]
   have e:(UInt8.ofNat m).toNat=m:=by simp;omega
   have h9:¬ (i=9∧1<m):=by
    rintro ⟨rfl,h1⟩
    have:2*2 ^ (7*9)≤m*2 ^ (7*9):=Nat.mul_le_mul_right _ h1
    have e2:(2:Nat)*2 ^ (7*9)=2 ^ 64:=by decide
    omega
   simp only[List.cons_append,List.nil_append,numF,e]
   rw[if_neg h9,if_neg (by omega),if_neg (by rintro ⟨rfl,h⟩;exact absurd (h0 h) (by omega)),Nat.mod_eq_of_lt hs]
   simp
  ·rw[uintB_big hs]
   have e:(UInt8.ofNat (m % 128+128)).toNat=m % 128+128:=by simp;omega
   have h9:¬ i=9:=by
    rintro rfl
    have:128*2 ^ (7*9)≤m*2 ^ (7*9):=Nat.mul_le_mul_right _ (by omega)
    have e2:(2:Nat) ^ 64<128*2 ^ (7*9):=by decide
    omega
   have hdm:m / 128*128+m % 128=m:=by omega
   have hkey:acc+(m % 128+128) % 128*2 ^ (7*i)+m / 128*2 ^ (7*(i+1))=acc+m*2 ^ (7*i):=by
    rw[pow7,Nat.add_mod_right,Nat.mod_mod,Nat.add_assoc,←Nat.mul_assoc,←Nat.add_mul]
    congr 2;omega
   simp only[List.cons_append,numF,e]
   rw[if_neg (fun h=>h9 h.1),if_pos (by omega),ih (m / 128) (by omega) (i+1) _ (by omega) (by omega) (by omega),hkey]
   simp only[List.length_cons]
   congr 1
   omega
theorem numF_cut:∀(m i acc k:Nat),i≤9→m*2 ^ (7*i)<2 ^ 64→k<(uintB m).length→numF i acc ((uintB m).take k)=(0,0):=by
 intro m
 induction m using Nat.strongRecOn with
 |ind m ih =>
  intro i acc k hi hm hk
  by_cases hs:m<128
  ·rw[uintB_small hs]at hk ⊢
   obtain rfl:k=0:=by simpa using hk
   rfl
  ·rw[uintB_big hs]at hk ⊢
   cases k with
   |zero=>rfl
   |succ k =>
    have e:(UInt8.ofNat (m % 128+128)).toNat=m % 128+128:=by simp;omega
    have h9:¬ i=9:=by
     rintro rfl
     have:128*2 ^ (7*9)≤m*2 ^ (7*9):=Nat.mul_le_mul_right _ (by omega)
     have e2:(2:Nat) ^ 64<128*2 ^ (7*9):=by decide
     omega
    have hle:m / 128*2 ^ (7*(i+1))≤m*2 ^ (7*i):=by
     rw[pow7,←Nat.mul_assoc]
     exact Nat.mul_le_mul_right _ (by omega)
    simp only[List.take_succ_cons,numF,e]
    rw[if_neg (fun h=>h9 h.1),if_pos (by omega),ih (m / 128) (by omega) (i+1) _ k (by omega) (by omega) (by simpa using hk)]
theorem uintB_len (m:Nat):∀k,0<k→m<128 ^ k→(uintB m).length≤k:=by
 induction m using Nat.strongRecOn with
 |ind m ih =>
  intro k hk hm
  by_cases hs:m<128
  ·rw[uintB_small hs];exact hk
  ·rw[uintB_big hs]
   cases k with
   |zero=>omega
   |succ k =>
    have hk0:0<k:=by
     cases k with
     |zero=>simp at hm;omega
     |succ k=>omega
    have:=ih (m / 128) (by omega) k hk0 (by rw[Nat.pow_succ]at hm;omega)
    simpa using this
theorem uintB_pos (m:Nat):0<(uintB m).length:=by
 by_cases hs:m<128
 ·rw[uintB_small hs];simp
 ·rw[uintB_big hs];simp
def getU (b:List UInt8) (at_:Int):Nat×Int×Int:=
 if at_<0∨(b.length:Int)<at_ then (0,0,2)
 else if (numF 0 0 (b.drop at_.toNat)).2=0 then (0,0,11)
 else if (numF 0 0 (b.drop at_.toNat)).2<0 then (0,0,10)
 else ((numF 0 0 (b.drop at_.toNat)).1,at_+(numF 0 0 (b.drop at_.toNat)).2,0)
theorem getU_at (a rest:List UInt8) (m:Nat) (hm:m<2 ^ 64):getU (a++(uintB m++rest)) a.length=(m,(((a++uintB m).length:Nat):Int),0):=by
 have h:=numF_uintB rest m 0 0 (by omega) (by simpa using hm) (by omega)
 simp only[Nat.mul_zero,Nat.pow_zero,Nat.mul_one,Nat.zero_add,Int.natCast_zero,Int.zero_add]at h
 have hp:=uintB_pos m
 unfold getU
 rw[if_neg (by simp;omega)]
 simp only[Int.toNat_natCast,List.drop_left,h]
 rw[if_neg (by show ¬ ((uintB m).length:Int)=0;omega),if_neg (by show ¬ ((uintB m).length:Int)<0;omega)]
 simp
def zig (n:Int):Nat:=if 0≤n then (2*n).toNat else (-2*n-1).toNat
def zag (n:Nat):Int:=if n % 2=0 then (n / 2:Nat) else -((n / 2:Nat):Int)-1
theorem zag_zig (n:Int):zag (zig n)=n:=by
 unfold zig
 split
 ·unfold zag
  rw[if_pos (by omega)];omega
 ·unfold zag
  rw[if_neg (by omega)];omega
theorem zig_lt {n:Int}(h0 : -9223372036854775808≤n) (h1:n≤9223372036854775807):zig n<2 ^ 64:=by
 unfold zig
 split <;> omega
structure Ev where
 thread:Int
 op:UInt8
 obj:Int
 a:Int
 b:Int
def Ev.zero:Ev:=⟨0,0,0,0,0⟩
def in64 (n:Int):Prop:=-9223372036854775808≤n∧n≤9223372036854775807
structure Ev.Ok (e:Ev):Prop where
 thread:in64 e.thread
 obj:in64 e.obj
 a:in64 e.a
 b:in64 e.b
def w64 (n:Int):Int:=(n+9223372036854775808) % 18446744073709551616-9223372036854775808
theorem w64_in (n:Int):in64 (w64 n):=by unfold w64 in64;omega
theorem w64_back {a b:Int}(h:in64 b):w64 (a+w64 (b-a))=b:=by unfold in64 at h;unfold w64;omega
def intB (n:Int):List UInt8:=uintB (zig n)
def putE (h e:Ev):List UInt8:=e.op::(intB (w64 (e.thread-h.thread))++intB (w64 (e.obj-h.obj))++intB (w64 (e.a-h.a))++intB (w64 (e.b-h.b)))
def putL:Ev→List Ev→List UInt8
 |_,[]=>[]
 |h,e::l=>putE h e++putL e l
def lastE (h:Ev) (l:List Ev):Ev:=l.getLastD h
theorem putL_snoc:∀(l:List Ev) (h e:Ev),putL h (l++[e])=putL h l++putE (lastE h l) e
 |[],h,e=>by simp[putL,lastE]
 |x::l,h,e=>by
  simp only[List.cons_append,putL,putL_snoc l x e,List.append_assoc]
  congr 2
  unfold lastE
  cases l <;> simp[List.getLast?_cons]
def bodyB (l:List Ev):List UInt8:=uintB l.length++putL Ev.zero l
section
variable (sum:List UInt8→List UInt8)
def sealB (b:List UInt8):List UInt8:=b++sum b
def frameB (l:List Ev):List UInt8:=uintB (bodyB l).length++sealB sum (bodyB l)
end
theorem intB_len {n:Int}(h:in64 n):(intB n).length≤10:=uintB_len _ 10 (by omega) (Nat.lt_trans (zig_lt h.1 h.2) (by decide))
theorem putE_len (h e:Ev):(putE h e).length≤41:=by
 have h1:=intB_len (w64_in (e.thread-h.thread))
 have h2:=intB_len (w64_in (e.obj-h.obj))
 have h3:=intB_len (w64_in (e.a-h.a))
 have h4:=intB_len (w64_in (e.b-h.b))
 simp only[putE,List.length_cons,List.length_append]
 omega
theorem putL_len:∀(l:List Ev) (h:Ev),(putL h l).length≤41*l.length
 |[],_=>by simp[putL]
 |e::l,h=>by
  have h1:=putE_len h e
  have h2:=putL_len l e
  simp only[putL,List.length_append,List.length_cons]
  omega
theorem bodyB_len (l:List Ev) (h:l.length≤4096):(bodyB l).length≤41*l.length+2:=by
 have h1:=putL_len l Ev.zero
 have h2:=uintB_len l.length 2 (by omega) (by omega)
 simp only[bodyB,List.length_append]
 omega
theorem frameB_len {sum:List UInt8→List UInt8}(hs:∀b,(sum b).length=4) (l:List Ev) (h:l.length≤4096):(frameB sum l).length≤41*l.length+9:=by
 have h1:=bodyB_len l h
 have h2:=uintB_len (bodyB l).length 3 (by omega) (by omega)
 simp only[frameB,sealB,List.length_append,hs]
 omega
open Go Go.RowKit
structure Only (S:Nat→Prop) (w w':World):Prop where
 os:w'.os=w.os
 tape:w'.tape=w.tape
 output:w'.output=w.output
 size:w.heap.size≤w'.heap.size
 block:∀k,k<w.heap.size→¬ S k→w'.heap[k]? = w.heap[k]?
def Nw (w w':World):Prop:=Only (fun _=>False) w w'
section
variable {S T:Nat→Prop}{w w' w'':World}
theorem Only.refl (w:World):Only S w w:=⟨rfl,rfl,rfl,Nat.le_refl _,fun _ _ _=>rfl⟩
theorem Only.mono (h:Only S w w') (hST:∀k,k<w.heap.size→S k→T k):Only T w w':=
 ⟨h.os,h.tape,h.output,h.size,fun k hk hn=>h.block k hk (fun hs=>hn (hST k hk hs))⟩
theorem Only.trans (h:Only S w w') (h':Only S w' w''):Only S w w'':=
 ⟨h'.os.trans h.os,h'.tape.trans h.tape,h'.output.trans h.output,Nat.le_trans h.size h'.size,
  fun k hk hn=>(h'.block k (Nat.lt_of_lt_of_le hk h.size) hn).trans (h.block k hk hn)⟩
theorem Only.trans' (h:Only S w w') (h':Only T w' w'') (hT:∀k,k<w.heap.size→T k→S k):Only S w w'':=
 ⟨h'.os.trans h.os,h'.tape.trans h.tape,h'.output.trans h.output,Nat.le_trans h.size h'.size,
  fun k hk hn=>(h'.block k (Nat.lt_of_lt_of_le hk h.size) (fun ht=>hn (hT k hk ht))).trans (h.block k hk hn)⟩
theorem Only.drew (h:Only S w w'):Only S w w'.drew:=⟨h.os,h.tape,h.output,h.size,h.block⟩
theorem Only.drewN (h:Only S w w') (n:Nat):Only S w (w'.drewN n):=⟨h.os,h.tape,h.output,h.size,h.block⟩
theorem Only.alloc (h:Only S w w') (o:Obj):Only S w (w'.alloc o):=
 h.trans ⟨rfl,rfl,rfl,by simp,fun k hk _=>Below.heap_alloc _ _ _ hk⟩
theorem Only.setCell (h:Only S w w'){p:Addr}(hp:p.block<w.heap.size→S p.block) (u:Value):Only S w (w'.setCell p u):=
 h.trans' (T:=fun k=>k=p.block) ⟨rfl,rfl,rfl,by simp,fun k _ hn=>Below.heap_setCell _ _ _ _ hn⟩ (fun k hk e=>by subst e;exact hp hk)
theorem Only.setRow (h:Only S w w'){g:Nat}(hp:g<w.heap.size→S g) (cs:Array Value):Only S w (w'.setRow g cs):=
 h.trans' (T:=fun k=>k=g) ⟨rfl,rfl,rfl,by simp[World.setRow],fun k _ hn=>setRow_other _ _ _ _ hn⟩ (fun k hk e=>by subst e;exact hp hk)
theorem Only.of_below {B:Nat}(h:Below B w w') (hB:∀k,k<w.heap.size→¬ S k→k<B):Only S w w':=
 ⟨h.os,h.tape,h.output,h.size,fun k hk hn=>h.block k (hB k hk hn)⟩
theorem Only.below {B:Nat}(h:Only S w w') (hB:∀k,k<B→k<w.heap.size∧¬ S k):Below B w w':=
 ⟨h.os,h.tape,h.output,h.size,fun k hk=>h.block k (hB k hk).1 (hB k hk).2⟩
theorem Only.at_ (h:Only S w w'){k:Nat}{o:Obj}(hk:w.heap[k]? = some o) (hn:¬ S k):w'.heap[k]? = some o:=
 (h.block k (lt_of_block hk) hn).trans hk
theorem Only.cell (h:Only S w w'){a:Addr}{v:Value}(hk:w.cell? a=some v) (hn:¬ S a.block):w'.cell? a=some v:=
 (World.cell?_of_block (h.block _ (World.block_lt_of_cell? w a hk) hn)).trans hk
theorem Only.grown {row:Option Nat}(h:Only S w w') (hg:w'.grownBy w'' row) (hr:∀k,row=some k→k<w.heap.size→S k):Only S w w'':=
 h.trans' (T:=fun k=>row=some k) ⟨hg.os,hg.tape,hg.output,hg.size,fun k hk hn=>hg.block k hk (fun e=>hn e.symm)⟩ (fun k hk e=>hr k e hk)
theorem Nw.refl (w:World):Nw w w:=Only.refl w
theorem Nw.trans (h:Nw w w') (h':Nw w' w''):Nw w w'':=Only.trans h h'
theorem Nw.only (h:Nw w w'):Only S w w':=Only.mono h (fun _ _ hf=>hf.elim)
theorem Nw.drew (h:Nw w w'):Nw w w'.drew:=Only.drew h
theorem Nw.drewN (h:Nw w w') (n:Nat):Nw w (w'.drewN n):=Only.drewN h n
theorem Nw.alloc (h:Nw w w') (o:Obj):Nw w (w'.alloc o):=Only.alloc h o
theorem Nw.at_ (h:Nw w w'){k:Nat}{o:Obj}(hk:w.heap[k]? = some o):w'.heap[k]? = some o:=Only.at_ h hk (fun hf=>hf)
theorem Nw.cell (h:Nw w w'){a:Addr}{v:Value}(hk:w.cell? a=some v):w'.cell? a=some v:=Only.cell h hk (fun hf=>hf)
theorem Nw.of_below (h:Below w.heap.size w w'):Nw w w':=Only.of_below h (fun _ hk _=>hk)
theorem Nw.below (h:Nw w w'):Below w.heap.size w w':=Only.below h (fun _ hk=>⟨hk,fun hf=>hf⟩)
theorem Nw.regrown (h:Nw w w'):∃p:Regrown,w'=Go.Sort.grow (redrawn w p.d) p.os:=regrown_of_below h.below
theorem Nw.of_regrown (h:∃p:Regrown,w'=Go.Sort.grow (redrawn w p.d) p.os):Nw w w':=by
 obtain⟨p,rfl⟩:=h;exact Nw.of_below (below_regrown w p.d p.os)
end
section
variable {P:Program}{ops:Array Oper}{md:Region.Mode}{C:World→Prop}
def wpHead (P:Program) (md:Region.Mode) (ops:Array Oper) (C:World→Prop) (n:Nat) (L:Array Bool→Act→Prop):Nat→Array Bool→Act→Prop
 |0,listed,a=>L listed a
 |f+1,listed,a =>
  Region.ready md ops listed≠[]∧∀i∈Region.ready md ops listed,i<n∧qOp P ops C i (wpHead P md ops C n L f (listed.setIfInBounds i true)) a
theorem wpAny_of_wpHead {n g:Nat}{L:Array Bool→Act→Prop}{Q':Exit→Act→World→Prop}(hL:∀listed a w,C w→L listed a→wpAny P md ops Q' g listed a w) :
  ∀(f:Nat) (listed:Array Bool) (a:Act) (w:World),C w→wpHead P md ops C n L f listed a→wpAny P md ops Q' (f+g) listed a w
 |0,listed,a,w,hw,h=>by rw[Nat.zero_add];exact hL _ _ _ hw h
 |f+1,listed,a,w,hw,h=>by
  rw[show f+1+g=(f+g)+1 by omega]
  exact⟨fun h0=>absurd h0 h.1,fun i hi=>wpOp_of_qOp hw (fun a' w' hw' h'=>wpAny_of_wpHead hL f _ a' w' hw' h') (h.2 i hi).2⟩
theorem wpHead_first {n i:Nat}{oi:Oper}{v:Value}{L:Array Bool→Act→Prop}(hi:ops[i]? = some oi) (hsel:∀(j:Nat) (o:Oper) cs b,ops[j]? = some o→o.op≠.select cs b)
  (hs:Region.sinkB md ops n=true) (hc:Region.chainB md ops n=true) (hn:n<ops.size) (hin:i<n)
  (hdone:∀listed a,L listed a→∀j∈Region.ready md ops listed,n≤j) :
  ∀(f:Nat) (listed:Array Bool) (a:Act),HeadInv md ops n listed →
   (∀j oj,ops[j]? = some oj→j≠i→listed.getD j true=false→(∀e∈oj.after,Region.binds md e=true→e.on≠i)→oi.apart ops oj=true) →
   i∈Region.ready md ops listed→YieldsIn P ops C oi v a →
   wpHead P md ops C n L f (listed.setIfInBounds i true) (a.put oi.dst v)→wpHead P md ops C n L (f+1) listed a:=by
 intro f
 induction f with
 |zero =>
  intro listed a inv _ hr hy H
  have hun:=(mem_ready.1 hr).1
  refine⟨fun h=>(by rw[h]at hr;cases hr),fun j hj=>?_⟩
  have hjn:j<n:=by
   rcases Nat.lt_or_ge j n with h|h
   ·exact h
   ·exact absurd hj (tail_waits hs hc hn inv _ i rfl hin hun j h)
  refine⟨hjn,?_⟩
  by_cases hji:j=i
  ·subst hji;exact hy.qOp hi H
  ·have:=hdone _ _ H j (ready_mono hj hji)
   omega
 |succ f ih =>
  intro listed a inv hfree hr hy H
  have hun:=(mem_ready.1 hr).1
  refine⟨fun h=>(by rw[h]at hr;cases hr),fun j hj=>?_⟩
  have hjn:j<n:=by
   rcases Nat.lt_or_ge j n with h|h
   ·exact h
   ·exact absurd hj (tail_waits hs hc hn inv _ i rfl hin hun j h)
  refine⟨hjn,?_⟩
  by_cases hji:j=i
  ·subst hji;exact hy.qOp hi H
  ·have h1:=(H.2 j (ready_mono hj hji)).2
   obtain⟨hjun,oj,hoj,hall⟩:=mem_ready.1 hj
   have hnot:∀e∈oj.after,Region.binds md e=true→e.on≠i:=fun e he hb heq=>by
    have h1:=hall e he hb
    rw[heq,getD_both hun]at h1
    cases h1
   have h2:=qOp_put hoj (hfree j oj hoj hji hjun hnot) (fun cs b=>hsel i oi cs b hi) (fun cs b=>hsel j oj cs b hoj) hy h1
   have hfree':∀k ok,ops[k]? = some ok→k≠i→(listed.setIfInBounds j true).getD k true=false →
     (∀e∈ok.after,Region.binds md e=true→e.on≠i)→oi.apart ops ok=true:=fun k ok hk hki hun hno=>by
    refine hfree k ok hk hki ?_ hno
    by_cases hjk:j=k
    ·subst hjk;exact hjun
    ·rw[getD_set_ne true hjk]at hun;exact hun
   refine qOp_mono (fun a' h3=>ih (listed.setIfInBounds j true) a' (inv.set hj hjn) hfree' (ready_mono hr (Ne.symm hji)) h3.1 ?_) h2
   rw[Array.setIfInBounds_comm _ _ hji]
   exact h3.2
theorem wpHead_lex {n g:Nat}{Lq:Act→Prop}(hsel:Region.noSelect ops=true) (hs:Region.sinkB md ops n=true) (hc:Region.chainB md ops n=true) (hn:n<ops.size) :
  ∀(l:List Oper) (k:Nat) (listed:Array Bool) (a:Act),(∀j,j<l.length→l[j]? = ops[k+j]?)→k+l.length=n→HeadInv md ops n listed →
  Region.lexHead md ops g l.length k listed=true→wpQuiet P ops C Lq l a →
  wpHead P md ops C n (fun listed' a'=>Region.seqB md ops g n listed'=true∧Lq a') l.length listed a
 |[],k,listed,a,_,hk,_,hB,h=>by
  have:k=n:=by simpa using hk
  subst this
  exact⟨by simpa [Region.lexHead] using hB,h⟩
 |o::l,k,listed,a,hl,hk,inv,hB,h=>by
  have h0:ops[k]? = some o:=by simpa using (hl 0 (by simp)).symm
  simp only[List.length_cons,Region.lexHead,Bool.and_eq_true]at hB
  obtain⟨⟨hr,hf⟩,hB'⟩:=hB
  have hkn:k<n:=by simp only[List.length_cons]at hk;omega
  have hr':k∈Region.ready md ops listed:=by simpa using hr
  have hst:qOp P ops C k (wpQuiet P ops C Lq l) a:=by unfold qOp;simp only[h0];exact h
  obtain⟨v,hy,hK⟩:=yieldsIn_of_qOp h0 hst
  exact wpHead_first h0 (Region.noSelect_spec hsel) hs hc hn hkn (fun listed' a' hL=>seqB_ready hL.1) l.length listed a inv (Region.free_spec h0 hf) hr' hy
   (wpHead_lex hsel hs hc hn l (k+1) _ _ (fun j hj=>by have:=hl (j+1) (by simp;omega);simpa [Nat.add_assoc,Nat.add_comm 1 j] using this) (by simp only[List.length_cons]at hk;omega) (inv.set hr' hkn) hB' hK)
theorem wp_region_head_tail {id:Nat}{Q:Exit→Act→World→Prop}{a:Act}{w:World}{l:List Oper}(n:Nat) (hm:P.follows .mixedOrders=true) (hB:Region.lexTailB .any l.toArray n=true)
  (hC:C { w with drawn:=w.drawn+1 })
  (h:wpQuiet P l.toArray C (fun a'=>∀w',C w'→wpList P l.toArray Q (l.drop n) a' w') (l.take n) a):(Code.region id l.toArray true).wp P Q a w:=by
 simp only[Region.lexTailB,Bool.and_eq_true,decide_eq_true_eq]at hB
 obtain⟨⟨⟨⟨hsel,hn⟩,hs⟩,hc⟩,hlex⟩:=hB
 have hn':n<l.length:=by simpa using hn
 have htl:(l.take n).length=n:=by simp;omega
 have hdl:(l.drop n).length=l.toArray.size-n:=by simp
 have inv0:HeadInv .any l.toArray n (Array.replicate l.toArray.size false):=
  ⟨by simp,fun j oj _ hl=>(by rw[getD_replicate_false]at hl;cases hl),fun t _ ht=>getD_in (by simpa using ht) (getD_replicate_false _ _)⟩
 have H:=wpHead_lex (md:=.any) (g:=l.toArray.size-n) hsel hs hc hn (l.take n) 0 _ a (fun j hj=>by
  have hj':j<n:=by rw[htl]at hj;exact hj
  simp[hj']) (by simpa using htl) inv0 (by rw[htl];exact hlex) h
 refine wp_region_any hm ?_
 have:=wpAny_of_wpHead (Q':=Q) (g:=l.toArray.size-n) (fun listed a' w' hw' hL=>by
  have:=wpAny_of_seq (md:=.any) (Q':=Q) (l.drop n) n listed a' w' (fun j=>by simp[List.getElem?_drop]) (by rw[hdl];exact hL.1) (hL.2 w' hw')
  rwa [hdl]at this) _ _ _ _ hC H
 rw[htl,show n+(l.toArray.size-n)=l.toArray.size by omega]at this
 exact this
theorem wp_region_tail_below {id:Nat}{Q:Exit→Act→World→Prop}{a:Act}{w:World}{l:List Oper}(n:Nat) (hm:P.follows .mixedOrders=true) (hB:Region.lexTailB .any l.toArray n=true)
  (h:wpQuiet P l.toArray (fun w'=>∃p:Regrown,w'=Go.Sort.grow (redrawn w p.d) p.os) (fun a'=>∀w',(∃p:Regrown,w'=Go.Sort.grow (redrawn w p.d) p.os)→wpList P l.toArray Q (l.drop n) a' w') (l.take n) a):(Code.region id l.toArray true).wp P Q a w:=
 wp_region_head_tail (C:=fun w'=>∃p:Regrown,w'=Go.Sort.grow (redrawn w p.d) p.os) n hm hB ⟨⟨w.drawn+1,#[]⟩,by rw[Go.Sort.grow_empty];rfl⟩ h
end
theorem zH {p:Prop}(h:p):Go.RowKit.Hid p:=h
theorem zN {α:Sort _}(a:α):∃y,a=y:=⟨a,rfl⟩
abbrev Str:=List UInt8
structure En where
 key:Str
 val:Value
 born:Nat
def En.entry (e:En):MapEntry:={ key:=.string ⟨e.key.toArray⟩,val:=e.val,born:=e.born }
def ents (L:List En):Array MapEntry:=(L.map En.entry).toArray
theorem str_inj {a b:Str}(h:(⟨a.toArray⟩:ByteArray)=⟨b.toArray⟩):a=b:=by
 have:=congrArg (fun x=>x.data.toList) h;simpa using this
theorem sameNow_str (a b:Str):Instr.sameNow .string (.string ⟨a.toArray⟩) (.string ⟨b.toArray⟩)=some (decide (a=b)):=by
 simp only[Instr.sameNow]
 congr 1
 by_cases h:a=b
 ·subst h;simp only[decide_true];exact (MapKept.bytes_beq _ _).2 rfl
 ·simp only[h,decide_false]
  rw[Bool.eq_false_iff]
  exact fun e=>h (str_inj ((MapKept.bytes_beq _ _).1 e))
theorem findNow_miss (k:Str):∀(L:List En) (i:Nat),k∉L.map En.key→Instr.findNow .string (.string ⟨k.toArray⟩) (L.map En.entry) i=some none
 |[],_,_=>rfl
 |e::L,i,h=>by
  simp only[List.map_cons,List.mem_cons,not_or]at h
  simp only[List.map_cons,Instr.findNow,En.entry,sameNow_str,decide_eq_false h.1]
  exact findNow_miss k L (i+1) h.2
theorem findNow_hit (k:Str) (e:En) (he:e.key=k):∀(A B:List En) (i:Nat),k∉A.map En.key →
  Instr.findNow .string (.string ⟨k.toArray⟩) ((A++e::B).map En.entry) i=some (some (i+A.length,e.val))
 |[],B,i,_=>by subst he;simp[Instr.findNow,En.entry,sameNow_str]
 |a::A,B,i,h=>by
  simp only[List.map_cons,List.mem_cons,not_or]at h
  simp only[List.cons_append,List.map_cons,Instr.findNow,En.entry,sameNow_str,decide_eq_false h.1]
  rw[findNow_hit k e he A B (i+1) h.2]
  simp;omega
theorem split_key (k:Str):∀(L:List En),k∉L.map En.key∨∃A e B,L=A++e::B∧e.key=k∧k∉A.map En.key
 |[]=>.inl (by simp)
 |a::L=>by
  by_cases h:a.key=k
  ·exact .inr ⟨[],a,L,rfl,h,by simp⟩
  ·rcases split_key k L with h1|⟨A,e,B,rfl,h2,h3⟩
   ·exact .inl (by simp[h1,Ne.symm h])
   ·exact .inr ⟨a::A,e,B,rfl,h2,by simp[h3,Ne.symm h]⟩
def World.setBlk (w:World) (r:Nat) (o:Obj):World:={ w with heap:=w.heap.setIfInBounds r o }
theorem setBlk_same {w:World}{r:Nat}{o o':Obj}(h:w.heap[r]? = some o):(World.setBlk w r o').heap[r]? = some o':=(MapKept.heap_set h).1
theorem setBlk_other {w:World}{r k:Nat}{o':Obj}(h:k≠r):(World.setBlk w r o').heap[k]? = w.heap[k]?:=by
 simp[World.setBlk,Ne.symm h]
@[simp] theorem setBlk_size {w:World}{r:Nat}{o:Obj}:(World.setBlk w r o).heap.size=w.heap.size:=by simp[World.setBlk]
theorem Only.setBlk {S:Nat→Prop}{w w':World}(h:Only S w w'){r:Nat}(hp:r<w.heap.size→S r) (o:Obj):Only S w (World.setBlk w' r o):=
 h.trans' (T:=fun k=>k=r) ⟨rfl,rfl,rfl,by simp,fun k _ hn=>setBlk_other hn⟩ (fun k hk e=>by subst e;exact hp hk)
section
variable {P:Program}{w:World}{t kt et:TypeId}{m clock:Nat}{L:List En}{k:Str}
theorem run_checkStr (hk:P.underlying kt=some .string) (b:Bool) (k:Str) (w:World):(Instr.checkKey b 10000 kt (.string ⟨k.toArray⟩)).run P w=.ok () w:=
 MapKept.run_checkKey (k:=.string ⟨k.toArray⟩) hk (by simp[MapKept.IsKey]) b 9999
theorem run_look_miss (ht:P.underlying t=some (.map kt et)) (hk:P.underlying kt=some .string){z:Value}(hz:(zeroValue et).run P w=.ok z w)
  (hb:w.heap[m]? = some (.map (ents L) clock)) (hn:k∉L.map En.key) :
  (Instr.lookup t (.map (some m)) (.string ⟨k.toArray⟩) false).run P w=.ok z w:=by
 have h1:=MapKept.run_findKey (w:=w) hk (findNow_miss k L 0 hn)
 have h2:=fun b=>run_checkStr (w:=w) hk b k
 simp[Instr.lookup,run_underlying ht,MapKept.run_getObj_map hb,h2,Result.andThen,ents,h1,hz]
theorem run_look_hit {A B:List En}{e:En}(ht:P.underlying t=some (.map kt et)) (hk:P.underlying kt=some .string)
  (hb:w.heap[m]? = some (.map (ents (A++e::B)) clock)) (he:e.key=k) (hn:k∉A.map En.key) :
  (Instr.lookup t (.map (some m)) (.string ⟨k.toArray⟩) false).run P w=.ok e.val w:=by
 have h1:=MapKept.run_findKey (w:=w) hk (findNow_hit k e he A B 0 hn)
 have h2:=fun b=>run_checkStr (w:=w) hk b k
 unfold ents at hb
 generalize (A++e::B).map En.entry=l at *
 simp[Instr.lookup,run_underlying ht,MapKept.run_getObj_map hb,h2,Result.andThen,h1]
theorem run_store_miss (ht:P.underlying t=some (.map kt et)) (hk:P.underlying kt=some .string) (hb:w.heap[m]? = some (.map (ents L) clock)) (hn:k∉L.map En.key) (v:Value) :
  (Instr.mapUpdate t (.map (some m)) (.string ⟨k.toArray⟩) v).run P w=.ok () (World.setBlk w m (.map (ents (L++[⟨k,v,clock⟩])) (clock+1))):=by
 have h1:=MapKept.run_findKey (w:=w) hk (findNow_miss k L 0 hn)
 have h2:=run_checkStr (w:=w) hk false k
 simp[Instr.mapUpdate,run_underlying ht,MapKept.run_getObj_map hb,h2,Result.andThen,ents,h1,MapKept.run_setObj_map _ hb,World.setBlk,En.entry]
theorem run_store_hit {A B:List En}{e:En}(ht:P.underlying t=some (.map kt et)) (hk:P.underlying kt=some .string) (hb:w.heap[m]? = some (.map (ents (A++e::B)) clock)) (he:e.key=k) (hn:k∉A.map En.key) (v:Value) :
  (Instr.mapUpdate t (.map (some m)) (.string ⟨k.toArray⟩) v).run P w=.ok () (World.setBlk w m (.map (ents (A++⟨k,v,e.born⟩::B)) clock)):=by
 have h1:=MapKept.run_findKey (w:=w) hk (findNow_hit k e he A B 0 hn)
 have h2:=run_checkStr (w:=w) hk false k
 have h3:=MapKept.run_keyThatStays (P:=P) (w:=w) (d:=.string) (k:=.string ⟨k.toArray⟩) trivial
 subst he
 have hget:((A++e::B).map En.entry).toArray[A.length]? = some e.entry:=by simp
 simp only[Instr.mapUpdate,Sem.run_bind,run_underlying ht,MapKept.run_getObj_map hb,h2,Result.andThen,ents,h1,Nat.zero_add,hget,Option.map_some,Option.getD_some]
 simp only[En.entry]at h3 ⊢
 simp only[h3,MapKept.run_setObj_map _ hb,World.setBlk]
 congr 3
 have hm:∀(X Y:List MapEntry) (f:MapEntry→MapEntry) (y:MapEntry),(X++y::Y).toArray.modify X.length f=(X++f y::Y).toArray:=fun X Y f y=>by
  apply Array.ext'
  rw[Array.toList_modify]
  simp[List.modify_eq_take_drop]
 have:=hm (A.map En.entry) (B.map En.entry) (fun x=>{ key:=.string ⟨e.key.toArray⟩,val:=v,born:=x.born }) e.entry
 rw[List.length_map]at this
 simpa [List.map_append,En.entry] using this
theorem run_drop_hit {A B:List En}{e:En}(ty:TypeId) (ht:P.underlying t=some (.map kt et)) (hk:P.underlying kt=some .string) (hb:w.heap[m]? = some (.map (ents (A++e::B)) clock)) (he:e.key=k) (hn:k∉A.map En.key) :
  (Builtin.delete_ #[t,kt] ty #[.map (some m),.string ⟨k.toArray⟩]).run P w=.ok (.tuple #[]) (World.setBlk w m (.map (ents (A++B)) clock)):=by
 have h1:=MapKept.run_findKey (w:=w) hk (findNow_hit k e he A B 0 hn)
 have h2:=fun b=>run_checkStr (w:=w) hk b k
 simp only[Builtin.delete_,List.getElem?_toArray,List.getElem?_cons_zero,List.getElem?_cons_succ,Sem.run_bind,run_underlying ht,MapKept.run_getObj_map hb,h2,Result.andThen,ents,h1,MapKept.run_setObj_map _ hb,World.setBlk]
 simp[Array.eraseIdxIfInBounds,List.eraseIdx_append_of_length_le]
theorem run_len_map (ty:TypeId) (ht:P.underlying t=some (.map kt et)) (hb:w.heap[m]? = some (.map (ents L) clock)) :
  (Builtin.len_ #[t] ty #[.map (some m)]).run P w=.ok (.int .i64 L.length) w:=by
 simp[Builtin.len_,run_underlying ht,MapKept.run_getObj_map hb,ents,goInt]
theorem run_range_en (ht:P.underlying t=some (.map kt et)) (hb:w.heap[m]? = some (.map (ents L) clock)) :
  (Instr.range t (.map (some m))).run P w=.ok (.pointer (some ⟨w.heap.size,0,none⟩)) (w.alloc (.mapIter (some m) clock #[] clock)):=
 run_range_map w t kt et m _ clock ht hb
def leftEn (L:List En) (seen:Array Nat):List En:=L.filter fun e=>!seen.contains e.born
theorem run_next_en (ty:TypeId){r since last:Nat}{seen:Array Nat}(hr:w.heap[r]? = some (.mapIter (some m) since seen last))
  (hb:w.heap[m]? = some (.map (ents L) clock)) (hold:∀e∈L,e.born<since) (hsc:since≤last) :
  (leftEn L seen=[]∧(Instr.next (.pointer (some ⟨r,0,none⟩)) false ty).run P w=.ok (.tuple #[.bool false]) w) ∨
  ∃e∈leftEn L seen,∃w1:World,(w1=w∨w1=w.drew)∧(Instr.next (.pointer (some ⟨r,0,none⟩)) false ty).run P w =
   .ok (.tuple #[.bool true,.string ⟨e.key.toArray⟩,e.val]) (World.setBlk w1 r (.mapIter (some m) since (seen.push e.born) clock)):=by
 have hold':∀x∈(ents L).toList,x.born<since:=fun x hx=>by
  simp only[ents,List.mem_map]at hx
  obtain⟨e,he,rfl⟩:=hx
  exact hold e he
 simp only[Instr.next,getObj,Sem.run_bind,Sem.run,hr,hb,Result.andThen,next_test_false seen (ents L) since last hold' hsc,Bool.false_eq_true,if_false]
 have hl:Array.filter (fun e=>!seen.contains e.born) (ents L)=((leftEn L seen).map En.entry).toArray:=by
  apply Array.ext'
  simp only[ents,leftEn,Array.toList_filter,List.filter_map]
  rfl
 have hsub:∀e∈leftEn L seen,e.born<since:=fun e he=>hold e (List.mem_filter.1 he).1
 rw[hl]
 generalize leftEn L seen=M at hsub ⊢
 have e1:((M.map En.entry).toArray).filter (fun x=>decide (x.born<since))=(M.map En.entry).toArray:=Array.filter_eq_self.2 (fun x hx=>by
  simp only[List.mem_toArray,List.mem_map]at hx
  obtain⟨e,he,rfl⟩:=hx
  exact decide_eq_true (hsub e he))
 have e2:((M.map En.entry).toArray).filter (fun x=>decide (x.born ≥ since))=#[]:=by
  rw[Array.filter_eq_empty_iff]
  intro x hx
  simp only[List.mem_toArray,List.mem_map]at hx
  obtain⟨e,he,rfl⟩:=hx
  have:=hsub e he
  simp[En.entry];omega
 simp only[e1,e2,Array.append_empty]
 by_cases h0:M=[]
 ·subst h0
  exact .inl ⟨rfl,by simp[choose,Sem.run,Question.forced]⟩
 ·right
  have hp:0<M.length:=List.length_pos_iff.2 h0
  have hne:((M.map En.entry).toArray).isEmpty=false:=by simp[Array.isEmpty];omega
  simp only[hne,Bool.false_eq_true,if_false,Array.empty_append,Array.size_map,List.size_toArray,List.length_map]
  have hch:∃(j:Nat) (w1:World),j<M.length∧(w1=w∨w1=w.drew)∧(choose (Question.mapNext M.length)).run P w=.ok j w1:=by
   by_cases hf:M.length≤1
   ·exact⟨0,w,hp,.inl rfl,by simp[choose,Sem.run,Question.forced,hf]⟩
   ·exact⟨_,w.drew,Nat.mod_lt _ hp,.inr rfl,by
     simp only[choose,Sem.run,Question.forced,decide_eq_true_eq,hf,if_false,Question.cut]
     rfl⟩
  obtain⟨j,w1,hj,hw1,hrun⟩:=hch
  have hr1:w1.heap[r]? = some (.mapIter (some m) since seen last):=by rcases hw1 with rfl|rfl <;> exact hr
  refine⟨M[j],by simp,w1,hw1,?_⟩
  simp only[hrun,List.map_toArray,List.getElem?_toArray,List.getElem?_map,List.getElem?_eq_getElem hj,Option.map_some,Sem.run_bind,setObj,Sem.run,hr1,Result.andThen]
  rfl
end
abbrev i64v (k:Int):Value:=.int .i64 k
def Rd {α:Type}(f:α→Value) (w:World) (v:Value) (l:List α):Prop:=
 (∃a,v=.slice a 0 0∧l=[])∨∃g o cap,v=.slice (some ⟨g,o,none⟩) l.length cap∧l.length≤cap∧cap≤maxLen∧g<w.heap.size ∧
  ∀i (h:i<l.length),w.cell? ⟨g,o+i,none⟩=some (f l[i])
theorem Rd.keep {α:Type}{f:α→Value}{S:Nat→Prop}{w w':World}{v:Value}{l:List α}(h:Rd f w v l) (ho:Only S w w') (hb:l≠[]→∀g,v.ownBlock=some g→¬ S g):Rd f w' v l:=by
 rcases h with h|⟨g,o,cap,rfl,h1,h2,hg,h3⟩
 ·exact .inl h
 ·exact .inr ⟨g,o,cap,rfl,h1,h2,Nat.lt_of_lt_of_le hg ho.size,fun i hi=>ho.cell (h3 i hi) (hb (fun e=>by rw[e]at hi;exact absurd hi (by simp)) g rfl)⟩
theorem Rd.nw {α:Type}{f:α→Value}{w w':World}{v:Value}{l:List α}(h:Rd f w v l) (ho:Nw w w'):Rd f w' v l:=h.keep ho (fun _ _ _ hf=>hf)
theorem Rd.lt {α:Type}{f:α→Value}{w:World}{v:Value}{l:List α}(h:Rd f w v l) (hne:l≠[]):∀g,v.ownBlock=some g→g<w.heap.size:=by
 rcases h with ⟨a,rfl,e⟩|⟨g,o,cap,rfl,h1,h2,hg,h3⟩
 ·exact absurd e hne
 ·intro k hk;cases hk;exact hg
theorem Rd.len {α:Type}{f:α→Value}{w:World}{v:Value}{l:List α}(h:Rd f w v l):∃a cap,v=.slice a l.length cap∧l.length≤maxLen:=by
 rcases h with ⟨a,rfl,rfl⟩|⟨g,o,cap,rfl,h1,h2,hg,h3⟩
 ·exact⟨_,_,rfl,Nat.zero_le _⟩
 ·exact⟨_,_,rfl,Nat.le_trans h1 h2⟩
theorem Rd.elems {α:Type}{f:α→Value}{w:World}{v:Value}{l:List α}(h:Rd f w v l):∃a cap,v=.slice a l.length cap∧l.length≤cap∧cap≤maxLen ∧
  ∀i (h:i<l.length),∃g o,a=some ⟨g,o,none⟩∧g<w.heap.size∧w.cell? ⟨g,o+i,none⟩=some (f l[i]):=by
 rcases h with ⟨a,rfl,rfl⟩|⟨g,o,cap,rfl,h1,h2,hg,h3⟩
 ·exact⟨_,_,rfl,by simp,by simp,fun i hi=>absurd hi (by simp)⟩
 ·exact⟨_,_,rfl,h1,h2,fun i hi=>⟨g,o,rfl,hg,h3 i hi⟩⟩
def RowF {α:Type}(f:α→Value) (e:TypeId) (w:World) (v:Value) (l:List α):Prop:=
 (v=.slice none 0 0∧l=[])∨∃g cap cur,v=.slice (some ⟨g,0,none⟩) l.length cap∧w.heap[g]? = some (.cells cur e (0,0))∧l.length≤cap∧cap≤cur.size∧cap≤maxLen ∧
  cur.toList.take l.length=l.map f
theorem RowF.keep {α:Type}{f:α→Value}{e:TypeId}{w w':World}{v:Value}{l:List α}(h:RowF f e w v l) (hb:∀g,v.ownBlock=some g→w'.heap[g]? = w.heap[g]?):RowF f e w' v l:=by
 rcases h with h|⟨g,cap,cur,rfl,h1,h2⟩
 ·exact .inl h
 ·exact .inr ⟨g,cap,cur,rfl,by rw[hb g rfl];exact h1,h2⟩
theorem RowF.cells {α:Type}{f:α→Value}{e:TypeId}{w:World}{g:Nat}{cur:Array Value}{l:List α}(h1:w.heap[g]? = some (.cells cur e (0,0))) (h5:cur.toList.take l.length=l.map f) (i:Nat) (hi:i<l.length) :
  w.cell? ⟨g,i,none⟩=some (f l[i]):=by
 have e:cur.toList[i]? = (l.map f)[i]?:=by rw[←h5];simp[hi]
 have e':cur[i]? = some (f l[i]):=by
  have:cur.toList[i]? = cur[i]?:=by simp
  rw[←this,e];simp[hi]
 simp[World.cell?,h1,e']
theorem RowF.rd {α:Type}{f:α→Value}{e:TypeId}{w:World}{v:Value}{l:List α}(h:RowF f e w v l):Rd f w v l:=by
 rcases h with h|⟨g,cap,cur,rfl,h1,h2,h3,h4,h5⟩
 ·exact .inl ⟨_,h⟩
 ·exact .inr ⟨g,0,cap,rfl,h2,h4,lt_of_block h1,fun i hi=>by rw[Nat.zero_add];exact RowF.cells h1 h5 i hi⟩
theorem RowF.lt {α:Type}{f:α→Value}{e:TypeId}{w:World}{v:Value}{l:List α}(h:RowF f e w v l):∀g,v.ownBlock=some g→g<w.heap.size:=by
 rcases h with ⟨rfl,_⟩|⟨g,cap,cur,rfl,h1,_⟩
 ·intro g hg;cases hg
 ·intro k hk;cases hk;exact lt_of_block h1
theorem RowF.nil {α:Type}{f:α→Value}{e:TypeId}{w:World}:RowF f e w (.slice none 0 0) []:=.inl ⟨rfl,rfl⟩
section
variable {α:Type}{f:α→Value}{P:Program}{w:World}
theorem rd_news {g o:Nat}{ys:List α}(h:∀i (h:i<ys.length),w.cell? ⟨g,o+i,none⟩=some (f ys[i])) :
  ∀j u,(ys.map f)[j]? = some u→w.cell? ((⟨g,o,none⟩:Addr).add j)=some u:=by
 intro j u hj
 rw[List.getElem?_map]at hj
 cases hy:ys[j]? with
 |none=>rw[hy]at hj;simp at hj
 |some y =>
  rw[hy]at hj
  simp at hj
  obtain⟨hlt,he⟩:=List.getElem?_eq_some_iff.1 hy
  have:=h j hlt
  rw[he,hj]at this
  rw[←this]
  cases j with
  |zero=>rfl
  |succ j=>rfl
theorem run_append_row (hf:∀x,(f x).oneCell'=true) (t ty e:TypeId) (i:TypeInfo) (z:Value) (bytes:Nat) (ht:P.underlying t=some (.slice e)) (hi:P.info? e=some i) (hz:i.zero=some z)
  (hsize:i.size=1) (hby:i.bytes=bytes) (hzs:z.cells.size=1){v src:Value}{xs ys:List α}(hrow:RowF f e w v xs) (hsrc:Rd f w src ys)
  (hlen:xs.length+ys.length≤maxLen) (hbytes:(xs.length+ys.length)*bytes≤140737488355328) :
  ∃v' w',(Builtin.append_ #[t,t] ty #[v,src]).run P w=.ok v' w'∧RowF f e w' v' (xs++ys)∧Only (fun k=>v.ownBlock=some k) w w' ∧
   (v'.ownBlock=v.ownBlock∨∀g,v'.ownBlock=some g→w.heap.size≤g)∧(v'=.slice none 0 0↔v=.slice none 0 0∧ys=[]):=by
 have hsmall:xs.length+ys.length≤9223372036854775807:=by simp only[maxLen]at hlen;omega
 have grown:∀old:Nat,old<xs.length+ys.length→RowF f e (w.drew.alloc (.cells ((xs.map f).toArray++(ys.map f).toArray++Builtin.zeroCells z.cells (grownCap w (xs.length+ys.length) old e-(xs.length+ys.length))) e))
   (.slice (some ⟨w.heap.size,0,none⟩) (xs.length+ys.length) (grownCap w (xs.length+ys.length) old e)) (xs++ys) ∧
   ∀S,Only S w (w.drew.alloc (.cells ((xs.map f).toArray++(ys.map f).toArray++Builtin.zeroCells z.cells (grownCap w (xs.length+ys.length) old e-(xs.length+ys.length))) e)):=by
  intro old _
  refine⟨.inr ⟨w.heap.size,_,_,by rw[List.length_append],heap_alloc_new w.drew _,by rw[List.length_append];exact grownCap_ge _ _ _ _,?_,grownCap_le_maxLen _ _ _ _ hlen,?_⟩,fun S=>((Only.refl w).drew).alloc _⟩
  ·have:=grownCap_ge w (xs.length+ys.length) old e
   simp only[Array.size_append,List.size_toArray,List.length_map,size_zeroCells,hzs]
   omega
  ·simp only[Array.toList_append,List.append_assoc,List.length_append,List.map_append]
   rw[←List.append_assoc,show xs.length+ys.length=(xs.map f++ys.map f).length by simp]
   exact List.take_left
 rcases hsrc with ⟨as1,rfl,rfl⟩|⟨gs,os,cs,rfl,hs1,hs2,hs3,hs4⟩
 ·-- nothing is appended
  refine⟨v,w,?_,by simpa using hrow,Only.refl _,.inl rfl,by simp⟩
  rcases hrow with ⟨rfl,rfl⟩|⟨g,cap,cur,rfl,h1,h2,h3,h4,h5⟩
  ·cases as1 <;> simp[Builtin.append_,run_underlying ht,sizeOf,typeInfo,hi,Builtin.lenOf,Builtin.firstCells,loadCells,loadCellsFrom]
  ·cases as1 <;> simp[Builtin.append_,run_underlying ht,sizeOf,typeInfo,hi,Builtin.lenOf,Builtin.firstCells,h2,storeCells,loadCells,loadCellsFrom]
 ·have hnews:=rd_news hs4
  rcases hrow with ⟨rfl,rfl⟩|⟨g,cap,cur,rfl,h1,h2,h3,h4,h5⟩
  ·by_cases hy:ys=[]
   ·subst hy
    refine⟨.slice none 0 0,w,?_,.inl ⟨rfl,rfl⟩,Only.refl _,.inl rfl,by simp⟩
    simp[Builtin.append_,run_underlying ht,sizeOf,typeInfo,hi,Builtin.lenOf,Builtin.firstCells,loadCells,loadCellsFrom]
   ·have hpos:0<ys.length:=List.length_pos_iff.2 hy
    have hb:=hbytes
    simp only[List.length_nil,Nat.zero_add]at hb hsmall
    have hr:=run_append_nil (P:=P) w t ty e i z ht hi hz ⟨gs,os,none⟩ ys.length cs (ys.map f) (by simp[hsize]) hnews hpos (by omega) (by rw[hby];omega)
    have hgr:=grown 0 (by simpa using hpos)
    simp only[List.length_nil,Nat.zero_add,List.nil_append,List.map_nil,Array.empty_append]at hgr ⊢
    exact⟨_,_,hr,hgr.1,hgr.2 _,.inr (fun g hg=>by cases hg;exact Nat.le_refl _),by simp[hy]⟩
  ·by_cases hroom:xs.length+ys.length≤cap
   ·have hr:=run_append_room (P:=P) w t ty e i ht hi g xs.length cap cur h1 ⟨gs,os,none⟩ ys.length cs (ys.map f) (by simp[hsize]) hnews (fun u hu=>by obtain⟨y,_,rfl⟩:=List.mem_map.1 hu;exact hf y) hroom (by simp[hsize];omega)
    rw[hsize,Nat.mul_one]at hr
    refine⟨_,_,hr,.inr ⟨g,cap,_,by rw[List.length_append],setRow_heap w g cur _ e _ h1,by rw[List.length_append];exact hroom,?_,h4,?_⟩,?_,.inl rfl,by simp⟩
    ·simp only[List.size_toArray,List.length_append,List.length_take,List.length_drop,Array.length_toList,List.length_map];omega
    ·rw[h5,List.length_append,List.map_append,show xs.length+ys.length=(xs.map f++ys.map f).length by simp]
     exact List.take_left
    ·exact Only.setRow (S:=fun k=>(Value.slice (some ⟨g,0,none⟩) xs.length cap).ownBlock=some k) (Only.refl w) (fun _=>rfl) _
   ·have holds:∀j u,(xs.map f)[j]? = some u→w.cell? ((⟨g,0,none⟩:Addr).add j)=some u:=rd_news (fun i hi=>by rw[Nat.zero_add];exact RowF.cells h1 h5 i hi)
    have hr:=run_append_grow (P:=P) w t ty e i z ht hi hz ⟨g,0,none⟩ xs.length cap (xs.map f) (by simp[hsize]) holds ⟨gs,os,none⟩ ys.length cs (ys.map f) (by simp[hsize]) hnews (by omega) (by omega) (growslice_fits (by omega) (by rw[hby];exact hbytes))
    have hgr:=grown cap (by omega)
    exact⟨_,_,hr,hgr.1,hgr.2 _,.inr (fun g hg=>by cases hg;exact Nat.le_refl _),by simp⟩
theorem wpList_append_row {ops:Array Oper}{rest:List Oper}{o:Oper}{a:Act}{Q:Exit→Act→World→Prop}(hf:∀x,(f x).oneCell'=true) (hgd:o.guard=none) (s x:Operand) (t:TypeId)
  (ho:o.op=.call { callee:=.builtin .append,args:=#[s,x],argTypes:=#[t,t] })
  (e:TypeId) (i:TypeInfo) (z:Value) (bytes:Nat) (ht:P.underlying t=some (.slice e)) (hi:P.info? e=some i) (hz:i.zero=some z) (hsize:i.size=1) (hby:i.bytes=bytes) (hzs:z.cells.size=1)
  {v src:Value}{xs ys:List α}(hs:a.eval s=v) (hx:a.eval x=src) (hrow:RowF f e w v xs) (hsrc:Rd f w src ys)
  (hlen:xs.length+ys.length≤maxLen) (hbytes:(xs.length+ys.length)*bytes≤140737488355328)
  (h:∀v' w',RowF f e w' v' (xs++ys)→Only (fun k=>v.ownBlock=some k) w w'→(v'.ownBlock=v.ownBlock∨∀g,v'.ownBlock=some g→w.heap.size≤g)→(v'=.slice none 0 0↔v=.slice none 0 0∧ys=[]) →
   wpList P ops Q rest (a.put o.dst v') w'):wpList P ops Q (o::rest) a w:=by
 obtain⟨v',w',hr,h2,h3,h4,h5⟩:=run_append_row (P:=P) (w:=w) hf t o.type e i z bytes ht hi hz hsize hby hzs hrow hsrc hlen hbytes
 refine wpList_plain hgd fun K hK=>?_
 unfold Oper.wp execOp
 simp only[ho,resolve,invoke,builtin,Sem.run_bind,Sem.run_pure,Result.andThen_ok,List.map_toArray,List.map_cons,List.map_nil,hs,hx,hr]
 exact hK _ _ (h v' w' h2 h3 h4 h5)
end
structure DFile where
 bytes:List UInt8
 synced:Nat
structure Dsk where
 most:Int
 files:List (Str×DFile)
 arm:Int
 down:Bool
def setF:List (Str×DFile)→Str→DFile→List (Str×DFile)
 |[],n,f=>[(n,f)]
 |(k,g)::L,n,f=>if k=n then (n,f)::L else (k,g)::setF L n f
def delF:List (Str×DFile)→Str→List (Str×DFile)
 |[],_=>[]
 |(k,g)::L,n=>if k=n then L else (k,g)::delF L n
def getF:List (Str×DFile)→Str→Option DFile
 |[],_=>none
 |(k,g)::L,n=>if k=n then some g else getF L n
def namesF (L:List (Str×DFile)):List Str:=L.map Prod.fst
def usedF (L:List (Str×DFile)):Nat:=(L.map fun x=>x.2.bytes.length).sum
def okChar (c:UInt8):Bool:=(97≤c && c≤122) || (48≤c && c≤57) || c==46 || c==45
def okName (n:Str):Bool:=!n.isEmpty && decide (n.length≤40) && n.all okChar
def Dsk.op (d:Dsk) (may:Int) (act:List (Str×DFile)→List (Str×DFile)):Dsk×Int:=
 if d.down then (d,15) else if may≠0 then (d,may) else if d.arm=0 then ({ d with arm:=-1,down:=true },15)
 else ({ d with files:=act d.files,arm:=max (d.arm-1) (-1) },0)
def Dsk.there (d:Dsk) (n:Str):Int:=if n∈namesF d.files then 0 else 13
def fileOf (L:List (Str×DFile)) (n:Str):DFile:=(getF L n).getD ⟨[],0⟩
def Dsk.mayAppend (d:Dsk) (n:Str) (l:List UInt8):Int:=
 if okName n then (if d.most<(usedF d.files+l.length:Nat)∨(n∉namesF d.files∧200≤d.files.length) then 5 else 0) else 13
def Dsk.append (d:Dsk) (n:Str) (l:List UInt8):Dsk×Int:=
 d.op (d.mayAppend n l) fun L=>setF L n ⟨(fileOf L n).bytes++l,(fileOf L n).synced⟩
def Dsk.sync (d:Dsk) (n:Str):Dsk×Int:=
 d.op (d.there n) fun L=>setF L n ⟨(fileOf L n).bytes,(fileOf L n).bytes.length⟩
def Dsk.rename (d:Dsk) (a b:Str):Dsk×Int:=
 d.op (if okName b then d.there a else 13) fun L=>setF (delF L a) b (fileOf L a)
def Dsk.remove (d:Dsk) (n:Str):Dsk×Int:=d.op (d.there n) fun L=>delF L n
def Dsk.mayCut (d:Dsk) (n:Str) (k:Int):Int:=
 match getF d.files n with
 |none=>13
 |some f=>if k<0∨(f.bytes.length:Int)<k then 2 else 0
def Dsk.cut (d:Dsk) (n:Str) (k:Int):Dsk×Int:=
 d.op (d.mayCut n k) fun L=>setF L n ⟨(fileOf L n).bytes.take k.toNat,k.toNat⟩
def Dsk.read (d:Dsk) (n:Str):List UInt8×Int:=
 if d.down then ([],15) else match getF d.files n with
 |none=>([],13)
 |some f=>(f.bytes,0)
def Dsk.list (d:Dsk):List Str:=(namesF d.files).mergeSort fun x y=>decide (x≤y)
def Dsk.armed (d:Dsk) (n:Int):Dsk:=if d.down then d else { d with arm:=max n 0 }
def leaves (f:DFile) (keep:Int):DFile:=
 let k:=f.synced+min keep.toNat (f.bytes.length-f.synced)
 ⟨f.bytes.take k,k⟩
def crashF:List Str→List Int→List (Str×DFile)→List (Str×DFile)
 |[],_,L=>L
 |n::ns,ks,L=>crashF ns ks.tail (setF L n (leaves (fileOf L n) (ks.headD 0)))
def Dsk.crash (d:Dsk) (ks:List Int):Dsk:={ d with files:=crashF d.list ks d.files,arm:=-1,down:=false }
structure Dsk.Ok (d:Dsk):Prop where
 most0:0≤d.most
 most1:d.most≤16777216
 arm0 : -1≤d.arm
 arm1:d.arm≤9223372036854775807
 names:(namesF d.files).Nodup
 named:∀n∈namesF d.files,okName n=true
 few:d.files.length≤200
 used:(usedF d.files:Int)≤d.most
 synced:∀x∈d.files,x.2.synced≤x.2.bytes.length
section
variable {L A B:List (Str×DFile)}{n:Str}{f g:DFile}
theorem setF_miss (h:n∉namesF L):setF L n f=L++[(n,f)]:=by
 induction L with
 |nil=>rfl
 |cons x L ih =>
  obtain⟨k,g⟩:=x
  simp only[namesF,List.map_cons,List.mem_cons,not_or]at h
  simp[setF,Ne.symm h.1,ih h.2]
theorem setF_hit (h:n∉namesF A):setF (A++(n,g)::B) n f=A++(n,f)::B:=by
 induction A with
 |nil=>simp[setF]
 |cons x A ih =>
  obtain⟨k,g'⟩:=x
  simp only[namesF,List.map_cons,List.mem_cons,not_or]at h
  simp[setF,Ne.symm h.1,ih h.2]
theorem delF_hit (h:n∉namesF A):delF (A++(n,g)::B) n=A++B:=by
 induction A with
 |nil=>simp[delF]
 |cons x A ih =>
  obtain⟨k,g'⟩:=x
  simp only[namesF,List.map_cons,List.mem_cons,not_or]at h
  simp[delF,Ne.symm h.1,ih h.2]
theorem getF_hit (h:n∉namesF A):getF (A++(n,g)::B) n=some g:=by
 induction A with
 |nil=>simp[getF]
 |cons x A ih =>
  obtain⟨k,g'⟩:=x
  simp only[namesF,List.map_cons,List.mem_cons,not_or]at h
  simp[getF,Ne.symm h.1,ih h.2]
theorem getF_miss (h:n∉namesF L):getF L n=none:=by
 induction L with
 |nil=>rfl
 |cons x L ih =>
  obtain⟨k,g⟩:=x
  simp only[namesF,List.map_cons,List.mem_cons,not_or]at h
  simp[getF,Ne.symm h.1,ih h.2]
end
def u8 (c:UInt8):Value:=.int .u8 c.toNat
abbrev Bs (w:World) (v:Value) (l:List UInt8):Prop:=Rd u8 w v l
abbrev Own (w:World) (v:Value) (l:List UInt8):Prop:=RowF u8 5 w v l
theorem u8_one (c:UInt8):(u8 c).oneCell'=true:=rfl
structure FE where
 name:Str
 file:DFile
 fb:Nat
 sl:Value
 born:Nat
def FE.en (f:FE):En:=⟨f.name,.pointer (some ⟨f.fb,0,none⟩),f.born⟩
def FE.nf (f:FE):Str×DFile:=(f.name,f.file)
def FE.blocks (f:FE):List Nat:=f.fb::f.sl.ownBlock.toList
structure FE.At (w:World) (f:FE):Prop where
 blk:w.heap[f.fb]? = some (.cells #[f.sl,.int .i64 f.file.synced] 132 (0,0))
 own:Own w f.sl f.file.bytes
def dskBlocks (b m:Nat) (fs:List FE):List Nat:=b::m::fs.flatMap FE.blocks
structure DiskAt (w:World) (b m:Nat) (d:Dsk) (fs:List FE):Prop where
 hdr:w.heap[b]? = some (.cells #[.map (some m),.int .i64 d.most,.int .i64 d.arm,.bool d.down] 108 (0,0))
 map:∃clock,w.heap[m]? = some (.map (ents (fs.map FE.en)) clock)∧∀f∈fs,f.born<clock
 files:d.files=fs.map FE.nf
 file:∀f∈fs,f.At w
 nodup:(dskBlocks b m fs).Nodup
 born:(fs.map FE.born).Nodup
 ok:d.Ok
theorem FE.At.keep {w w':World}{f:FE}(h:f.At w) (hb:∀k∈f.blocks,w'.heap[k]? = w.heap[k]?):f.At w':=
 ⟨by rw[hb f.fb (by simp[FE.blocks])];exact h.blk,h.own.keep fun g hg=>hb g (by simp[FE.blocks,hg])⟩
theorem DiskAt.keep {w w':World}{b m:Nat}{d:Dsk}{fs:List FE}(h:DiskAt w b m d fs) (hb:∀k∈dskBlocks b m fs,w'.heap[k]? = w.heap[k]?):DiskAt w' b m d fs:=by
 obtain⟨clock,h1,h2⟩:=h.map
 exact⟨by rw[hb b (by simp[dskBlocks])];exact h.hdr,⟨clock,by rw[hb m (by simp[dskBlocks])];exact h1,h2⟩,h.files,
  fun f hf=>(h.file f hf).keep fun k hk=>hb k (by simp only[dskBlocks,List.mem_cons,List.mem_flatMap];exact .inr (.inr ⟨f,hf,hk⟩)),h.nodup,h.born,h.ok⟩
theorem DiskAt.lt {w:World}{b m:Nat}{d:Dsk}{fs:List FE}(h:DiskAt w b m d fs):∀k∈dskBlocks b m fs,k<w.heap.size:=by
 intro k hk
 simp only[dskBlocks,List.mem_cons,List.mem_flatMap]at hk
 rcases hk with rfl|rfl|⟨f,hf,hk⟩
 ·exact lt_of_block h.hdr
 ·obtain⟨clock,h1,_⟩:=h.map;exact lt_of_block h1
 ·simp only[FE.blocks,List.mem_cons,Option.mem_toList]at hk
  rcases hk with rfl|hk
  ·exact lt_of_block (h.file f hf).blk
  ·exact (h.file f hf).own.lt _ hk
def DiskIn (w:World) (b:Nat) (d:Dsk) (S:Nat→Prop):Prop:=∃m fs,DiskAt w b m d fs∧∀k,S k↔k∈dskBlocks b m fs
theorem DiskIn.keep {S T:Nat→Prop}{w w':World}{b:Nat}{d:Dsk}(h:DiskIn w b d S) (ho:Only T w w') (hd:∀k,S k→¬ T k):DiskIn w' b d S:=by
 obtain⟨m,fs,h1,h2⟩:=h
 exact⟨m,fs,h1.keep fun k hk=>ho.block k (h1.lt k hk) (hd k ((h2 k).2 hk)),h2⟩
theorem DiskIn.nw {S:Nat→Prop}{w w':World}{b:Nat}{d:Dsk}(h:DiskIn w b d S) (ho:Nw w w'):DiskIn w' b d S:=h.keep ho (fun _ _ hf=>hf)
theorem DiskIn.lt {S:Nat→Prop}{w:World}{b:Nat}{d:Dsk}(h:DiskIn w b d S):∀k,S k→k<w.heap.size:=by
 obtain⟨m,fs,h1,h2⟩:=h
 exact fun k hk=>h1.lt k ((h2 k).1 hk)
theorem DiskIn.ok {S:Nat→Prop}{w:World}{b:Nat}{d:Dsk}(h:DiskIn w b d S):d.Ok:=by
 obtain⟨m,fs,h1,h2⟩:=h
 exact h1.ok
def DiskTo (S:Nat→Prop) (w w':World) (b:Nat) (d':Dsk):Prop:=∃S':Nat→Prop,DiskIn w' b d' S'∧Only S w w'∧∀k,S' k→S k∨w.heap.size≤k
end Go.Proofs.YtkbenkldfehhlaaGreatDoor
