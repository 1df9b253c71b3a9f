/-
  Texts merged by a program of this claim's: DiskA, DiskB.
-/
import Derived.Test.YtkbenkldfehhlaaGreatDoorChecked
import Derived.Test.YtkbenkldfehhlaaGreatDoorM1
import Derived.WalkSpells
namespace Go.Proofs.YtkbenkldfehhlaaGreatDoor
open Go Go.RowKit
set_option maxRecDepth 100000
set_option maxHeartbeats 400000
theorem ret1 {k:IntKind}{a b:Int}(h:a=b):Ending.returned (.int k a)=.returned (.int k b):=by rw[h]
theorem retB {a b:Bool}(h:a=b):Ending.returned (.bool a)=.returned (.bool b):=by rw[h]
theorem eqlMap (w:World) (r:Option Nat):(binOp .eql 106 (.map r) (.map none)).run Tryz.prog w=.ok (.bool r.isNone) w:=
 Go.run_eql_map_nil w _ _ _ r Tryz.underlying106
theorem hdr_cells {w:World}{b m:Nat}{d:Dsk}(h:w.heap[b]? = some (.cells #[.map (some m),.int .i64 d.most,.int .i64 d.arm,.bool d.down] 108 (0,0))) :
  w.cell? ⟨b,0,none⟩=some (.map (some m))∧w.cell? ⟨b,1,none⟩=some (.int .i64 d.most)∧w.cell? ⟨b,2,none⟩=some (.int .i64 d.arm)∧w.cell? ⟨b,3,none⟩=some (.bool d.down) ∧
  ∀i,w.frozen? ⟨b,i,none⟩=false:=by
 simp[World.cell?,World.frozen?,h]
theorem none_ok (w:World) (b m:Nat) (h0:w.cell? ⟨b,0,none⟩=some (.map (some m))):Calls Tryz.prog 55 #[.pointer (some ⟨b,0,none⟩)] w fun e w'=>e=.returned (.bool false)∧w=w':=by
 have q:=eqlMap w (some m)
 go_enter Tryz.func55,Tryz.ntmps55
 go_wp2
 go_ret
 exact⟨rfl,rfl⟩
theorem up_ok (w:World) (b m:Nat) (dn:Bool) (h0:w.cell? ⟨b,0,none⟩=some (.map (some m))) (h3:w.cell? ⟨b,3,none⟩=some (.bool dn)) :
  Calls Tryz.prog 101 #[.pointer (some ⟨b,0,none⟩)] w fun e w'=>e=.returned (.int .i64 (if dn then 15 else 0))∧w=w':=by
 cases dn
 all_goals
  go_enter Tryz.func101,Tryz.ntmps101
  go_wp2_with (go_at_call 55;refine (none_ok _ b m h0).mono ?_;rintro e w' ⟨rfl,rfl⟩)
  go_ret
  exact⟨rfl,rfl⟩
theorem Down_ok {w:World}{b:Nat}{d:Dsk}{S:Nat→Prop}(h:DiskIn w b d S) :
  Calls Tryz.prog 49 #[.pointer (some ⟨b,0,none⟩)] w fun e w'=>e=.returned (.bool d.down)∧w=w':=by
 obtain⟨m,fs,hD,-⟩:=h
 obtain⟨c0,c1,c2,c3,-⟩:=hdr_cells hD.hdr
 clear hD
 go_enter Tryz.func49,Tryz.ntmps49
 go_wp2_with (go_at_call 55;refine (none_ok _ b m c0).mono ?_;rintro e w' ⟨rfl,rfl⟩)
 go_ret
 exact⟨rfl,rfl⟩
def ptrOf (fs:List FE) (n:Str):Option Addr:=(fs.find? (·.name==n)).map fun f=>⟨f.fb,0,none⟩
theorem zeroPtr (w:World):(zeroValue 130).run Tryz.prog w=.ok (.pointer none) w:=by kernel_rfl
theorem look_file {w:World}{m clock:Nat}{fs:List FE}(hb:w.heap[m]? = some (.map (ents (fs.map FE.en)) clock)) (n:Str) :
  (Instr.lookup 106 (.map (some m)) (.string ⟨n.toArray⟩) false).run Tryz.prog w=.ok (.pointer (ptrOf fs n)) w:=by
 rcases split_key n (fs.map FE.en) with hn|⟨A,e,B,he,hk,hA⟩
 ·have hp:ptrOf fs n=none:=by
   simp only[ptrOf,Option.map_eq_none_iff,List.find?_eq_none]
   intro f hf hc
   exact hn (by simp only[List.map_map,List.mem_map];exact⟨f,hf,by simpa [FE.en] using hc⟩)
  rw[hp]
  exact run_look_miss Tryz.underlying106 Tryz.underlying9 (zeroPtr w) hb hn
 ·have hb':=hb
  rw[he]at hb'
  rw[run_look_hit Tryz.underlying106 Tryz.underlying9 hb' hk hA]
  obtain⟨A',B1,rfl,rfl,h2⟩:=List.map_eq_append_iff.1 he
  obtain⟨f,B',rfl,rfl,rfl⟩:=List.map_eq_cons_iff.1 h2
  have:(A'++f::B').find? (·.name==n)=some f:=by
   rw[List.find?_append]
   have hn:A'.find? (·.name==n)=none:=by
    rw[List.find?_eq_none]
    intro g hg hc
    exact hA (by simp only[List.map_map,List.mem_map];exact⟨g,hg,by simpa [FE.en] using hc⟩)
   rw[hn]
   simp[show f.name=n from hk]
  simp[ptrOf,this,FE.en]
theorem heap_setCell_at {w:World}{b:Nat}{c:Array Value}{t:TypeId}(h:w.heap[b]? = some (.cells c t (0,0))) (i:Nat) (v:Value) :
  (w.setCell ⟨b,i,none⟩ v).heap[b]? = some (.cells (c.setIfInBounds i v) t (0,0)):=by
 simp[World.setCell,Array.getElem?_modify,h]
theorem DiskAt.head {w w':World}{b m:Nat}{d d':Dsk}{fs:List FE}(h:DiskAt w b m d fs)
  (hh:w'.heap[b]? = some (.cells #[.map (some m),.int .i64 d'.most,.int .i64 d'.arm,.bool d'.down] 108 (0,0)))
  (hb:∀k,k≠b→k<w.heap.size→w'.heap[k]? = w.heap[k]?) (hf:d'.files=d.files) (ok:d'.Ok):DiskAt w' b m d' fs:=by
 have hn:=h.nodup
 simp only[dskBlocks,List.nodup_cons,List.mem_cons,List.mem_flatMap,not_or]at hn
 obtain⟨⟨hbm,hbf⟩,-,-⟩:=hn
 obtain⟨clock,h1,h2⟩:=h.map
 refine⟨hh,⟨clock,by rw[hb m (Ne.symm hbm) (lt_of_block h1)];exact h1,h2⟩,by rw[hf];exact h.files,fun f hfm=>(h.file f hfm).keep fun k hk=>?_,h.nodup,h.born,ok⟩
 have hkb:k≠b:=fun e=>hbf ⟨f,hfm,e▸hk⟩
 exact hb k hkb (h.lt k (by simp only[dskBlocks,List.mem_cons,List.mem_flatMap];exact .inr (.inr ⟨f,hfm,hk⟩)))
theorem DiskIn.head {w w':World}{b:Nat}{d d':Dsk}{S:Nat→Prop}(h:DiskIn w b d S)
  (hh:∀m,w.heap[b]? = some (.cells #[.map (some m),.int .i64 d.most,.int .i64 d.arm,.bool d.down] 108 (0,0))→w'.heap[b]? = some (.cells #[.map (some m),.int .i64 d'.most,.int .i64 d'.arm,.bool d'.down] 108 (0,0)))
  (hb:∀k,k≠b→k<w.heap.size→w'.heap[k]? = w.heap[k]?) (hf:d'.files=d.files) (ok:d'.Ok):DiskIn w' b d' S:=by
 obtain⟨m,fs,h1,h2⟩:=h
 exact⟨m,fs,h1.head (hh m h1.hdr) hb hf ok,h2⟩
theorem DiskIn.own_b {w:World}{b:Nat}{d:Dsk}{S:Nat→Prop}(h:DiskIn w b d S):S b:=by
 obtain⟨m,fs,h1,h2⟩:=h
 exact (h2 b).2 (by simp[dskBlocks])
def Dsk.ticked (d:Dsk):Dsk:={ d with arm:=max (d.arm-1) (-1) }
def Dsk.fails (d:Dsk):Dsk:={ d with arm:=-1,down:=true }
theorem Dsk.Ok.ticked {d:Dsk}(h:d.Ok):d.ticked.Ok:=⟨h.most0,h.most1,by simp only[Dsk.ticked];omega,by have:=h.arm1;simp only[Dsk.ticked];omega,h.names,h.named,h.few,h.used,h.synced⟩
theorem Dsk.Ok.fails {d:Dsk}(h:d.Ok):d.fails.Ok:=⟨h.most0,h.most1,by simp[Dsk.fails],by simp[Dsk.fails],h.names,h.named,h.few,h.used,h.synced⟩
theorem DiskTo.refl {w w':World}{b:Nat}{d:Dsk}{S:Nat→Prop}(h:DiskIn w b d S) (hw:Nw w w'):DiskTo S w w' b d:=
 ⟨S,h.nw hw,hw.only,fun _k hk=>.inl hk⟩
theorem DiskTo.trans {w w1 w2:World}{b:Nat}{d':Dsk}{S:Nat→Prop}(h:Only S w w1) (h':DiskTo S w1 w2 b d'):DiskTo S w w2 b d':=by
 obtain⟨S',h1,h2,h3⟩:=h'
 exact⟨S',h1,h.trans h2,fun k hk=>(h3 k hk).imp id (fun hk=>Nat.le_trans h.size hk)⟩
def Enters (P:Program) (f:FuncId):Prop:=∀(args:Array Value) (w:World),(callFunc f args).run P w=.ok (.enter f args) w
theorem enters_of {P : Program} {f : FuncId} {fn : Func} (hf : P.funcs[f]? = some fn) (hn : (fn.name == "runtime.NumGoroutine") = false) (hb : fn.body.isNone = false) : Enters P f := by
 intro args w
 have hn' : ¬ fn.name = "runtime.NumGoroutine" := by simpa using hn
 have hb':¬ fn.body=none:=fun e=>by rw[e]at hb;cases hb
 simp[callFunc,hf,hn',hb',go_sem]
theorem hdr_nw {w w1:World}{b m:Nat}{d:Dsk}(h:w.heap[b]? = some (.cells #[.map (some m),.int .i64 d.most,.int .i64 d.arm,.bool d.down] 108 (0,0))) (hw:Nw w w1) :
  w1.cell? ⟨b,2,none⟩=some (.int .i64 d.arm)∧w1.cell? ⟨b,3,none⟩=some (.bool d.down)∧(∀i,w1.frozen? ⟨b,i,none⟩=false)∧b<w1.heap.size:=
 let h1:=hdr_cells (hw.at_ h)
 ⟨h1.2.2.1,h1.2.2.2.1,h1.2.2.2.2,lt_of_block (hw.at_ h)⟩
theorem operation_ok {w:World}{b:Nat}{d:Dsk}{S:Nat→Prop}(h:DiskIn w b d S) (fm fd:Nat) (cm cd:Array Value) (may:Int) (act:List (Str×DFile)→List (Str×DFile))
  (em:Enters Tryz.prog fm) (ed:Enters Tryz.prog fd)
  (hmay:d.down=false→Calls Tryz.prog fm cm w fun e w'=>e=.returned (.int .i64 may)∧Nw w w')
  (hdo:may=0→d.down=false→∀w1,Only S w w1→DiskIn w1 b d.ticked S→Calls Tryz.prog fd cd w1 fun e w'=>e=.returned (.tuple #[])∧DiskTo S w1 w' b { d.ticked with files:=act d.files }) :
  Calls Tryz.prog 84 #[.pointer (some ⟨b,0,none⟩),.func (.func fm) #[] cm,.func (.func fd) #[] cd] w fun e w'=>e=.returned (.int .i64 (d.op may act).2)∧DiskTo S w w' b (d.op may act).1:=by
 unfold Enters at em ed
 obtain⟨m,c0,c1,c2,c3,cf⟩:∃m,w.cell? ⟨b,0,none⟩=some (.map (some m))∧w.cell? ⟨b,1,none⟩=some (.int .i64 d.most)∧w.cell? ⟨b,2,none⟩=some (.int .i64 d.arm)∧w.cell? ⟨b,3,none⟩=some (.bool d.down)∧∀i,w.frozen? ⟨b,i,none⟩=false:=by
  obtain⟨m,fs,hD,-⟩:=h
  exact⟨m,hdr_cells hD.hdr⟩
 cases hdn:d.down
 case true =>
  have r:d.op may act=(d,15):=by simp[Dsk.op,hdn]
  rw[r]
  rw[hdn]at c3
  clear hmay hdo r hdn
  have H:=zH h;clear h
  go_enter Tryz.func84,Tryz.ntmps84
  go_wp2_with (go_at_call 101;refine (up_ok _ b m true c0 c3).mono ?_;rintro e w' ⟨rfl,rfl⟩)
  go_ret
  exact⟨rfl,DiskTo.refl H.out (Nw.refl _)⟩
 case false =>
  rw[hdn]at c3
  have hmay':=hmay hdn
  by_cases hm:may=0
  case neg =>
   have r:d.op may act=(d,may):=by simp[Dsk.op,hdn,hm]
   rw[r]
   have hb:(may==0)=false:=by simpa using hm
   have hb':(may !=0)=true:=by simpa using hm
   have hn:¬ may=0:=hm
   clear hmay hdo r hdn hm
   have H:=zH h;clear h
   have HM:=zH hmay';clear hmay'
   go_enter Tryz.func84,Tryz.ntmps84
   go_wp2_with (first|(go_at_call 101;refine (up_ok _ b m false c0 c3).mono ?_;rintro e w' ⟨rfl,rfl⟩)|(refine HM.out.mono ?_;rintro e w1 ⟨rfl,hw1⟩))
   go_ret
   exact⟨rfl,DiskTo.refl H.out hw1⟩
  case pos =>
   subst hm
   have hdo':=hdo rfl hdn
   have hdr:∃m,w.heap[b]? = some (.cells #[.map (some m),.int .i64 d.most,.int .i64 d.arm,.bool d.down] 108 (0,0)):=by
    obtain⟨m,fs,hD,-⟩:=h
    exact⟨m,hD.hdr⟩
   have hb:=h.own_b
   have hlt:=h.lt b hb
   have ok:=h.ok
   have ha0:=ok.arm0
   have ha1:=ok.arm1
   clear hdo hmay
   by_cases ha:d.arm=0
   case pos =>
    have r:d.op 0 act=(d.fails,15):=by simp[Dsk.op,hdn,ha,Dsk.fails]
    rw[r]
    rw[ha]at c2
    have HA:=zH ha
    have H:=zH h
    have HM:=zH hmay'
    have HO:=zH ok
    have HH:=zH hdr
    clear h hmay' hdo' r hdn ha ok hdr ha0 ha1 c1
    go_enter Tryz.func84,Tryz.ntmps84
    go_wp2_with (first|(go_at_call 101;refine (up_ok _ b m false c0 c3).mono ?_;rintro e w' ⟨rfl,rfl⟩)|(refine HM.out.mono ?_))
    rintro e w1 ⟨rfl,hw1⟩
    obtain⟨m',hh⟩:=HH.out
    obtain⟨e2,e3,ef,elt⟩:=hdr_nw hh hw1
    rw[HA.out]at e2
    have HH':=zH hh;clear hh
    go_wp2
    go_ret
    refine⟨rfl,S,?_,?_,fun k hk=>.inl hk⟩
    ·refine H.out.head (d':=d.fails) (fun m0 hm0=>?_) (fun k hk hkl=>?_) rfl HO.out.fails
     ·rw[heap_setCell_at (heap_setCell_at (hw1.at_ hm0) 3 _) 2 _];rfl
     ·rw[Below.heap_setCell _ _ _ _ hk,Below.heap_setCell _ _ _ _ hk];exact hw1.block k hkl (fun hf=>hf)
    ·exact (hw1.only.setCell (fun _=>hb) _).setCell (fun _=>hb) _
   case neg =>
    have r:d.op 0 act=({ d.ticked with files:=act d.files },0):=by simp[Dsk.op,hdn,ha,Dsk.ticked]
    rw[r]
    have hb0:(d.arm==0)=false:=by simpa using ha
    have H:=zH h
    have HM:=zH hmay'
    have HD:=zH hdo'
    have HO:=zH ok
    have HH:=zH hdr
    clear h hmay' hdo' r hdn ok hdr c1
    have hcase:1≤d.arm∨d.arm≤-1:=by omega
    rcases hcase with hs|hs
    all_goals
     go_enter Tryz.func84,Tryz.ntmps84
     go_wp2_with (first|(go_at_call 101;refine (up_ok _ b m false c0 c3).mono ?_;rintro e w' ⟨rfl,rfl⟩)|(refine HM.out.mono ?_))
     rintro e w1 ⟨rfl,hw1⟩
     obtain⟨m',hh⟩:=HH.out
     obtain⟨e2,e3,ef,elt⟩:=hdr_nw hh hw1
     have HH':=zH hh;clear hh
     go_wp2_with (refine (HD.out _ ?_ ?_).mono ?_)
     ·exact hw1.only.setCell (fun _=>hb) _
     ·refine H.out.head (d':=d.ticked) (fun m0 hm0=>?_) (fun k hk hkl=>?_) rfl HO.out.ticked
      ·rw[heap_setCell_at (hw1.at_ hm0) 2 _]
       have:max (d.arm-1) (-1)=(if 1≤d.arm then d.arm-1 else -1):=by split <;> omega
       simp[Dsk.ticked,this,hs]
       try omega
      ·rw[Below.heap_setCell _ _ _ _ hk];exact hw1.block k hkl (fun hf=>hf)
     ·rintro e w2 ⟨rfl,hw2⟩
      go_wp2
      go_ret
      exact⟨rfl,DiskTo.trans (hw1.only.setCell (fun _=>hb) _) hw2⟩
end Go.Proofs.YtkbenkldfehhlaaGreatDoor
