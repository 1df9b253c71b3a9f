/-
  Texts merged by a program of this claim's: Ref01R, Ref01E, DocE, Box.
-/
import Derived.Test.YtkbenkldfehhlaaGreatDoorM20
import Derived.Test.YtkbenkldfehhlaaGreatDoorM5
import Derived.Test.YtkbenkldfehhlaaGreatDoorM7
import Derived.Test.YtkbenkldfehhlaaGreatDoorM17
import Derived.Test.YtkbenkldfehhlaaGreatDoorM8
import Derived.Test.YtkbenkldfehhlaaGreatDoorM9
import Derived.Test.YtkbenkldfehhlaaGreatDoorM10
import Derived.Test.YtkbenkldfehhlaaGreatDoorM18
namespace Go.Proofs.YtkbenkldfehhlaaGreatDoor
open Go Go.RowKit Go.Sort
set_option maxRecDepth 100000
set_option maxHeartbeats 1600000 in
theorem us4 {w5:World}{va a2:Option Addr}{n c m c2 sl:Nat}{S l:List UInt8}
  (CA:Hid (∀W,Nw w5 W→Calls Tryz.prog 131 #[.slice a2 m c2] W fun e w'=>∃a c,e=.returned (.slice a sl c)∧Bs w' (.slice a sl c) S∧Nw W w'))
  (B0:Hid (Bs w5 (.slice va n c) l))
  {u1 u2 u3 u5 u6 u7 u8 u9 u10 u11 u12 u13 u14 u15 u16 u17 u18 u19 u20:Value}{Q:Exit→Act→World→Prop}
  (hQ:∀(s14 s15 s16 s17 s18 s19:Value) (wx:World),Nw w5 wx→s19=.bool (S==l)→Q .normal ⟨#[.slice va n c,u1,u2,u3,.slice a2 m c2,u5,u6,u7,u8,u9,u10,u11,u12,u13,s14,s15,s16,s17,s18,s19,u20],[]⟩ wx) :
  Code.wp Tryz.prog ((Tryz.f95.body.bind (regionOf 4)).getD .skip) Q ⟨#[.slice va n c,u1,u2,u3,.slice a2 m c2,u5,u6,u7,u8,u9,u10,u11,u12,u13,u14,u15,u16,u17,u18,u19,u20],[]⟩ w5:=by
 (try dsimp only at hQ ⊢)
 conv=>arg 2;whnf
 have HQ:=zH hQ
 clear hQ
 refine name_act fun A hA=>?_
 have hA0:A.tmps[0]? = some (.slice va n c):=by rw[hA];rfl
 have hA4:A.tmps[4]? = some (.slice a2 m c2):=by rw[hA];rfl
 have hlt0:∀d∈([14,15,16,17,18,19]:List Nat),d<21:=by decide
 refine wp_region_tab [14,15,16,17,18,19] [isV (.slice a2 m c2),(⟨fun x w=>∃a c,x=.slice a sl c∧Bs w x S,fun x w w' ⟨a,c,h1,h2⟩ n=>⟨a,c,h1,h2.nw n⟩⟩),isV (.string ⟨S.toArray⟩),isV (.slice va n c),isV (.string ⟨l.toArray⟩),isV (.bool (S==l))] (by kernel_rfl) (by kernel_rfl) (by kernel_rfl) (of_decide_eq_true (by kernel_rfl)) (fun d hd=>by rw[hA];exact hlt0 d hd) (fun L hL=>⟨?a0,?a1,?a2,?a3,?a4,?a5,trivial⟩) ?he
 ·intro a w hN old new
  have e4:=old 4 (.slice a2 m c2) rfl hA4
  exact OpOk.val (.slice a2 m c2) (w_none rfl) [(4,_)] (forall_cons e4 <| forall_nil) (fun ρ e ⟨c1,c2⟩=>by (try simp only[List.forall_mem_cons]at e);go_simp) ⟨Nw.refl _,rfl⟩
 ·intro a w hN old new
  obtain⟨y14,e14,g14⟩:=new 0 14 rfl rfl
  obtain rfl:y14=.slice a2 m c2:=g14
  refine OpOk.call (w_none rfl) [(14,_)] (forall_cons e14 <| forall_nil) (fun ρ e ⟨c1,c2⟩=>by (try simp only[List.forall_mem_cons]at e);go_simp) (CA.out _ hN) (fun e w1 h=>?_)
  obtain⟨a1,c1,rfl,q1,n1⟩:=h
  exact⟨_,rfl,n1,⟨_,_,rfl,q1⟩⟩
 ·intro a w hN old new
  obtain⟨y15,e15,g15⟩:=new 1 15 rfl rfl
  obtain⟨a0,c0,rfl,q0⟩:=g15
  have hcv:=conv_str q0
  exact OpOk.val (.string ⟨S.toArray⟩) (w_none rfl) [(15,_)] (forall_cons e15 <| forall_nil) (fun ρ e ⟨c1,c2⟩=>by (try simp only[List.forall_mem_cons]at e);go_simp) ⟨Nw.refl _,rfl⟩
 ·intro a w hN old new
  have e0:=old 0 (.slice va n c) rfl hA0
  exact OpOk.val (.slice va n c) (w_none rfl) [(0,_)] (forall_cons e0 <| forall_nil) (fun ρ e ⟨c1,c2⟩=>by (try simp only[List.forall_mem_cons]at e);go_simp) ⟨Nw.refl _,rfl⟩
 ·intro a w hN old new
  obtain⟨y17,e17,g17⟩:=new 3 17 rfl rfl
  obtain rfl:y17=.slice va n c:=g17
  have hcv:=conv_str (B0.out.nw hN)
  exact OpOk.val (.string ⟨l.toArray⟩) (w_none rfl) [(17,_)] (forall_cons e17 <| forall_nil) (fun ρ e ⟨c1,c2⟩=>by (try simp only[List.forall_mem_cons]at e);go_simp) ⟨Nw.refl _,rfl⟩
 ·intro a w hN old new
  obtain⟨y16,e16,g16⟩:=new 2 16 rfl rfl
  obtain rfl:y16=.string ⟨S.toArray⟩:=g16
  obtain⟨y18,e18,g18⟩:=new 4 18 rfl rfl
  obtain rfl:y18=.string ⟨l.toArray⟩:=g18
  exact OpOk.val (.bool (S==l)) (w_none rfl) [(16,_),(18,_)] (forall_cons e16 <| forall_cons e18 <| forall_nil) (fun ρ e ⟨c1,c2⟩=>by (try simp only[List.forall_mem_cons]at e);go_simp) ⟨Nw.refl _,rfl⟩
 ·intro a w hN hsz hdf old new
  obtain⟨y19,e19,g19⟩:=new 5 19 rfl
  exact tab_frame (frame_lit (dst:=[14,15,16,17,18,19]) (l:=[.slice va n c,u1,u2,u3,.slice a2 m c2,u5,u6,u7,u8,u9,u10,u11,u12,u13,u14,u15,u16,u17,u18,u19,u20]) hA hsz hdf old (l':=[.slice va n c,u1,u2,u3,.slice a2 m c2,u5,u6,u7,u8,u9,u10,u11,u12,u13,(a.tmps[14]?.getD undef),(a.tmps[15]?.getD undef),(a.tmps[16]?.getD undef),(a.tmps[17]?.getD undef),(a.tmps[18]?.getD undef),(a.tmps[19]?.getD undef),u20]) (by kernel_rfl)) (HQ.out _ _ _ _ _ _ w hN (by rw[e19];exact g19))
set_option maxHeartbeats 1600000 in
theorem wg3 {w5:World}{g o n c m c1 cb tl q t2 r:Nat}{a1:Option Addr}(hn:0<n)
  (H9:Hid (Int.tmod (cb:Int) 128=(q:Int))) (H10:Hid (IntKind.u64.wrap (q:Int)=(q:Int))) (H14:Hid (IntKind.u64.wrap (128*(tl:Int))=(t2:Int))) (H15:Hid (IntKind.u64.wrap ((q:Int)+(t2:Int))=(r:Int)))
  (CA:Hid (∀W,Nw w5 W→Calls Tryz.prog 146 #[.slice a1 m c1] W fun e w'=>e=.returned (.int .u64 tl)∧Nw W w'))
  (C0:Hid (w5.cell? ⟨g,o,none⟩=some (.int .u8 cb))) (G0:Hid (g<w5.heap.size))
  (SL:Hid (∀W,(Instr.slice 79 (.slice (some ⟨g,o,none⟩) n c) (some (.int .i64 1)) none none).run Tryz.prog W=.ok (.slice a1 m c1) W))
  {u1 u2 u3 u4 u5 u6 u7 u8 u9 u10 u11 u12 u13 u14 u15:Value}{Q:Exit→Act→World→Prop}
  (hQ:∀(s2 s6 s7 s8 s9 s10 s11 s12 s13 s14 s15:Value) (wx:World),Nw w5 wx→s2=.int .u64 r→Q .normal ⟨#[.slice (some ⟨g,o,none⟩) n c,u1,s2,u3,u4,u5,s6,s7,s8,s9,s10,s11,s12,s13,s14,s15],[]⟩ wx) :
  Code.wp Tryz.prog ((Tryz.f146.body.bind (regionOf 3)).getD .skip) Q ⟨#[.slice (some ⟨g,o,none⟩) n c,u1,u2,u3,u4,u5,u6,u7,u8,u9,u10,u11,u12,u13,u14,u15],[]⟩ w5:=by
 (try dsimp only at hQ ⊢)
 conv=>arg 2;whnf
 have HQ:=zH hQ
 clear hQ
 refine name_act fun A hA=>?_
 have hA0:A.tmps[0]? = some (.slice (some ⟨g,o,none⟩) n c):=by rw[hA];rfl
 have hlt0:∀d∈([6,7,8,9,10,11,12,13,14,15,2]:List Nat),d<16:=by decide
 refine wp_region_tab [6,7,8,9,10,11,12,13,14,15,2] [isV (.slice (some ⟨g,o,none⟩) n c),isV (.pointer (some ⟨g,o,none⟩)),isV (.int .u8 cb),isV (.int .u8 q),isV (.int .u64 q),isV (.slice (some ⟨g,o,none⟩) n c),isV (.slice a1 m c1),isV (.int .u64 tl),isV (.int .u64 t2),isV (.int .u64 r),isV (.int .u64 r)] (by kernel_rfl) (by kernel_rfl) (by kernel_rfl) (of_decide_eq_true (by kernel_rfl)) (fun d hd=>by rw[hA];exact hlt0 d hd) (fun L hL=>⟨?a0,?a1,?a2,?a3,?a4,?a5,?a6,?a7,?a8,?a9,?a10,trivial⟩) ?he
 ·intro a w hN old new
  have e0:=old 0 (.slice (some ⟨g,o,none⟩) n c) rfl hA0
  exact OpOk.val (.slice (some ⟨g,o,none⟩) n c) (w_none rfl) [(0,_)] (forall_cons e0 <| forall_nil) (fun ρ e ⟨c1,c2⟩=>by (try simp only[List.forall_mem_cons]at e);go_simp) ⟨Nw.refl _,rfl⟩
 ·intro a w hN old new
  obtain⟨y6,e6,g6⟩:=new 0 6 rfl rfl
  obtain rfl:y6=.slice (some ⟨g,o,none⟩) n c:=g6
  have h0:¬ (n:Int)≤0:=(by omega)
  have h1:0<n:=(by omega)
  exact OpOk.val (.pointer (some ⟨g,o,none⟩)) (w_none rfl) [(6,_)] (forall_cons e6 <| forall_nil) (fun ρ e ⟨c1,c2⟩=>by (try simp only[List.forall_mem_cons]at e);go_simp) ⟨Nw.refl _,rfl⟩
 ·intro a w hN old new
  obtain⟨y7,e7,g7⟩:=new 1 7 rfl rfl
  obtain rfl:y7=.pointer (some ⟨g,o,none⟩):=g7
  have hc:=hN.cell C0.out
  have hl:=Nat.lt_of_lt_of_le G0.out hN.size
  exact OpOk.val (.int .u8 cb) (w_none rfl) [(7,_)] (forall_cons e7 <| forall_nil) (fun ρ e ⟨c1,c2⟩=>by (try simp only[List.forall_mem_cons]at e);go_simp) ⟨Nw.refl _,rfl⟩
 ·intro a w hN old new
  obtain⟨y8,e8,g8⟩:=new 2 8 rfl rfl
  obtain rfl:y8=.int .u8 cb:=g8
  have hm:=H9.out
  exact OpOk.val (.int .u8 q) (w_none rfl) [(8,_)] (forall_cons e8 <| forall_nil) (fun ρ e ⟨c1,c2⟩=>by (try simp only[List.forall_mem_cons]at e);go_simp) ⟨Nw.refl _,rfl⟩
 ·intro a w hN old new
  obtain⟨y9,e9,g9⟩:=new 3 9 rfl rfl
  obtain rfl:y9=.int .u8 q:=g9
  have hm:=H10.out
  have hm2:(q:Int) % 18446744073709551616=(q:Int):=(by rw[IntKind.wrap_u64]at hm;exact hm)
  exact OpOk.val (.int .u64 q) (w_none rfl) [(9,_)] (forall_cons e9 <| forall_nil) (fun ρ e ⟨c1,c2⟩=>by (try simp only[List.forall_mem_cons]at e);go_simp) ⟨Nw.refl _,rfl⟩
 ·intro a w hN old new
  have e0:=old 0 (.slice (some ⟨g,o,none⟩) n c) rfl hA0
  exact OpOk.val (.slice (some ⟨g,o,none⟩) n c) (w_none rfl) [(0,_)] (forall_cons e0 <| forall_nil) (fun ρ e ⟨c1,c2⟩=>by (try simp only[List.forall_mem_cons]at e);go_simp) ⟨Nw.refl _,rfl⟩
 ·intro a w hN old new
  obtain⟨y11,e11,g11⟩:=new 5 11 rfl rfl
  obtain rfl:y11=.slice (some ⟨g,o,none⟩) n c:=g11
  have hs:=SL.out w
  exact OpOk.val (.slice a1 m c1) (w_none rfl) [(11,_)] (forall_cons e11 <| forall_nil) (fun ρ e ⟨c1,c2⟩=>by (try simp only[List.forall_mem_cons]at e);go_simp) ⟨Nw.refl _,rfl⟩
 ·intro a w hN old new
  obtain⟨y12,e12,g12⟩:=new 6 12 rfl rfl
  obtain rfl:y12=.slice a1 m c1:=g12
  refine OpOk.call (w_none rfl) [(12,_)] (forall_cons e12 <| forall_nil) (fun ρ e ⟨c1,c2⟩=>by (try simp only[List.forall_mem_cons]at e);go_simp) (CA.out _ hN) (fun e w1 h=>?_)
  obtain⟨rfl,n1⟩:=h
  exact⟨_,rfl,n1,rfl⟩
 ·intro a w hN old new
  obtain⟨y13,e13,g13⟩:=new 7 13 rfl rfl
  obtain rfl:y13=.int .u64 tl:=g13
  have hm:=H14.out
  have hm2:(128*(tl:Int)) % 18446744073709551616=(t2:Int):=(by rw[IntKind.wrap_u64]at hm;exact hm)
  exact OpOk.val (.int .u64 t2) (w_none rfl) [(13,_)] (forall_cons e13 <| forall_nil) (fun ρ e ⟨c1,c2⟩=>by (try simp only[List.forall_mem_cons]at e);go_simp) ⟨Nw.refl _,rfl⟩
 ·intro a w hN old new
  obtain⟨y10,e10,g10⟩:=new 4 10 rfl rfl
  obtain rfl:y10=.int .u64 q:=g10
  obtain⟨y14,e14,g14⟩:=new 8 14 rfl rfl
  obtain rfl:y14=.int .u64 t2:=g14
  have hm:=H15.out
  have hm2:((q:Int)+(t2:Int)) % 18446744073709551616=(r:Int):=(by rw[IntKind.wrap_u64]at hm;exact hm)
  exact OpOk.val (.int .u64 r) (w_none rfl) [(10,_),(14,_)] (forall_cons e10 <| forall_cons e14 <| forall_nil) (fun ρ e ⟨c1,c2⟩=>by (try simp only[List.forall_mem_cons]at e);go_simp) ⟨Nw.refl _,rfl⟩
 ·intro a w hN old new
  obtain⟨y15,e15,g15⟩:=new 9 15 rfl rfl
  obtain rfl:y15=.int .u64 r:=g15
  exact OpOk.val (.int .u64 r) (w_none rfl) [(15,_)] (forall_cons e15 <| forall_nil) (fun ρ e ⟨c1,c2⟩=>by (try simp only[List.forall_mem_cons]at e);go_simp) ⟨Nw.refl _,rfl⟩
 ·intro a w hN hsz hdf old new
  obtain⟨y2,e2,g2⟩:=new 10 2 rfl
  exact tab_frame (frame_lit (dst:=[6,7,8,9,10,11,12,13,14,15,2]) (l:=[.slice (some ⟨g,o,none⟩) n c,u1,u2,u3,u4,u5,u6,u7,u8,u9,u10,u11,u12,u13,u14,u15]) hA hsz hdf old (l':=[.slice (some ⟨g,o,none⟩) n c,u1,(a.tmps[2]?.getD undef),u3,u4,u5,(a.tmps[6]?.getD undef),(a.tmps[7]?.getD undef),(a.tmps[8]?.getD undef),(a.tmps[9]?.getD undef),(a.tmps[10]?.getD undef),(a.tmps[11]?.getD undef),(a.tmps[12]?.getD undef),(a.tmps[13]?.getD undef),(a.tmps[14]?.getD undef),(a.tmps[15]?.getD undef)]) (by kernel_rfl)) (HQ.out _ _ _ _ _ _ _ _ _ _ _ w hN (by rw[e2];exact g2))
set_option maxHeartbeats 1600000 in
theorem gu8 {w5:World}{va a1:Option Addr}{n c k c1 v sl:Nat}{S l:List UInt8}
  (CA:Hid (∀W,Nw w5 W→Calls Tryz.prog 129 #[.int .u64 v] W fun e w'=>∃a c,e=.returned (.slice a sl c)∧Bs w' (.slice a sl c) S∧Nw W w'))
  (B0:Hid (Bs w5 (.slice a1 k c1) l))
  (SL:Hid (∀W,(Instr.slice 79 (.slice va n c) none (some (.int .i64 k)) none).run Tryz.prog W=.ok (.slice a1 k c1) W))
  {u0 u1 u2 u3 u4 u5 u6 u10 u11 u12 u13 u14 u15 u16 u17 u18 u19 u20 u21 u22 u23 u24 u25 u26 u27 u28 u29 u30 u31 u32 u33 u34 u35 u36 u37 u38 u39 u40 u41 u42 u43 u44 u45 u46 u47 u48 u49 u50 u51 u52 u53 u54 u55 u56 u57 u58 u59 u60 u61 u62:Value}{Q:Exit→Act→World→Prop}
  (hQ:∀(s36 s37 s38 s39 s40 s41 s42 s43:Value) (wx:World),Nw w5 wx→s43=.bool (S==l)→Q .normal ⟨#[u0,u1,u2,u3,u4,u5,u6,.slice va n c,.int .i64 k,.int .u64 v,u10,u11,u12,u13,u14,u15,u16,u17,u18,u19,u20,u21,u22,u23,u24,u25,u26,u27,u28,u29,u30,u31,u32,u33,u34,u35,s36,s37,s38,s39,s40,s41,s42,s43,u44,u45,u46,u47,u48,u49,u50,u51,u52,u53,u54,u55,u56,u57,u58,u59,u60,u61,u62],[]⟩ wx) :
  Code.wp Tryz.prog ((Tryz.f96.body.bind (regionOf 8)).getD .skip) Q ⟨#[u0,u1,u2,u3,u4,u5,u6,.slice va n c,.int .i64 k,.int .u64 v,u10,u11,u12,u13,u14,u15,u16,u17,u18,u19,u20,u21,u22,u23,u24,u25,u26,u27,u28,u29,u30,u31,u32,u33,u34,u35,u36,u37,u38,u39,u40,u41,u42,u43,u44,u45,u46,u47,u48,u49,u50,u51,u52,u53,u54,u55,u56,u57,u58,u59,u60,u61,u62],[]⟩ w5:=by
 (try dsimp only at hQ ⊢)
 conv=>arg 2;whnf
 have HQ:=zH hQ
 clear hQ
 refine name_act fun A hA=>?_
 have hA7:A.tmps[7]? = some (.slice va n c):=by rw[hA];rfl
 have hA8:A.tmps[8]? = some (.int .i64 k):=by rw[hA];rfl
 have hA9:A.tmps[9]? = some (.int .u64 v):=by rw[hA];rfl
 have hlt0:∀d∈([36,37,38,39,40,41,42,43]:List Nat),d<63:=by decide
 refine wp_region_tab [36,37,38,39,40,41,42,43] [isV (.int .u64 v),(⟨fun x w=>∃a c,x=.slice a sl c∧Bs w x S,fun x w w' ⟨a,c,h1,h2⟩ n=>⟨a,c,h1,h2.nw n⟩⟩),isV (.string ⟨S.toArray⟩),isV (.slice va n c),isV (.int .i64 k),isV (.slice a1 k c1),isV (.string ⟨l.toArray⟩),isV (.bool (S==l))] (by kernel_rfl) (by kernel_rfl) (by kernel_rfl) (of_decide_eq_true (by kernel_rfl)) (fun d hd=>by rw[hA];exact hlt0 d hd) (fun L hL=>⟨?a0,?a1,?a2,?a3,?a4,?a5,?a6,?a7,trivial⟩) ?he
 ·intro a w hN old new
  have e9:=old 9 (.int .u64 v) rfl hA9
  exact OpOk.val (.int .u64 v) (w_none rfl) [(9,_)] (forall_cons e9 <| forall_nil) (fun ρ e ⟨c1,c2⟩=>by (try simp only[List.forall_mem_cons]at e);go_simp) ⟨Nw.refl _,rfl⟩
 ·intro a w hN old new
  obtain⟨y36,e36,g36⟩:=new 0 36 rfl rfl
  obtain rfl:y36=.int .u64 v:=g36
  refine OpOk.call (w_none rfl) [(36,_)] (forall_cons e36 <| forall_nil) (fun ρ e ⟨c1,c2⟩=>by (try simp only[List.forall_mem_cons]at e);go_simp) (CA.out _ hN) (fun e w1 h=>?_)
  obtain⟨a1,c1,rfl,q1,n1⟩:=h
  exact⟨_,rfl,n1,⟨_,_,rfl,q1⟩⟩
 ·intro a w hN old new
  obtain⟨y37,e37,g37⟩:=new 1 37 rfl rfl
  obtain⟨a0,c0,rfl,q0⟩:=g37
  have hcv:=conv_str q0
  exact OpOk.val (.string ⟨S.toArray⟩) (w_none rfl) [(37,_)] (forall_cons e37 <| forall_nil) (fun ρ e ⟨c1,c2⟩=>by (try simp only[List.forall_mem_cons]at e);go_simp) ⟨Nw.refl _,rfl⟩
 ·intro a w hN old new
  have e7:=old 7 (.slice va n c) rfl hA7
  exact OpOk.val (.slice va n c) (w_none rfl) [(7,_)] (forall_cons e7 <| forall_nil) (fun ρ e ⟨c1,c2⟩=>by (try simp only[List.forall_mem_cons]at e);go_simp) ⟨Nw.refl _,rfl⟩
 ·intro a w hN old new
  have e8:=old 8 (.int .i64 k) rfl hA8
  exact OpOk.val (.int .i64 k) (w_none rfl) [(8,_)] (forall_cons e8 <| forall_nil) (fun ρ e ⟨c1,c2⟩=>by (try simp only[List.forall_mem_cons]at e);go_simp) ⟨Nw.refl _,rfl⟩
 ·intro a w hN old new
  obtain⟨y39,e39,g39⟩:=new 3 39 rfl rfl
  obtain rfl:y39=.slice va n c:=g39
  obtain⟨y40,e40,g40⟩:=new 4 40 rfl rfl
  obtain rfl:y40=.int .i64 k:=g40
  have hs:=SL.out w
  exact OpOk.val (.slice a1 k c1) (w_none rfl) [(39,_),(40,_)] (forall_cons e39 <| forall_cons e40 <| forall_nil) (fun ρ e ⟨c1,c2⟩=>by (try simp only[List.forall_mem_cons]at e);go_simp) ⟨Nw.refl _,rfl⟩
 ·intro a w hN old new
  obtain⟨y41,e41,g41⟩:=new 5 41 rfl rfl
  obtain rfl:y41=.slice a1 k c1:=g41
  have hcv:=conv_str (B0.out.nw hN)
  exact OpOk.val (.string ⟨l.toArray⟩) (w_none rfl) [(41,_)] (forall_cons e41 <| forall_nil) (fun ρ e ⟨c1,c2⟩=>by (try simp only[List.forall_mem_cons]at e);go_simp) ⟨Nw.refl _,rfl⟩
 ·intro a w hN old new
  obtain⟨y38,e38,g38⟩:=new 2 38 rfl rfl
  obtain rfl:y38=.string ⟨S.toArray⟩:=g38
  obtain⟨y42,e42,g42⟩:=new 6 42 rfl rfl
  obtain rfl:y42=.string ⟨l.toArray⟩:=g42
  exact OpOk.val (.bool (S==l)) (w_none rfl) [(38,_),(42,_)] (forall_cons e38 <| forall_cons e42 <| forall_nil) (fun ρ e ⟨c1,c2⟩=>by (try simp only[List.forall_mem_cons]at e);go_simp) ⟨Nw.refl _,rfl⟩
 ·intro a w hN hsz hdf old new
  obtain⟨y43,e43,g43⟩:=new 7 43 rfl
  exact tab_frame (frame_lit (dst:=[36,37,38,39,40,41,42,43]) (l:=[u0,u1,u2,u3,u4,u5,u6,.slice va n c,.int .i64 k,.int .u64 v,u10,u11,u12,u13,u14,u15,u16,u17,u18,u19,u20,u21,u22,u23,u24,u25,u26,u27,u28,u29,u30,u31,u32,u33,u34,u35,u36,u37,u38,u39,u40,u41,u42,u43,u44,u45,u46,u47,u48,u49,u50,u51,u52,u53,u54,u55,u56,u57,u58,u59,u60,u61,u62]) hA hsz hdf old (l':=[u0,u1,u2,u3,u4,u5,u6,.slice va n c,.int .i64 k,.int .u64 v,u10,u11,u12,u13,u14,u15,u16,u17,u18,u19,u20,u21,u22,u23,u24,u25,u26,u27,u28,u29,u30,u31,u32,u33,u34,u35,(a.tmps[36]?.getD undef),(a.tmps[37]?.getD undef),(a.tmps[38]?.getD undef),(a.tmps[39]?.getD undef),(a.tmps[40]?.getD undef),(a.tmps[41]?.getD undef),(a.tmps[42]?.getD undef),(a.tmps[43]?.getD undef),u44,u45,u46,u47,u48,u49,u50,u51,u52,u53,u54,u55,u56,u57,u58,u59,u60,u61,u62]) (by kernel_rfl)) (HQ.out _ _ _ _ _ _ _ _ w hN (by rw[e43];exact g43))
set_option maxHeartbeats 1600000 in
theorem gu11s {w5:World}{va:Option Addr}{n c v sl:Nat}{S l:List UInt8}
  (CW:Hid (∀W,Nw w5 W→Calls Tryz.prog 146 #[.slice va n c] W fun e w'=>e=.returned (.int .u64 v)∧Nw W w'))
  (CA:Hid (∀W,Nw w5 W→Calls Tryz.prog 129 #[.int .u64 v] W fun e w'=>∃a c,e=.returned (.slice a sl c)∧Bs w' (.slice a sl c) S∧Nw W w'))
  (B0:Hid (Bs w5 (.slice va n c) l)) (hn:n≤10)
  {u0 u1 u2 u3 u4 u5 u6 u7 u8 u9 u11 u12 u13 u14 u15 u16 u17 u18 u19 u20 u21 u22 u23 u24 u25 u26 u27 u28 u29 u30 u31 u32 u33 u34 u35 u36 u37 u38 u39 u40 u41 u42 u43 u44 u45 u46 u47 u48 u49 u50 u51 u52 u53 u54 u55 u56 u57 u58 u59 u60 u61 u62:Value}{Q:Exit→Act→World→Prop}
  (hQ:∀(s51 s52 s53 s54 s55 s56 s57 s58 s59 s60 s61 s62:Value) (wx:World),Nw w5 wx→s62=.bool (S==l)→Q .normal ⟨#[u0,u1,u2,u3,u4,u5,u6,u7,u8,u9,.slice va n c,u11,u12,u13,u14,u15,u16,u17,u18,u19,u20,u21,u22,u23,u24,u25,u26,u27,u28,u29,u30,u31,u32,u33,u34,u35,u36,u37,u38,u39,u40,u41,u42,u43,u44,u45,u46,u47,u48,u49,u50,s51,s52,s53,s54,s55,s56,s57,s58,s59,s60,s61,s62],[]⟩ wx) :
  Code.wp Tryz.prog ((Tryz.f96.body.bind (regionOf 11)).getD .skip) Q ⟨#[u0,u1,u2,u3,u4,u5,u6,u7,u8,u9,.slice va n c,u11,u12,u13,u14,u15,u16,u17,u18,u19,u20,u21,u22,u23,u24,u25,u26,u27,u28,u29,u30,u31,u32,u33,u34,u35,u36,u37,u38,u39,u40,u41,u42,u43,u44,u45,u46,u47,u48,u49,u50,u51,u52,u53,u54,u55,u56,u57,u58,u59,u60,u61,u62],[]⟩ w5:=by
 (try dsimp only at hQ ⊢)
 conv=>arg 2;whnf
 have HQ:=zH hQ
 clear hQ
 refine name_act fun A hA=>?_
 have hA10:A.tmps[10]? = some (.slice va n c):=by rw[hA];rfl
 have hlt0:∀d∈([51,52,53,54,55,56,57,58,59,60,61,62]:List Nat),d<63:=by decide
 refine wp_region_tab [51,52,53,54,55,56,57,58,59,60,61,62] [isV (.slice va n c),isV (.int .i64 n),isV (.bool true),isV (.bool true),isV (.slice va n c),isV (.int .u64 v),(⟨fun x w=>∃a c,x=.slice a sl c∧Bs w x S,fun x w w' ⟨a,c,h1,h2⟩ n=>⟨a,c,h1,h2.nw n⟩⟩),isV (.string ⟨S.toArray⟩),isV (.slice va n c),isV (.string ⟨l.toArray⟩),isV (.bool (S==l)),isV (.bool (S==l))] (by kernel_rfl) (by kernel_rfl) (by kernel_rfl) (of_decide_eq_true (by kernel_rfl)) (fun d hd=>by rw[hA];exact hlt0 d hd) (fun L hL=>⟨?a0,?a1,?a2,?a3,?a4,?a5,?a6,?a7,?a8,?a9,?a10,?a11,trivial⟩) ?he
 ·intro a w hN old new
  have e10:=old 10 (.slice va n c) rfl hA10
  exact OpOk.val (.slice va n c) (w_none rfl) [(10,_)] (forall_cons e10 <| forall_nil) (fun ρ e ⟨c1,c2⟩=>by (try simp only[List.forall_mem_cons]at e);go_simp) ⟨Nw.refl _,rfl⟩
 ·intro a w hN old new
  obtain⟨y51,e51,g51⟩:=new 0 51 rfl rfl
  obtain rfl:y51=.slice va n c:=g51
  exact OpOk.val (.int .i64 n) (w_none rfl) [(51,_)] (forall_cons e51 <| forall_nil) (fun ρ e ⟨c1,c2⟩=>by (try simp only[List.forall_mem_cons]at e);go_simp) ⟨Nw.refl _,rfl⟩
 ·intro a w hN old new
  obtain⟨y52,e52,g52⟩:=new 1 52 rfl rfl
  obtain rfl:y52=.int .i64 n:=g52
  exact OpOk.val (.bool true) (w_none rfl) [(52,_)] (forall_cons e52 <| forall_nil) (fun ρ e ⟨c1,c2⟩=>by (try simp only[List.forall_mem_cons]at e);(first|(go_simp;done)|(go_simp;omega))) ⟨Nw.refl _,rfl⟩
 ·intro a w hN old new
  obtain⟨y53,e53,g53⟩:=new 2 53 rfl rfl
  obtain rfl:y53=.bool true:=g53
  exact OpOk.val (.bool true) (w_none rfl) [(53,_)] (forall_cons e53 <| forall_nil) (fun ρ e ⟨c1,c2⟩=>by (try simp only[List.forall_mem_cons]at e);go_simp) ⟨Nw.refl _,rfl⟩
 ·intro a w hN old new
  obtain⟨y54,e54,g54⟩:=new 3 54 rfl rfl
  obtain rfl:y54=.bool true:=g54
  have e10:=old 10 (.slice va n c) rfl hA10
  exact OpOk.val (.slice va n c) (tab_yes hL rfl rfl e54) [(10,_)] (forall_cons e10 <| forall_nil) (fun ρ e ⟨c1,c2⟩=>by (try simp only[List.forall_mem_cons]at e);go_simp) ⟨Nw.refl _,rfl⟩
 ·intro a w hN old new
  obtain⟨y54,e54,g54⟩:=new 3 54 rfl rfl
  obtain rfl:y54=.bool true:=g54
  obtain⟨y55,e55,g55⟩:=new 4 55 rfl rfl
  obtain rfl:y55=.slice va n c:=g55
  refine OpOk.call (tab_yes hL rfl rfl e54) [(55,_)] (forall_cons e55 <| forall_nil) (fun ρ e ⟨c1,c2⟩=>by (try simp only[List.forall_mem_cons]at e);go_simp) (CW.out _ hN) (fun e w1 h=>?_)
  obtain⟨rfl,n1⟩:=h
  exact⟨_,rfl,n1,rfl⟩
 ·intro a w hN old new
  obtain⟨y54,e54,g54⟩:=new 3 54 rfl rfl
  obtain rfl:y54=.bool true:=g54
  obtain⟨y56,e56,g56⟩:=new 5 56 rfl rfl
  obtain rfl:y56=.int .u64 v:=g56
  refine OpOk.call (tab_yes hL rfl rfl e54) [(56,_)] (forall_cons e56 <| forall_nil) (fun ρ e ⟨c1,c2⟩=>by (try simp only[List.forall_mem_cons]at e);go_simp) (CA.out _ hN) (fun e w1 h=>?_)
  obtain⟨a1,c1,rfl,q1,n1⟩:=h
  exact⟨_,rfl,n1,⟨_,_,rfl,q1⟩⟩
 ·intro a w hN old new
  obtain⟨y54,e54,g54⟩:=new 3 54 rfl rfl
  obtain rfl:y54=.bool true:=g54
  obtain⟨y57,e57,g57⟩:=new 6 57 rfl rfl
  obtain⟨a0,c0,rfl,q0⟩:=g57
  have hcv:=conv_str q0
  exact OpOk.val (.string ⟨S.toArray⟩) (tab_yes hL rfl rfl e54) [(57,_)] (forall_cons e57 <| forall_nil) (fun ρ e ⟨c1,c2⟩=>by (try simp only[List.forall_mem_cons]at e);go_simp) ⟨Nw.refl _,rfl⟩
 ·intro a w hN old new
  obtain⟨y54,e54,g54⟩:=new 3 54 rfl rfl
  obtain rfl:y54=.bool true:=g54
  have e10:=old 10 (.slice va n c) rfl hA10
  exact OpOk.val (.slice va n c) (tab_yes hL rfl rfl e54) [(10,_)] (forall_cons e10 <| forall_nil) (fun ρ e ⟨c1,c2⟩=>by (try simp only[List.forall_mem_cons]at e);go_simp) ⟨Nw.refl _,rfl⟩
 ·intro a w hN old new
  obtain⟨y54,e54,g54⟩:=new 3 54 rfl rfl
  obtain rfl:y54=.bool true:=g54
  obtain⟨y59,e59,g59⟩:=new 8 59 rfl rfl
  obtain rfl:y59=.slice va n c:=g59
  have hcv:=conv_str (B0.out.nw hN)
  exact OpOk.val (.string ⟨l.toArray⟩) (tab_yes hL rfl rfl e54) [(59,_)] (forall_cons e59 <| forall_nil) (fun ρ e ⟨c1,c2⟩=>by (try simp only[List.forall_mem_cons]at e);go_simp) ⟨Nw.refl _,rfl⟩
 ·intro a w hN old new
  obtain⟨y54,e54,g54⟩:=new 3 54 rfl rfl
  obtain rfl:y54=.bool true:=g54
  obtain⟨y58,e58,g58⟩:=new 7 58 rfl rfl
  obtain rfl:y58=.string ⟨S.toArray⟩:=g58
  obtain⟨y60,e60,g60⟩:=new 9 60 rfl rfl
  obtain rfl:y60=.string ⟨l.toArray⟩:=g60
  exact OpOk.val (.bool (S==l)) (tab_yes hL rfl rfl e54) [(58,_),(60,_)] (forall_cons e58 <| forall_cons e60 <| forall_nil) (fun ρ e ⟨c1,c2⟩=>by (try simp only[List.forall_mem_cons]at e);go_simp) ⟨Nw.refl _,rfl⟩
 ·intro a w hN old new
  obtain⟨y54,e54,g54⟩:=new 3 54 rfl rfl
  obtain rfl:y54=.bool true:=g54
  obtain⟨y61,e61,g61⟩:=new 10 61 rfl rfl
  obtain rfl:y61=.bool (S==l):=g61
  exact OpOk.val (.bool (S==l)) (w_none rfl) [(54,_),(61,_)] (forall_cons e54 <| forall_cons e61 <| forall_nil) (fun ρ e ⟨c1,c2⟩=>by (try simp only[List.forall_mem_cons]at e);go_simp) ⟨Nw.refl _,rfl⟩
 ·intro a w hN hsz hdf old new
  obtain⟨y62,e62,g62⟩:=new 11 62 rfl
  exact tab_frame (frame_lit (dst:=[51,52,53,54,55,56,57,58,59,60,61,62]) (l:=[u0,u1,u2,u3,u4,u5,u6,u7,u8,u9,.slice va n c,u11,u12,u13,u14,u15,u16,u17,u18,u19,u20,u21,u22,u23,u24,u25,u26,u27,u28,u29,u30,u31,u32,u33,u34,u35,u36,u37,u38,u39,u40,u41,u42,u43,u44,u45,u46,u47,u48,u49,u50,u51,u52,u53,u54,u55,u56,u57,u58,u59,u60,u61,u62]) hA hsz hdf old (l':=[u0,u1,u2,u3,u4,u5,u6,u7,u8,u9,.slice va n c,u11,u12,u13,u14,u15,u16,u17,u18,u19,u20,u21,u22,u23,u24,u25,u26,u27,u28,u29,u30,u31,u32,u33,u34,u35,u36,u37,u38,u39,u40,u41,u42,u43,u44,u45,u46,u47,u48,u49,u50,(a.tmps[51]?.getD undef),(a.tmps[52]?.getD undef),(a.tmps[53]?.getD undef),(a.tmps[54]?.getD undef),(a.tmps[55]?.getD undef),(a.tmps[56]?.getD undef),(a.tmps[57]?.getD undef),(a.tmps[58]?.getD undef),(a.tmps[59]?.getD undef),(a.tmps[60]?.getD undef),(a.tmps[61]?.getD undef),(a.tmps[62]?.getD undef)]) (by kernel_rfl)) (HQ.out _ _ _ _ _ _ _ _ _ _ _ _ w hN (by rw[e62];exact g62))
set_option maxHeartbeats 1600000 in
theorem gu11l {w5:World}{va:Option Addr}{n c v sl:Nat}{S l:List UInt8}
  (_CW:Hid (∀W,Nw w5 W→Calls Tryz.prog 146 #[.slice va n c] W fun e w'=>e=.returned (.int .u64 v)∧Nw W w'))
  (_CA:Hid (∀W,Nw w5 W→Calls Tryz.prog 129 #[.int .u64 v] W fun e w'=>∃a c,e=.returned (.slice a sl c)∧Bs w' (.slice a sl c) S∧Nw W w'))
  (_B0:Hid (Bs w5 (.slice va n c) l)) (hn:¬ n≤10)
  {u0 u1 u2 u3 u4 u5 u6 u7 u8 u9 u11 u12 u13 u14 u15 u16 u17 u18 u19 u20 u21 u22 u23 u24 u25 u26 u27 u28 u29 u30 u31 u32 u33 u34 u35 u36 u37 u38 u39 u40 u41 u42 u43 u44 u45 u46 u47 u48 u49 u50 u51 u52 u53 u54 u55 u56 u57 u58 u59 u60 u61 u62:Value}{Q:Exit→Act→World→Prop}
  (hQ:∀(s51 s52 s53 s54 s55 s56 s57 s58 s59 s60 s61 s62:Value) (wx:World),Nw w5 wx→s62=.bool false→Q .normal ⟨#[u0,u1,u2,u3,u4,u5,u6,u7,u8,u9,.slice va n c,u11,u12,u13,u14,u15,u16,u17,u18,u19,u20,u21,u22,u23,u24,u25,u26,u27,u28,u29,u30,u31,u32,u33,u34,u35,u36,u37,u38,u39,u40,u41,u42,u43,u44,u45,u46,u47,u48,u49,u50,s51,s52,s53,s54,s55,s56,s57,s58,s59,s60,s61,s62],[]⟩ wx) :
  Code.wp Tryz.prog ((Tryz.f96.body.bind (regionOf 11)).getD .skip) Q ⟨#[u0,u1,u2,u3,u4,u5,u6,u7,u8,u9,.slice va n c,u11,u12,u13,u14,u15,u16,u17,u18,u19,u20,u21,u22,u23,u24,u25,u26,u27,u28,u29,u30,u31,u32,u33,u34,u35,u36,u37,u38,u39,u40,u41,u42,u43,u44,u45,u46,u47,u48,u49,u50,u51,u52,u53,u54,u55,u56,u57,u58,u59,u60,u61,u62],[]⟩ w5:=by
 (try dsimp only at hQ ⊢)
 conv=>arg 2;whnf
 have HQ:=zH hQ
 clear hQ
 refine name_act fun A hA=>?_
 have hA10:A.tmps[10]? = some (.slice va n c):=by rw[hA];rfl
 have hlt0:∀d∈([51,52,53,54,55,56,57,58,59,60,61,62]:List Nat),d<63:=by decide
 refine wp_region_tab [51,52,53,54,55,56,57,58,59,60,61,62] [isV (.slice va n c),isV (.int .i64 n),isV (.bool false),isV (.bool false),isV (undef),isV (undef),isV (undef),isV (undef),isV (undef),isV (undef),isV (undef),isV (.bool false)] (by kernel_rfl) (by kernel_rfl) (by kernel_rfl) (of_decide_eq_true (by kernel_rfl)) (fun d hd=>by rw[hA];exact hlt0 d hd) (fun L hL=>⟨?a0,?a1,?a2,?a3,?a4,?a5,?a6,?a7,?a8,?a9,?a10,?a11,trivial⟩) ?he
 ·intro a w hN old new
  have e10:=old 10 (.slice va n c) rfl hA10
  exact OpOk.val (.slice va n c) (w_none rfl) [(10,_)] (forall_cons e10 <| forall_nil) (fun ρ e ⟨c1,c2⟩=>by (try simp only[List.forall_mem_cons]at e);go_simp) ⟨Nw.refl _,rfl⟩
 ·intro a w hN old new
  obtain⟨y51,e51,g51⟩:=new 0 51 rfl rfl
  obtain rfl:y51=.slice va n c:=g51
  exact OpOk.val (.int .i64 n) (w_none rfl) [(51,_)] (forall_cons e51 <| forall_nil) (fun ρ e ⟨c1,c2⟩=>by (try simp only[List.forall_mem_cons]at e);go_simp) ⟨Nw.refl _,rfl⟩
 ·intro a w hN old new
  obtain⟨y52,e52,g52⟩:=new 1 52 rfl rfl
  obtain rfl:y52=.int .i64 n:=g52
  exact OpOk.val (.bool false) (w_none rfl) [(52,_)] (forall_cons e52 <| forall_nil) (fun ρ e ⟨c1,c2⟩=>by (try simp only[List.forall_mem_cons]at e);(first|(go_simp;done)|(go_simp;omega))) ⟨Nw.refl _,rfl⟩
 ·intro a w hN old new
  obtain⟨y53,e53,g53⟩:=new 2 53 rfl rfl
  obtain rfl:y53=.bool false:=g53
  exact OpOk.val (.bool false) (w_none rfl) [(53,_)] (forall_cons e53 <| forall_nil) (fun ρ e ⟨c1,c2⟩=>by (try simp only[List.forall_mem_cons]at e);go_simp) ⟨Nw.refl _,rfl⟩
 ·intro a w hN old new
  obtain⟨y54,e54,g54⟩:=new 3 54 rfl rfl
  obtain rfl:y54=.bool false:=g54
  exact OpOk.skip (tab_no hL rfl rfl e54) ⟨Nw.refl _,rfl⟩
 ·intro a w hN old new
  obtain⟨y54,e54,g54⟩:=new 3 54 rfl rfl
  obtain rfl:y54=.bool false:=g54
  exact OpOk.skip (tab_no hL rfl rfl e54) ⟨Nw.refl _,rfl⟩
 ·intro a w hN old new
  obtain⟨y54,e54,g54⟩:=new 3 54 rfl rfl
  obtain rfl:y54=.bool false:=g54
  exact OpOk.skip (tab_no hL rfl rfl e54) ⟨Nw.refl _,rfl⟩
 ·intro a w hN old new
  obtain⟨y54,e54,g54⟩:=new 3 54 rfl rfl
  obtain rfl:y54=.bool false:=g54
  exact OpOk.skip (tab_no hL rfl rfl e54) ⟨Nw.refl _,rfl⟩
 ·intro a w hN old new
  obtain⟨y54,e54,g54⟩:=new 3 54 rfl rfl
  obtain rfl:y54=.bool false:=g54
  exact OpOk.skip (tab_no hL rfl rfl e54) ⟨Nw.refl _,rfl⟩
 ·intro a w hN old new
  obtain⟨y54,e54,g54⟩:=new 3 54 rfl rfl
  obtain rfl:y54=.bool false:=g54
  exact OpOk.skip (tab_no hL rfl rfl e54) ⟨Nw.refl _,rfl⟩
 ·intro a w hN old new
  obtain⟨y54,e54,g54⟩:=new 3 54 rfl rfl
  obtain rfl:y54=.bool false:=g54
  exact OpOk.skip (tab_no hL rfl rfl e54) ⟨Nw.refl _,rfl⟩
 ·intro a w hN old new
  obtain⟨y54,e54,g54⟩:=new 3 54 rfl rfl
  obtain rfl:y54=.bool false:=g54
  obtain⟨y61,e61,g61⟩:=new 10 61 rfl rfl
  obtain rfl:y61=undef:=g61
  exact OpOk.val (.bool false) (w_none rfl) [(54,_),(61,_)] (forall_cons e54 <| forall_cons e61 <| forall_nil) (fun ρ e ⟨c1,c2⟩=>by (try simp only[List.forall_mem_cons]at e);go_simp) ⟨Nw.refl _,rfl⟩
 ·intro a w hN hsz hdf old new
  obtain⟨y62,e62,g62⟩:=new 11 62 rfl
  exact tab_frame (frame_lit (dst:=[51,52,53,54,55,56,57,58,59,60,61,62]) (l:=[u0,u1,u2,u3,u4,u5,u6,u7,u8,u9,.slice va n c,u11,u12,u13,u14,u15,u16,u17,u18,u19,u20,u21,u22,u23,u24,u25,u26,u27,u28,u29,u30,u31,u32,u33,u34,u35,u36,u37,u38,u39,u40,u41,u42,u43,u44,u45,u46,u47,u48,u49,u50,u51,u52,u53,u54,u55,u56,u57,u58,u59,u60,u61,u62]) hA hsz hdf old (l':=[u0,u1,u2,u3,u4,u5,u6,u7,u8,u9,.slice va n c,u11,u12,u13,u14,u15,u16,u17,u18,u19,u20,u21,u22,u23,u24,u25,u26,u27,u28,u29,u30,u31,u32,u33,u34,u35,u36,u37,u38,u39,u40,u41,u42,u43,u44,u45,u46,u47,u48,u49,u50,(a.tmps[51]?.getD undef),(a.tmps[52]?.getD undef),(a.tmps[53]?.getD undef),(a.tmps[54]?.getD undef),(a.tmps[55]?.getD undef),(a.tmps[56]?.getD undef),(a.tmps[57]?.getD undef),(a.tmps[58]?.getD undef),(a.tmps[59]?.getD undef),(a.tmps[60]?.getD undef),(a.tmps[61]?.getD undef),(a.tmps[62]?.getD undef)]) (by kernel_rfl)) (HQ.out _ _ _ _ _ _ _ _ _ _ _ _ w hN (by rw[e62];exact g62))
set_option maxHeartbeats 1600000
def sealT (c:Nat):Nat→List UInt8
 |0=>[0,0,0,0]
 |1=>[0,0,0,UInt8.ofNat c]
 |2=>[0,0,UInt8.ofNat (c / 256),UInt8.ofNat c]
 |3=>[0,UInt8.ofNat (c / 65536),UInt8.ofNat (c / 256),UInt8.ofNat c]
 |_=>[UInt8.ofNat (c / 16777216),UInt8.ofNat (c / 65536),UInt8.ofNat (c / 256),UInt8.ofNat c]
theorem sealT_len (c j:Nat):(sealT c j).length=4:=by
 match j with
 |0=>rfl
 |1=>rfl
 |2=>rfl
 |3=>rfl
 |_+4=>rfl
theorem sealT_set (c:Nat){j:Nat}(hj:j<4) (l:List UInt8):(l++sealT c j).set (l.length+(3-j)) (UInt8.ofNat (c / 256 ^ j))=l++sealT c (j+1):=by
 rw[List.set_append_right _ _ (by omega)]
 congr 1
 rw[show l.length+(3-j)-l.length=3-j by omega]
 match j,hj with
 |0,_=>simp[sealT]
 |1,_=>simp[sealT]
 |2,_=>simp[sealT]
 |3,_=>simp[sealT]
theorem rSeal_ok {w:World}{v:Value}{l:List UInt8}(hv:Bs w v l) (hl:l.length≤14000000) :
  Calls Tryz.prog 131 #[v] w (NewB w (sealB sumB l)):=by
 obtain⟨a,c,rfl,-⟩:=hv.len
 have n1:=(Nw.refl w).alloc (.cells #[.int .u8 0,.int .u8 0,.int .u8 0,.int .u8 0] 5 (0,0))
 have R1:Bs (w.alloc (.cells #[.int .u8 0,.int .u8 0,.int .u8 0,.int .u8 0] 5 (0,0))) (.slice (some ⟨w.heap.size,0,none⟩) 4 4) [0,0,0,0]:=rd_lit (f:=u8) w 5 (0,0) [0,0,0,0] _ 4 rfl (by decide) (by decide)
 have AF:=after_ok (hv.nw n1) R1 (by simp;omega)
 obtain⟨L0,hL0⟩:=zN (l++[0,0,0,0])
 rw[hL0]at AF
 have AF:=zH AF
 have N1:=zH n1
 have HV:=zH hv
 obtain⟨n,hn⟩:=zN (l.length)
 have HN:=zH hn
 rw[hn]at hl HV AF ⊢
 have hL0n:L0.length=n+4:=by rw[←hL0,List.length_append,hn];rfl
 have HL0:=zH hL0
 have HL0N:=zH hL0n
 obtain⟨cr,hcr⟩:=zN (crcN l)
 have hcrl:cr<4294967296:=by rw[←hcr];exact crcN_lt l
 have HCR:=zH hcr
 clear hv n1 R1 hn hL0 hL0n hcr
 go_enter Tryz.func131,Tryz.ntmps131
 go_wp2_with fail
 refine AF.out.mono ?_
 rintro e w2 ⟨v2,rfl,b2,n2,f2⟩
 rw[HL0N.out]at b2
 obtain⟨g,o,c2,rfl⟩:=own_some b2 (by omega)
 have B2:=zH b2
 have N2:=zH (N1.out.trans n2)
 have hg2:=f2 g rfl
 have hgw:w.heap.size≤g:=Nat.le_trans N1.out.size hg2
 have CR:=rCrc_ok (HV.out.nw N2.out) (by rw[HN.out];omega)
 rw[HCR.out]at CR
 have CR:=zH CR
 clear b2 n2 f2 AF hg2
 go_wp2_with fail
 refine CR.out.mono ?_
 rintro e w3 ⟨rfl,rfl⟩
 have hw1:IntKind.i64.wrap (((n+4:Nat):Int)-1)=(n:Int)+3:=by rw[show ((n+4:Nat):Int)-1=(n:Int)+3 by omega];exact IntWalk.i64_in _ (by omega)
 have B0:Hid (Vec 1 w2 (.slice (some ⟨g,o,none⟩) (n+4) c2) (n+4) ((l++sealT cr 0).map u8)):=zH (by rw[show l++sealT cr 0=L0 from HL0.out];exact B2.out)
 clear B2 CR
 go_wp2
 go_loopw [4,5] (fun sv i wr=>∃(j:Nat) (iv:Int) (sn:Nat),j≤4∧iv=(n:Int)+3-j∧i=.int .i64 iv∧sv=.int .u32 sn∧sn=cr / 256 ^ j∧Vec 1 wr (.slice (some ⟨g,o,none⟩) (n+4) c2) (n+4) ((l++sealT cr j).map u8)∧Nw w wr) (fun _ i _=>(intOf i-n+1).toNat)
 case atStart=>exact⟨0,(n:Int)+4-1,cr,by omega,by omega,rfl,rfl,by simp,B0.out,N2.out⟩
 case round =>
  clear hw1
  obtain⟨j,iv,sn,hj,hiv,rfl,rfl,hsn,hvec,hnw⟩:=hrel
  have HV2:=zH hvec
  have HW:=zH hnw
  have HIV:=zH hiv
  have HSN:=zH hsn
  clear hvec hnw
  by_cases h4:j<4
  case neg =>
   obtain rfl:j=4:=by omega
   have hlt:¬ (n:Int)≤iv:=by omega
   clear hiv hsn
   go_wp2
   go_ret
   have hfin:sealB sumB l=l++sealT cr 4:=by rw[←HCR.out];rfl
   refine⟨.slice (some ⟨g,o,none⟩) (n+4) c2,rfl,?_,HW.out,fun x hx=>by cases hx;exact hgw⟩
   rw[hfin,List.length_append,sealT_len,HN.out]
   exact HV2.out
  have hge:(n:Int)≤iv:=by omega
  obtain⟨k,hk⟩:∃k:Nat,n+(3-j)=k:=⟨_,rfl⟩
  obtain rfl:iv=(k:Int):=by omega
  have hkl:k<n+4:=by omega
  obtain⟨u,hc,-,hf⟩:=own1 HV2.out k (by omega)
  have hsl:sn<4294967296:=by rw[hsn];exact Nat.lt_of_le_of_lt (Nat.div_le_self _ _) hcrl
  have hq:(sn:Int) % 256=((sn % 256:Nat):Int):=by omega
  have hqq:((sn % 256:Nat):Int) % 256=((sn % 256:Nat):Int):=by omega
  have hd:(sn:Int) / 256=((sn / 256:Nat):Int):=by omega
  have hwi:IntKind.i64.wrap ((k:Int)-1)=(k:Int)-1:=IntWalk.i64_in _ (by omega)
  have eu:(UInt8.ofNat sn).toNat=sn % 256:=by simp
  have HS1:Hid (sn / 256=cr / 256 ^ (j+1)):=zH (by rw[hsn,Nat.div_div_eq_div_mul,Nat.pow_succ])
  have hset:=sealT_set cr h4 l
  rw[HN.out,hk,←hsn]at hset
  have HSET:=zH hset
  obtain⟨q,hqe⟩:=zN (sn % 256)
  obtain⟨s2,hs2⟩:=zN (sn / 256)
  rw[hqe]at hq hqq eu
  rw[hs2]at hd HS1
  have V3:=HV2.out.set k (by rw[List.length_map,List.length_append,sealT_len,HN.out];exact hkl) (.int .u8 q)
  have e3:((l++sealT cr j).map u8).set k (.int .u8 q)=(l++sealT cr (j+1)).map u8:=by
   rw[←HSET.out,List.map_set]
   unfold u8
   rw[eu]
  rw[e3]at V3
  have n3:Nw w (wr.setCell ⟨g,o+k,none⟩ (.int .u8 q)):=Only.setCell (S:=fun _=>False) HW.out (fun h=>absurd h (by simp only;omega)) _
  have V3:=zH V3
  have N3:=zH n3
  clear hiv hsn e3 n3 hset hqe hs2 eu
  go_wp2
  go_roundw
  case rel=>exact⟨j+1,(k:Int)-1,s2,by omega,by have:=HIV.out;omega,by go_num,by go_num,HS1.out,V3.out,N3.out⟩
  case measure=>have:=HIV.out;simp[intOf];omega
theorem rUnseal_ok {w:World}{v:Value}{l:List UInt8}(hv:Bs w v l) (hl:l.length≤14000000){r:List UInt8}{x:Int}(hr:unsealB l=(r,x)) :
  Calls Tryz.prog 95 #[v] w fun e w'=>∃v',e=.returned (.tuple #[v',.int .i64 x])∧Bs w' v' r∧Nw w w':=by
 obtain⟨a,c,rfl,-⟩:=hv.len
 have HV:=zH hv
 obtain⟨n,hn⟩:=zN (l.length)
 have HN:=zH hn
 unfold unsealB at hr
 rw[hn]at hl hr HV ⊢
 clear hv hn
 by_cases h4:n<4
 ·rw[if_pos h4]at hr
  obtain⟨rfl,rfl⟩:[]=r∧(11:Int)=x:=by simpa using hr
  clear hr
  go_enter Tryz.func95,Tryz.ntmps95
  go_wp2
  refine bodyPost_ret (v:=.tuple #[.slice none 0 0,.int .i64 11]) (by simp[results,Tryz.results95,go_sem]) rfl ⟨_,rfl,.inl ⟨none,rfl,rfl⟩,Nw.refl _⟩
 rw[if_neg h4]at hr
 obtain⟨m,hm⟩:=zN (n-4)
 rw[hm]at hr
 obtain⟨a1,c1,hb1,hl1,-,hsl⟩:=bs_h HV.out m (by omega)
 have hw1:IntKind.i64.wrap ((n:Int)-4)=(m:Int):=by rw[show (n:Int)-4=(m:Int) by omega];exact IntWalk.i64_in _ (by omega)
 have AF:=after_ok hb1 (.inl ⟨none,rfl,rfl⟩:Bs w (.slice none 0 0) []) (by rw[hl1];simp;omega)
 rw[List.append_nil]at AF
 obtain⟨I,hI⟩:=zN (l.take m)
 rw[hI]at AF hr hl1
 have AF:=zH AF
 have HL1:=zH hl1
 have HR:=zH hr
 clear hb1 hl1 hr hI
 go_enter Tryz.func95,Tryz.ntmps95
 go_wp2_with fail
 refine AF.out.mono ?_
 rintro e w2 h2
 obtain⟨v2,rfl,b2,n2,-⟩:=h2.bs
 obtain⟨a2,c2,rfl,-⟩:=b2.len
 have B2:=zH b2
 have N2:=zH n2
 obtain⟨S,hS⟩:=zN (sealB sumB I)
 obtain⟨il,hil⟩:=zN (I.length)
 rw[hil]at HL1 ⊢
 have BI:Hid (Bs w2 (.slice a2 il c2) I):=zH (by rw[←hil];exact b2)
 have SE:Hid (∀W,Nw w2 W→Calls Tryz.prog 131 #[.slice a2 il c2] W fun e w'=>∃a c,e=.returned (.slice a S.length c)∧Bs w' (.slice a S.length c) S∧Nw W w'):=zH (fun W hW=>by
  have:=rSeal_ok (BI.out.nw hW) (by rw[hil,HL1.out];omega)
  rw[hS]at this
  refine this.mono fun e w' h=>?_
  obtain⟨v,h1,h2,h3,-⟩:=h.bs
  obtain⟨a,c,rfl,-⟩:=h2.len
  exact⟨a,c,h1,h2,h3⟩)
 have BL:Hid (Bs w2 (.slice a n c) l):=zH (HV.out.nw n2)
 rw[hS]at HR
 clear h2 b2 n2 AF hsl hw1 hS hil
 go_upto_region 4 with fail
 refine us4 SE BL ?_
 intro s14 s15 s16 s17 s18 s19 w3 n3 h19
 subst h19
 have N3:=zH (N2.out.trans n3)
 have BI3:=zH (BI.out.nw n3)
 clear n3 BI SE BL
 by_cases he:S=l
 ·have hb:(S==l)=true:=by simpa using he
  rw[hb]
  clear hb
  have hr:=HR.out
  rw[if_pos he]at hr
  obtain⟨rfl,rfl⟩:I=r∧(0:Int)=x:=by simpa using hr
  clear hr HR
  go_wp2
  refine bodyPost_ret (v:=.tuple #[.slice a2 il c2,.int .i64 0]) (by simp[results,Tryz.results95,go_sem]) rfl ⟨_,rfl,BI3.out,N3.out⟩
 ·have hb:(S==l)=false:=by simpa using he
  rw[hb]
  clear hb
  have hr:=HR.out
  rw[if_neg he]at hr
  obtain⟨rfl,rfl⟩:[]=r∧(12:Int)=x:=by simpa using hr
  clear hr HR
  go_wp2
  refine bodyPost_ret (v:=.tuple #[.slice none 0 0,.int .i64 12]) (by simp[results,Tryz.results95,go_sem]) rfl ⟨_,rfl,.inl ⟨none,rfl,rfl⟩,N3.out⟩
theorem weighs_ok:∀(l:List UInt8){w:World}{v:Value}(_:Bs w v l),Calls Tryz.prog 146 #[v] w fun e w'=>e=.returned (.int .u64 (weighsL l))∧Nw w w'
 |[],w,v,hv=>by
  obtain⟨a,c,rfl,-⟩:=hv.len
  clear hv
  go_enter Tryz.func146,Tryz.ntmps146
  go_wp2
  go_ret
  exact⟨rfl,Nw.refl _⟩
 |x::l,w,v,hv=>by
  obtain⟨a,c,rfl,h1,h2,hel⟩:=hv.elems
  obtain⟨g,o,rfl,hg,hc⟩:=hel 0 (by simp)
  obtain⟨m,hm⟩:=zN (l.length)
  obtain⟨n,hn⟩:=zN ((x::l).length)
  have hnm:n=m+1:=by rw[←hn,←hm];rfl
  obtain⟨a1,c1,hb1,-,hsl⟩:=bs_l (n:=n) (by rw[←hn];exact hv) 1 (by omega) hn
  rw[show n-1=m by omega]at hb1 hsl
  have hb1:Bs w (.slice a1 m c1) l:=hb1
  rw[hn]
  have hc0:w.cell? ⟨g,o,none⟩=some (.int .u8 x.toNat):=hc
  obtain⟨cb,hcb⟩:=zN (x.toNat)
  have hcbl:cb<256:=by rw[←hcb];exact x.toNat_lt
  rw[hcb]at hc0
  obtain⟨tl,htl⟩:=zN (weighsL l)
  have htll:tl<18446744073709551616:=by rw[←htl];exact weighs_lt l
  have E:Hid (weighsL (x::l)=(cb % 128+128*tl) % 18446744073709551616):=zH (by rw[weighsL,hcb,htl])
  have CA:Hid (∀W,Nw w W→Calls Tryz.prog 146 #[.slice a1 m c1] W fun e w'=>e=.returned (.int .u64 tl)∧Nw W w'):=zH (fun W hW=>by
   have:=weighs_ok l (hb1.nw hW)
   rw[htl]at this
   exact this)
  have h9:Int.tmod (cb:Int) 128=((cb % 128:Nat):Int):=by rw[Int.tmod_eq_emod_of_nonneg (by omega)];omega
  have h10:IntKind.u64.wrap ((cb % 128:Nat):Int)=((cb % 128:Nat):Int):=by rw[IntKind.wrap_u64];omega
  have h14:IntKind.u64.wrap (128*(tl:Int))=((128*tl % 18446744073709551616:Nat):Int):=by rw[IntKind.wrap_u64];omega
  have h15:IntKind.u64.wrap (((cb % 128:Nat):Int)+((128*tl % 18446744073709551616:Nat):Int))=(((cb % 128+128*tl) % 18446744073709551616:Nat):Int):=by rw[IntKind.wrap_u64];omega
  have hn0:¬ n=0:=by omega
  have hnb:((n:Int)==0)=false:=by simp;omega
  have H9:=zH h9
  have H10:=zH h10
  have H14:=zH h14
  have H15:=zH h15
  have C0:=zH hc0
  have G0:=zH hg
  have SL:=zH hsl
  rw[E.out]
  generalize cb % 128=q at H9 H10 H15 ⊢
  clear hv h2 hel hc hm hn hb1 hsl hc0 hcb htl h9 h10 h14 h15
  go_enter Tryz.func146,Tryz.ntmps146
  go_upto_region 3 with fail
  refine wg3 (by omega) H9 H10 H14 H15 CA C0 G0 SL ?_
  intro s2 s6 s7 s8 s9 s10 s11 s12 s13 s14 s15 w3 n3 h2
  subst h2
  have N3:=zH n3
  clear n3
  go_wp2
  go_ret
  exact⟨rfl,N3.out⟩
theorem dInt_ok {w:World}{v:Value}{l:List UInt8}(hv:Bs w v l) (n:Int) (h0 : -9223372036854775808≤n) (h1:n≤9223372036854775807) (hl:l.length≤15000000) :
  Calls Tryz.prog 162 #[v,.int .i64 n] w (NewB w (l++intB n)):=by
 obtain⟨a,c,rfl,-⟩:=hv.len
 have UI:Calls Tryz.prog 154 #[.slice a l.length c,.int .u64 (zig n)] w (NewB w (l++intB n)):=rUint_ok hv (zig n) (Nat.lt_of_lt_of_eq (zig_lt h0 h1) (by decide)) hl
 obtain⟨L,hL⟩:=zN (l++intB n)
 rw[hL]at UI ⊢
 clear hL hv
 by_cases hn:n<0
 ·have hz:(zig n:Int)=2*(-1-n)+1:=by unfold zig;split <;> omega
  rw[hz]at UI
  have UI:=zH UI
  have e1:IntKind.i64.wrap (-1-n) = -1-n:=by rw[IntKind.wrap_i64];omega
  have e2:IntKind.u64.wrap (-1-n) = -1-n:=by rw[IntKind.wrap_u64];omega
  have e3:IntKind.u64.wrap (2*(-1-n))=2*(-1-n):=by rw[IntKind.wrap_u64];omega
  have e4:IntKind.u64.wrap (2*(-1-n)+1)=2*(-1-n)+1:=by rw[IntKind.wrap_u64];omega
  have q:decide (n<0)=true:=by simp;exact hn
  clear hz hn
  go_enter Tryz.func162,Tryz.ntmps162
  go_wp2_with fail
  refine UI.out.mono ?_
  rintro e w1 ⟨v',rfl,b2,n2,f2⟩
  obtain⟨a2,c2,rfl,-⟩:=b2.len
  have B2:=zH b2
  have N2:=zH n2
  have F2:=zH f2
  clear b2 n2 f2
  go_wp2
  go_ret
  exact⟨_,rfl,B2.out,N2.out,F2.out⟩
 ·have hz:(zig n:Int)=2*n:=by unfold zig;split <;> omega
  rw[hz]at UI
  have UI:=zH UI
  have e2:IntKind.u64.wrap n=n:=by rw[IntKind.wrap_u64];omega
  have e3:IntKind.u64.wrap (2*n)=2*n:=by rw[IntKind.wrap_u64];omega
  have q:decide (n<0)=false:=by simp;omega
  clear hz hn
  go_enter Tryz.func162,Tryz.ntmps162
  go_wp2_with fail
  refine UI.out.mono ?_
  rintro e w1 ⟨v',rfl,b2,n2,f2⟩
  obtain⟨a2,c2,rfl,-⟩:=b2.len
  have B2:=zH b2
  have N2:=zH n2
  have F2:=zH f2
  clear b2 n2 f2
  go_wp2
  go_ret
  exact⟨_,rfl,B2.out,N2.out,F2.out⟩
theorem four_ok (e:Ev) (w:World):Calls Tryz.prog 161 #[.agg #[.int .i64 e.thread,.int .u8 e.op.toNat,.int .i64 e.obj,.int .i64 e.a,.int .i64 e.b]] w fun x w' =>
  x=.returned (.agg #[.int .i64 e.thread,.int .i64 e.obj,.int .i64 e.a,.int .i64 e.b])∧Nw w w':=by
 go_enter Tryz.func161,Tryz.ntmps161
 go_wp2
 refine bodyPost_ret (v:=.agg #[.int .i64 e.thread,.int .i64 e.obj,.int .i64 e.a,.int .i64 e.b]) (by simp[results,Tryz.results161,go_sem]) rfl ⟨rfl,?_⟩
 exact ((Nw.refl w).alloc _).alloc _
def BxN (w5 w:World) (x:Value) (T:TypeId) (S:Prop) (cs:List Value):Prop:=∃pd us,x=.pointer (some ⟨pd,0,none⟩)∧w5.heap.size≤pd∧w.heap[pd]? = some (.cells us.toArray T (0,0))∧us.length=cs.length∧(S→us=cs)
section
variable {w5 w w':World}{x:Value}{cs:List Value}{T:TypeId}{S S':Prop}
theorem BxN.new (zs:List Value) (hw:Nw w5 w) (hl:zs.length=cs.length) (hs:S→False):BxN w5 (w.alloc (.cells zs.toArray T (0,0))) (.pointer (some ⟨w.heap.size,0,none⟩)) T S cs:=⟨_,zs,rfl,hw.size,heap_alloc_new w _,hl,fun h=>(hs h).elim⟩
theorem heap_setCells_at {pd:Nat}:∀(vs pre us:List Value) (w:World),us.length=vs.length→w.heap[pd]? = some (.cells (pre++us).toArray T (0,0))→(w.setCells pd pre.length vs).heap[pd]? = some (.cells (pre++vs).toArray T (0,0))
 |[],pre,us,w,hl,h=>by
  obtain rfl:=List.eq_nil_of_length_eq_zero hl
  exact h
 |v::vs,pre,[],w,hl,h=>by simp at hl
 |v::vs,pre,u::us,w,hl,h=>by
  rw[World.setCells]
  have h1:=heap_setCell_at h pre.length v
  have e:((pre++u::us).toArray.setIfInBounds pre.length v)=((pre++[v])++us).toArray:=by
   simp
  have h2:(w.setCell ⟨pd,pre.length,none⟩ v).heap[pd]? = some (.cells ((pre++[v])++us).toArray T (0,0)):=by rw[←e];exact h1
  have:=heap_setCells_at vs (pre++[v]) us (w.setCell ⟨pd,pre.length,none⟩ v) (by simpa using hl) h2
  simpa using this
theorem BxN.put {pd:Nat}{us:List Value}(hl:us.length=cs.length) (hp:w5.heap.size≤pd) (h:w.heap[pd]? = some (.cells us.toArray T (0,0))):BxN w5 (w.setCells pd 0 cs) (.pointer (some ⟨pd,0,none⟩)) T S cs:=
 ⟨pd,cs,rfl,hp,heap_setCells_at cs [] us w hl h,rfl,fun _=>rfl⟩
theorem only_setCells (w:World) (pd:Nat) (vs:List Value):Only (fun k=>k=pd) w (w.setCells pd 0 vs):=Only.setCells vs 0 w (fun _=>rfl)
theorem nw_setCells (hN:Nw w5 w){pd:Nat}(hp:w5.heap.size≤pd) (vs:List Value):Nw w5 (w.setCells pd 0 vs):=hN.trans' (only_setCells w pd vs) fun k hk e=>by omega
end
end Go.Proofs.YtkbenkldfehhlaaGreatDoor
