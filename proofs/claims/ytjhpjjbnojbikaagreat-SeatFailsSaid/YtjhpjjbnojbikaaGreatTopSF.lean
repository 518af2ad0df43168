/- SeatFails: when the head of a calm group of three or four is silent and suspected, the others go on without it, with all that it had committed. No condition beyond the row. -/
import Derived.Test.YtjhpjjbnojbikaaGreatM5
import Derived.KernelRfl
import Derived.Test.YtjhpjjbnojbikaaGreatRows
import Derived.WalkKit
import Derived.ProofKit
import Derived.OpenShut
import Derived.Below
import Derived.LaidLaws
import Derived.RowKit
open List renaming cons_append→apC,length_append→apv,length_cons→apw,length_drop→apW,length_nil→apy,length_take→apL,mem_cons→apF,nil_append→apD,not_mem_nil→apU
open Nat renaming le_refl→apM
namespace Go.Proofs.Tryz
open Go.Proofs.YtjhpjjbnojbikaaGreat (dW fj eP fY fS kN)
open Go Go.RowKit Go.Sy
open Go.Eng hiding ae
set_option maxRecDepth 1000000
set_option linter.unusedVariables false
set_option maxHeartbeats 4000000
noncomputable def iH (l0:List Ke) (com0 g0 g1 g2 g3:Int) (l1:List Ke) (com1:Int) (l2:List Ke) (com2:Int) (l3:List Ke) (com3:Int) (L:List Fx) (a o cp:Nat) (now cnt:Int):T:=(n2 (n2 (n2 (n2 (n2 (n0 am) (bu 0) .leaf) (eX 23 4 24 25 3 26 27) (n2 (n0 am) am .leaf)) (nV L) (n2 (n2 (n0 am) (bj 36 4 2 37 l2.length com2 false 38) .leaf) am (n2 (n0 am) (bm true 43 4) .leaf))) AZ (n2 (n2 (n2 (n0 (aO l1)) (bm true 35 4) .leaf) (bj 28 4 0 29 l0.length com0 false 30) (n2 (n0 (aO l3)) (bu 0) .leaf)) (eX 13 4 14 15 1 16 17) (n2 (n2 (n0 (aO l2)) am .leaf) am (n0 (aO l0))))) (nW 4 a (L.length - a) o (some cp) now cnt) (n2 (n2 (n2 (n2 (n0 am) am .leaf) am (n2 (n0 am) (bj 40 4 3 41 l3.length com3 false 42) .leaf)) (eX 8 4 9 10 0 11 12) (n2 (n2 (n0 am) (bu 0) .leaf) (bm true 31 4) (n0 am))) (Bc false) (n2 (n2 (n2 (n0 (ca 0 0 0 0)) am .leaf) (bu 0) (n2 (n0 (ca 0 0 0 0)) am .leaf)) (eX 18 4 19 20 2 21 22) (n2 (n2 (n0 (ca 0 0 0 0)) (bm true 39 4) .leaf) (bj 32 4 1 33 l1.length com1 false 34) (n0 (ca g0 g1 g2 g3))))))
def VO:XF:=DB
theorem XQ:bN Tryz.prog 28 VO=true:=by kernel_rfl
structure nF where (l0:List Ke) (com0 g0 g1 g2 g3:Int) (l1:List Ke) (com1 b1 u c0 c1 c2:Int) (l2:List Ke) (com2 b2 u2 d2_0 d2_1 d2_2:Int) (l3:List Ke) (com3 b3 u3 d3_0 d3_1 d3_2:Int) (L:List Fx) (a o cp:Nat) (now cnt:Int)
abbrev OY:=eJ
def kw (p:nF) (r:OY):Prop:=∃h2 h3,Ap r.L r.a p.L p.a [(⟨1,2,3,2,p.c1,p.com1,0,0,(.slice none 0 0),[],(.slice none 0 0),[],h2,p.l1.drop p.c1.toNat,(.slice none 0 0),[]⟩:Fx),(⟨1,3,3,2,p.c2,p.com1,0,0,(.slice none 0 0),[],(.slice none 0 0),[],h3,p.l1.drop p.c2.toNat,(.slice none 0 0),[]⟩:Fx)]
noncomputable def Pw (p:nF):IE:=([.ptr 0 0,.int 0 (.ofNat 1)],(dv p.l0 p.com0 p.g0 p.g1 p.g2 p.g3 p.l1 p.com1 p.b1 p.u p.c0 p.c1 p.c2 p.l2 p.com2 p.b2 p.u2 p.d2_0 p.d2_1 p.d2_2 p.l3 p.com3 p.b3 p.u3 p.d3_0 p.d3_1 p.d3_2 p.L p.a p.o p.cp p.now p.cnt),50)
noncomputable def xE (p:nF) (K:KE) (r:OY):Bool:=K (.tup []) (dv p.l0 p.com0 p.g0 p.g1 p.g2 p.g3 p.l1 p.com1 p.b1 p.u p.c0 p.c1 p.c2 p.l2 p.com2 p.b2 p.u2 p.d2_0 p.d2_1 p.d2_2 p.l3 p.com3 p.b3 p.u3 p.d3_0 p.d3_1 p.d3_2 r.L r.a r.o r.cp (p.now+1) p.cnt) 50
noncomputable def Qr (p:nF) (K:KE):Bool:=ae fun r=>iP (kw p r) (xE p K r) true
def pd (p:nF):Prop:=Bs p.now p.L p.a∧p.l1.length≤400∧0≤p.com1∧p.com1≤400∧(0≤p.c1∧p.c1≤(p.l1.length:Int)∧(p.l1.length:Int)≤p.c1+16)∧(0≤p.c2∧p.c2≤(p.l1.length:Int)∧(p.l1.length:Int)≤p.c2+16)
theorem ER {p:nF} {K:KE} (hK:Qr p K=true) {r:OY} (h:kw p r):xE p K r=true:=ax h (aq hK r)
theorem aeW:Vf pd Qr 1 RU aJ VO Pw:=by
 intro p K hpre hK
 refine Eq.trans (b:=(mP (aI 0 (p.now+1)) (ay aae ze xi ⟨p.l1,p.com1,p.b1,p.u,p.c0,p.c1,p.c2,p.now+1⟩ fun p1 r1=>iP (((p.L.length - p.a:Nat):Int)<(400:Int)) (mE (.psub 3 33 p.a (p.L.length - p.a) p.o (some p.cp)) (mP (p.a+(p.L.length - p.a)=p.L.length) (aM fun m1:List Fx=>mP (bg (m1.map dA) (QT 1 2 2 p1.c1 p1.com1 [] r1.h2 r1.e2)) (mP (bQ 232 (p.L.length+m1.length)) (ae fun L1:List Fx=>ae fun d1:Nat=>ae fun o1:Nat=>ae fun u1:Nat=>iP (d1≤L1.length∧L1.length≤p.L.length+m1.length∧L1.drop d1=p.L.drop p.a++m1) (iP (((L1.length - d1:Nat):Int)<(400:Int)) (mE (.psub 64 33 d1 (L1.length - d1) o1 (some u1)) (mP (d1+(L1.length - d1)=L1.length) (aM fun m2:List Fx=>mP (bg (m2.map dA) (QT 1 3 2 p1.c2 p1.com1 [] r1.h3 r1.e3)) (mP (bQ 232 (L1.length+m2.length)) (ae fun L2:List Fx=>ae fun d2:Nat=>ae fun o2:Nat=>ae fun u2:Nat=>iP (d2≤L2.length∧L2.length≤L1.length+m2.length∧L2.drop d2=L1.drop d1++m2) (xE {p with l1:=p1.l1,com1:=p1.com1,b1:=p1.b1,u:=p1.u,c0:=p1.c0,c1:=p1.c1,c2:=p1.c2} K ⟨L2,d2,o2,u2⟩) true))))) (xE {p with l1:=p1.l1,com1:=p1.com1,b1:=p1.b1,u:=p1.u,c0:=p1.c0,c1:=p1.c1,c2:=p1.c2} K ⟨L1,d1,o1,u1⟩)) true))))) (xE {p with l1:=p1.l1,com1:=p1.com1,b1:=p1.b1,u:=p1.u,c0:=p1.c0,c1:=p1.c1,c2:=p1.c2} K ⟨p.L,p.a,p.o,p.cp⟩)))) (by kernel_rfl) ?_
 dsimp only[pd]at hpre
 obtain⟨⟨n0,n1,n2,n3,n4⟩,hx⟩:=hpre
 obtain⟨hx1,hx2,hx3,⟨u2,v2,w2⟩,⟨u3,v3,w3⟩⟩:=hx
 refine dc ?_
 refine aF (by(try dsimp only[ze]);repeat(first|assumption|omega|apply And.intro)) fun r1 hi1=> ?_
 dsimp only[xi]at hi1 ⊢
 have hv:=hi1
 apply iI<;>intro hc2
 refine aH (aX ?_)
 refine aR ([⟨1,2,3,2,p.c1,p.com1,0,0,(.slice none 0 0),[],(.slice none 0 0),[],r1.h2,r1.e2,(.slice none 0 0),[]⟩]:List Fx) ?_
 refine fv (eU ?_)
 refine ac fun L1=> ?_
 refine ac fun d1=> ?_
 refine ac fun o1=> ?_
 refine ac fun u1=> ?_
 refine iJ fun hi3=> ?_
 have apL1:=fw hi3
 have lnL1:=apL1.len
 apply iI<;>intro hc4
 refine aH (aX ?_)
 refine aR ([⟨1,3,3,2,p.c2,p.com1,0,0,(.slice none 0 0),[],(.slice none 0 0),[],r1.h3,r1.e3,(.slice none 0 0),[]⟩]:List Fx) ?_
 refine fv (eU ?_)
 refine ac fun L2=> ?_
 refine ac fun d2=> ?_
 refine ac fun o2=> ?_
 refine ac fun u2=> ?_
 refine iJ fun hi5=> ?_
 have apL2:=fw hi5
 have lnL2:=apL2.len
 exact ER (p:=p) hK (by dsimp only[kw]<;>(first|(exfalso;omega)|(exfalso;simp only[apw,apy]at*;omega)|(have ap:=(apL1).trans apL2;(try simp only[apC,apD]at ap);(rw[hv.1,hv.2]at ap;exact⟨_,_,ap⟩))))
 exact ER (p:=p) hK (by dsimp only[kw]<;>(first|(exfalso;omega)|(exfalso;simp only[apw,apy]at*;omega)|(have ap:=apL1;(try simp only[apC,apD]at ap);(rw[hv.1,hv.2]at ap;exact⟨_,_,ap⟩))))
 exact ER (p:=p) hK (by dsimp only[kw]<;>(first|(exfalso;omega)|(exfalso;simp only[apw,apy]at*;omega)|(have ap:=Ap.nil (by omega);(try simp only[apC,apD]at ap);(rw[hv.1,hv.2]at ap;exact⟨_,_,ap⟩))))
noncomputable def nc_zh4_2:EE 28 1:=bA (fun us M=>Nat.beq (zC M 5 1) 2) (nE XQ aeW) nc_zt4
noncomputable def Rj:NN:=bB RU nc_zh4_2.2 [(0,4),(1,1)] (fun us=>Nat.beq (gi us 1) 1)
def qR:XF:=DA
theorem oB:bN Tryz.prog 29 qR=true:=by kernel_rfl
structure iQ where (l0:List Ke) (com0 g0 g1 g2 g3:Int) (l1:List Ke) (com1 b1 u c0 c1 c2:Int) (l2:List Ke) (com2 b2 u2 d2_0 d2_1 d2_2:Int) (l3:List Ke) (com3 b3 u3 d3_0 d3_1 d3_2:Int) (L:List Fx) (a o cp:Nat) (now cnt x_n x_c:Int) (x_vh:Value) (x_vl:List Int) (x_mh:Value) (x_ml:List Int) (x_h:Value) (x_l:List Ke) (x_th:Value) (x_tl:List Ke)
abbrev FA:=pq
def io (p:iQ) (r:FA):Prop:=r.l2=p.l2++p.x_l∧r.com2=max p.com2 (min p.x_c (r.l2.length:Int))∧Ap r.L r.a p.L p.a [(⟨2,1,4,2,(r.l2.length:Int),0,0,0,(.slice none 0 0),[],(.slice none 0 0),[],(.slice none 0 0),[],(.slice none 0 0),[]⟩:Fx)]
noncomputable def FU (p:iQ):IE:=([.ptr 0 0,hU 1 2 3 2 p.x_n p.x_c 0 [] 0 p.x_vh p.x_vl p.x_mh p.x_ml p.x_h p.x_l p.x_th p.x_tl],(dv p.l0 p.com0 p.g0 p.g1 p.g2 p.g3 p.l1 p.com1 p.b1 p.u p.c0 p.c1 p.c2 p.l2 p.com2 p.b2 p.u2 p.d2_0 p.d2_1 p.d2_2 p.l3 p.com3 p.b3 p.u3 p.d3_0 p.d3_1 p.d3_2 p.L p.a p.o p.cp p.now p.cnt),50)
noncomputable def uC (p:iQ) (K:KE) (r:FA):Bool:=K (.tup []) (dv p.l0 p.com0 p.g0 p.g1 p.g2 p.g3 p.l1 p.com1 p.b1 p.u p.c0 p.c1 p.c2 r.l2 r.com2 p.b2 p.u2 p.d2_0 p.d2_1 p.d2_2 p.l3 p.com3 p.b3 p.u3 p.d3_0 p.d3_1 p.d3_2 r.L r.a r.o r.cp p.now p.cnt) 50
noncomputable def Ij (p:iQ) (K:KE):Bool:=ae fun r=>iP (io p r) (uC p K r) true
def kZ (p:iQ):Prop:=Bs p.now p.L p.a∧p.x_vl=[]∧p.x_ml=[]∧p.x_tl=[]∧p.x_n=(p.l2.length:Int)∧bF p.x_l∧p.l2.length+p.x_l.length≤400∧p.b2≤(p.l2.length:Int)∧0≤p.x_c∧p.x_c≤400∧0≤p.b2
theorem JY {p:iQ} {K:KE} (hK:Ij p K=true) {r:FA} (h:io p r):uC p K r=true:=ax h (aq hK r)
theorem aaz:Vf kZ Ij 1 Rj aJ qR FU:=by
 intro p K hpre hK
 refine Eq.trans (b:=(mE (.int 0 p.now) (aa (qL [qI 3 p.x_n,qI 3 p.x_c,qY ((.imm p.x_vh 2 Int p.x_vl aG)),qY ((.imm p.x_mh 2 Int p.x_ml aG)),qY ((.imm p.x_h 18 Ke p.x_l au)),qY ((.imm p.x_th 18 Ke p.x_tl au))]) (ay Ts sT qy ⟨p.l2,p.com2,p.b2,p.u2,p.d2_0,p.d2_1,p.d2_2,p.x_n,p.x_c,p.x_vh,p.x_vl,p.x_mh,p.x_ml,p.x_h,p.x_l,p.x_th,p.x_tl,p.now⟩ fun p1 r1=>iP (((p.L.length - p.a:Nat):Int)<(400:Int)) (mE (.psub 3 33 p.a (p.L.length - p.a) p.o (some p.cp)) (mP (p.a+(p.L.length - p.a)=p.L.length) (aM fun m1:List Fx=>mP (bg (m1.map dA) (QS 2 1 2 (r1.l2.length:Int) [])) (mP (bQ 232 (p.L.length+m1.length)) (ae fun L1:List Fx=>ae fun d1:Nat=>ae fun o1:Nat=>ae fun u1:Nat=>iP (d1≤L1.length∧L1.length≤p.L.length+m1.length∧L1.drop d1=p.L.drop p.a++m1) (uC {p with b2:=p1.b2,u2:=p1.u2,d2_0:=p1.d2_0,d2_1:=p1.d2_1,d2_2:=p1.d2_2} K ⟨r1.l2,r1.com2,L1,d1,o1,u1⟩) true))))) (uC {p with b2:=p1.b2,u2:=p1.u2,d2_0:=p1.d2_0,d2_1:=p1.d2_1,d2_2:=p1.d2_2} K ⟨r1.l2,r1.com2,p.L,p.a,p.o,p.cp⟩))))) (by kernel_rfl) ?_
 dsimp only[kZ]at hpre
 obtain⟨⟨n0,n1,n2,n3,n4⟩,hx⟩:=hpre
 obtain⟨hx1,hx2,hx3,hn,hks,hlen,hb,hq1,hq2,hb0⟩:=hx
 refine aH ?_
 refine cq ?_
 refine aF (by(try dsimp only[sT]);repeat(first|assumption|omega|apply And.intro)) fun r1 hi1=> ?_
 dsimp only[qy]at hi1 ⊢
 have hv:=hi1
 apply iI<;>intro hc2
 refine aH (aX ?_)
 refine aR ([⟨2,1,4,2,(r1.l2.length:Int),0,0,0,(.slice none 0 0),[],(.slice none 0 0),[],(.slice none 0 0),[],(.slice none 0 0),[]⟩]:List Fx) ?_
 refine fv (eU ?_)
 refine ac fun L1=> ?_
 refine ac fun d1=> ?_
 refine ac fun o1=> ?_
 refine ac fun u1=> ?_
 refine iJ fun hi3=> ?_
 have apL1:=fw hi3
 have lnL1:=apL1.len
 exact JY (p:=p) hK (by dsimp only[io]<;>(first|(exfalso;omega)|(exfalso;simp only[apw,apy]at*;omega)|(have ap:=apL1;(try simp only[apC,apD]at ap);exact⟨hv.1,hv.2,ap⟩)))
 exact JY (p:=p) hK (by dsimp only[io]<;>(first|(exfalso;omega)|(exfalso;simp only[apw,apy]at*;omega)|(have ap:=Ap.nil (by omega);(try simp only[apC,apD]at ap);exact⟨hv.1,hv.2,ap⟩)))
noncomputable def IZ:NN:=bB Rj (nE oB aaz) [(0,4),(1,15)] (fun us=>aA (aA (Nat.beq (aC us 1 0) 1) (Nat.beq (aC us 1 1) 2)) (Nat.beq (aC us 1 2) 3))
abbrev pA:=iQ
abbrev Fv:=zV
def kr (p:pA) (r:Fv):Prop:=r.c0=(p.l1.length:Int)∧r.c1=max p.c1 p.x_n∧ib 2 p.com1 r.com1 [r.c0,r.c1,p.c2]∧Ap r.L r.a p.L p.a []
noncomputable def FR (p:pA):IE:=([.ptr 0 0,hU 2 1 4 2 p.x_n p.x_c 0 [] 0 p.x_vh p.x_vl p.x_mh p.x_ml p.x_h p.x_l p.x_th p.x_tl],(dv p.l0 p.com0 p.g0 p.g1 p.g2 p.g3 p.l1 p.com1 p.b1 p.u p.c0 p.c1 p.c2 p.l2 p.com2 p.b2 p.u2 p.d2_0 p.d2_1 p.d2_2 p.l3 p.com3 p.b3 p.u3 p.d3_0 p.d3_1 p.d3_2 p.L p.a p.o p.cp p.now p.cnt),50)
noncomputable def Cj (p:pA) (K:KE) (r:Fv):Bool:=K (.tup []) (dv p.l0 p.com0 p.g0 p.g1 p.g2 p.g3 p.l1 r.com1 p.b1 p.u r.c0 r.c1 p.c2 p.l2 p.com2 p.b2 p.u2 p.d2_0 p.d2_1 p.d2_2 p.l3 p.com3 p.b3 p.u3 p.d3_0 p.d3_1 p.d3_2 r.L r.a r.o r.cp p.now p.cnt) 50
noncomputable def Ia (p:pA) (K:KE):Bool:=ae fun r=>iP (kr p r) (Cj p K r) true
def kW (p:pA):Prop:=Bs p.now p.L p.a∧p.x_vl=[]∧p.x_ml=[]∧p.x_l=[]∧p.x_tl=[]∧0≤p.x_n∧p.x_n≤(p.l1.length:Int)∧p.l1.length≤400∧p.x_c=0∧0≤p.b1∧p.b1≤400
theorem Yf {p:pA} {K:KE} (hK:Ia p K=true) {r:Fv} (h:kr p r):Cj p K r=true:=ax h (aq hK r)
theorem aar:Vf kW Ia 1 IZ aJ qR FR:=by
 intro p K hpre hK
 refine Eq.trans (b:=(mE (.int 0 p.now) (aa (qL [qI 3 p.x_n,qI 3 p.x_c,qY ((.imm p.x_vh 2 Int p.x_vl aG)),qY ((.imm p.x_mh 2 Int p.x_ml aG)),qY ((.imm p.x_h 18 Ke p.x_l au)),qY ((.imm p.x_th 18 Ke p.x_tl au))]) (ay SZ sG mY ⟨p.l1,p.com1,p.b1,p.u,p.c0,p.c1,p.c2,p.x_n,p.x_c,p.x_vh,p.x_vl,p.x_mh,p.x_ml,p.x_h,p.x_l,p.x_th,p.x_tl,p.now⟩ fun p1 r1=>Cj {p with l1:=p1.l1,b1:=p1.b1,u:=p1.u,c2:=p1.c2} K ⟨r1.com1,r1.c0,r1.c1,p.L,p.a,p.o,p.cp⟩)))) (by kernel_rfl) ?_
 dsimp only[kW]at hpre
 obtain⟨⟨n0,n1,n2,n3,n4⟩,hx⟩:=hpre
 obtain⟨hx1,hx2,hx3,hx4,hx5,hx6,hx7,hx8,hx9,hx10⟩:=hx
 refine aH ?_
 refine cq ?_
 refine aF (by(try dsimp only[sG]);repeat(first|assumption|omega|apply And.intro)) fun r1 hi1=> ?_
 dsimp only[mY]at hi1 ⊢
 have hv:=hi1
 exact Yf (p:=p) hK (by dsimp only[kr]<;>(first|(exfalso;omega)|(exfalso;simp only[apw,apy]at*;omega)|(have ap:=Ap.nil (by omega);(try simp only[apC,apD]at ap);exact⟨hv.1,hv.2.1,hv.2.2,ap⟩)))
noncomputable def IU:NN:=bB IZ (nE oB aar) [(0,4),(1,15)] (fun us=>aA (aA (Nat.beq (aC us 1 0) 2) (Nat.beq (aC us 1 1) 1)) (Nat.beq (aC us 1 2) 4))
abbrev pH:=iQ
structure zY where (l3:List Ke) (com3:Int) (L:List Fx) (a o cp:Nat)
def im (p:pH) (r:zY):Prop:=r.l3=p.l3++p.x_l∧r.com3=max p.com3 (min p.x_c (r.l3.length:Int))∧Ap r.L r.a p.L p.a [(⟨3,1,4,2,(r.l3.length:Int),0,0,0,(.slice none 0 0),[],(.slice none 0 0),[],(.slice none 0 0),[],(.slice none 0 0),[]⟩:Fx)]
noncomputable def FT (p:pH):IE:=([.ptr 0 0,hU 1 3 3 2 p.x_n p.x_c 0 [] 0 p.x_vh p.x_vl p.x_mh p.x_ml p.x_h p.x_l p.x_th p.x_tl],(dv p.l0 p.com0 p.g0 p.g1 p.g2 p.g3 p.l1 p.com1 p.b1 p.u p.c0 p.c1 p.c2 p.l2 p.com2 p.b2 p.u2 p.d2_0 p.d2_1 p.d2_2 p.l3 p.com3 p.b3 p.u3 p.d3_0 p.d3_1 p.d3_2 p.L p.a p.o p.cp p.now p.cnt),50)
noncomputable def uB (p:pH) (K:KE) (r:zY):Bool:=K (.tup []) (dv p.l0 p.com0 p.g0 p.g1 p.g2 p.g3 p.l1 p.com1 p.b1 p.u p.c0 p.c1 p.c2 p.l2 p.com2 p.b2 p.u2 p.d2_0 p.d2_1 p.d2_2 r.l3 r.com3 p.b3 p.u3 p.d3_0 p.d3_1 p.d3_2 r.L r.a r.o r.cp p.now p.cnt) 50
noncomputable def Ii (p:pH) (K:KE):Bool:=ae fun r=>iP (im p r) (uB p K r) true
def kY (p:pH):Prop:=Bs p.now p.L p.a∧p.x_vl=[]∧p.x_ml=[]∧p.x_tl=[]∧p.x_n=(p.l3.length:Int)∧bF p.x_l∧p.l3.length+p.x_l.length≤400∧p.b3≤(p.l3.length:Int)∧0≤p.x_c∧p.x_c≤400∧0≤p.b3
theorem JX {p:pH} {K:KE} (hK:Ii p K=true) {r:zY} (h:im p r):uB p K r=true:=ax h (aq hK r)
theorem aay:Vf kY Ii 1 IU aJ qR FT:=by
 intro p K hpre hK
 refine Eq.trans (b:=(mE (.int 0 p.now) (aa (qL [qI 3 p.x_n,qI 3 p.x_c,qY ((.imm p.x_vh 2 Int p.x_vl aG)),qY ((.imm p.x_mh 2 Int p.x_ml aG)),qY ((.imm p.x_h 18 Ke p.x_l au)),qY ((.imm p.x_th 18 Ke p.x_tl au))]) (ay Tq sS qx ⟨p.l3,p.com3,p.b3,p.u3,p.d3_0,p.d3_1,p.d3_2,p.x_n,p.x_c,p.x_vh,p.x_vl,p.x_mh,p.x_ml,p.x_h,p.x_l,p.x_th,p.x_tl,p.now⟩ fun p1 r1=>iP (((p.L.length - p.a:Nat):Int)<(400:Int)) (mE (.psub 3 33 p.a (p.L.length - p.a) p.o (some p.cp)) (mP (p.a+(p.L.length - p.a)=p.L.length) (aM fun m1:List Fx=>mP (bg (m1.map dA) (QS 3 1 2 (r1.l3.length:Int) [])) (mP (bQ 232 (p.L.length+m1.length)) (ae fun L1:List Fx=>ae fun d1:Nat=>ae fun o1:Nat=>ae fun u1:Nat=>iP (d1≤L1.length∧L1.length≤p.L.length+m1.length∧L1.drop d1=p.L.drop p.a++m1) (uB {p with b3:=p1.b3,u3:=p1.u3,d3_0:=p1.d3_0,d3_1:=p1.d3_1,d3_2:=p1.d3_2} K ⟨r1.l3,r1.com3,L1,d1,o1,u1⟩) true))))) (uB {p with b3:=p1.b3,u3:=p1.u3,d3_0:=p1.d3_0,d3_1:=p1.d3_1,d3_2:=p1.d3_2} K ⟨r1.l3,r1.com3,p.L,p.a,p.o,p.cp⟩))))) (by kernel_rfl) ?_
 dsimp only[kY]at hpre
 obtain⟨⟨n0,n1,n2,n3,n4⟩,hx⟩:=hpre
 obtain⟨hx1,hx2,hx3,hn,hks,hlen,hb,hq1,hq2,hb0⟩:=hx
 refine aH ?_
 refine cq ?_
 refine aF (by(try dsimp only[sS]);repeat(first|assumption|omega|apply And.intro)) fun r1 hi1=> ?_
 dsimp only[qx]at hi1 ⊢
 have hv:=hi1
 apply iI<;>intro hc2
 refine aH (aX ?_)
 refine aR ([⟨3,1,4,2,(r1.l3.length:Int),0,0,0,(.slice none 0 0),[],(.slice none 0 0),[],(.slice none 0 0),[],(.slice none 0 0),[]⟩]:List Fx) ?_
 refine fv (eU ?_)
 refine ac fun L1=> ?_
 refine ac fun d1=> ?_
 refine ac fun o1=> ?_
 refine ac fun u1=> ?_
 refine iJ fun hi3=> ?_
 have apL1:=fw hi3
 have lnL1:=apL1.len
 exact JX (p:=p) hK (by dsimp only[im]<;>(first|(exfalso;omega)|(exfalso;simp only[apw,apy]at*;omega)|(have ap:=apL1;(try simp only[apC,apD]at ap);exact⟨hv.1,hv.2,ap⟩)))
 exact JX (p:=p) hK (by dsimp only[im]<;>(first|(exfalso;omega)|(exfalso;simp only[apw,apy]at*;omega)|(have ap:=Ap.nil (by omega);(try simp only[apC,apD]at ap);exact⟨hv.1,hv.2,ap⟩)))
noncomputable def IY:NN:=bB IU (nE oB aay) [(0,4),(1,15)] (fun us=>aA (aA (Nat.beq (aC us 1 0) 1) (Nat.beq (aC us 1 1) 3)) (Nat.beq (aC us 1 2) 3))
abbrev py:=iQ
structure Fu where (com1 c0 c2:Int) (L:List Fx) (a o cp:Nat)
def kq (p:py) (r:Fu):Prop:=r.c0=(p.l1.length:Int)∧r.c2=max p.c2 p.x_n∧ib 2 p.com1 r.com1 [r.c0,p.c1,r.c2]∧Ap r.L r.a p.L p.a []
noncomputable def FQ (p:py):IE:=([.ptr 0 0,hU 3 1 4 2 p.x_n p.x_c 0 [] 0 p.x_vh p.x_vl p.x_mh p.x_ml p.x_h p.x_l p.x_th p.x_tl],(dv p.l0 p.com0 p.g0 p.g1 p.g2 p.g3 p.l1 p.com1 p.b1 p.u p.c0 p.c1 p.c2 p.l2 p.com2 p.b2 p.u2 p.d2_0 p.d2_1 p.d2_2 p.l3 p.com3 p.b3 p.u3 p.d3_0 p.d3_1 p.d3_2 p.L p.a p.o p.cp p.now p.cnt),50)
noncomputable def Ci (p:py) (K:KE) (r:Fu):Bool:=K (.tup []) (dv p.l0 p.com0 p.g0 p.g1 p.g2 p.g3 p.l1 r.com1 p.b1 p.u r.c0 p.c1 r.c2 p.l2 p.com2 p.b2 p.u2 p.d2_0 p.d2_1 p.d2_2 p.l3 p.com3 p.b3 p.u3 p.d3_0 p.d3_1 p.d3_2 r.L r.a r.o r.cp p.now p.cnt) 50
noncomputable def HZ (p:py) (K:KE):Bool:=ae fun r=>iP (kq p r) (Ci p K r) true
def kV (p:py):Prop:=Bs p.now p.L p.a∧p.x_vl=[]∧p.x_ml=[]∧p.x_l=[]∧p.x_tl=[]∧0≤p.x_n∧p.x_n≤(p.l1.length:Int)∧p.l1.length≤400∧p.x_c=0∧0≤p.b1∧p.b1≤400
theorem Ye {p:py} {K:KE} (hK:HZ p K=true) {r:Fu} (h:kq p r):Ci p K r=true:=ax h (aq hK r)
theorem aaq:Vf kV HZ 1 IY aJ qR FQ:=by
 intro p K hpre hK
 refine Eq.trans (b:=(mE (.int 0 p.now) (aa (qL [qI 3 p.x_n,qI 3 p.x_c,qY ((.imm p.x_vh 2 Int p.x_vl aG)),qY ((.imm p.x_mh 2 Int p.x_ml aG)),qY ((.imm p.x_h 18 Ke p.x_l au)),qY ((.imm p.x_th 18 Ke p.x_tl au))]) (ay SX sF mX ⟨p.l1,p.com1,p.b1,p.u,p.c0,p.c1,p.c2,p.x_n,p.x_c,p.x_vh,p.x_vl,p.x_mh,p.x_ml,p.x_h,p.x_l,p.x_th,p.x_tl,p.now⟩ fun p1 r1=>Ci {p with l1:=p1.l1,b1:=p1.b1,u:=p1.u,c1:=p1.c1} K ⟨r1.com1,r1.c0,r1.c2,p.L,p.a,p.o,p.cp⟩)))) (by kernel_rfl) ?_
 dsimp only[kV]at hpre
 obtain⟨⟨n0,n1,n2,n3,n4⟩,hx⟩:=hpre
 obtain⟨hx1,hx2,hx3,hx4,hx5,hx6,hx7,hx8,hx9,hx10⟩:=hx
 refine aH ?_
 refine cq ?_
 refine aF (by(try dsimp only[sF]);repeat(first|assumption|omega|apply And.intro)) fun r1 hi1=> ?_
 dsimp only[mX]at hi1 ⊢
 have hv:=hi1
 exact Ye (p:=p) hK (by dsimp only[kq]<;>(first|(exfalso;omega)|(exfalso;simp only[apw,apy]at*;omega)|(have ap:=Ap.nil (by omega);(try simp only[apC,apD]at ap);exact⟨hv.1,hv.2.1,hv.2.2,ap⟩)))
noncomputable def nat_zk4_2_3:NN:=bB IY (nE oB aaq) [(0,4),(1,15)] (fun us=>aA (aA (Nat.beq (aC us 1 0) 3) (Nat.beq (aC us 1 1) 1)) (Nat.beq (aC us 1 2) 4))
def CI:XC:=w_6 4 [1,1,2,3] [2,3,1,1] [3,3,4,4] [2,2,2,2] [0,0,0,0]
def VT:XF:=.mk 54 .none (.seq (g_ 1 [p_ 0 4 (.mv (i_ 0))]) (.block 2 (.pre [.can 1 [0,1,4],.up 4,.can 1 [0,1,4]] (.inv 0 CI))))
theorem XU:bN Tryz.prog 15 VT=true:=by kernel_rfl
structure eV where (l0:List Ke) (com0 g0 g1 g2 g3:Int) (l1:List Ke) (com1 b1 u c0 c1 c2:Int) (l2:List Ke) (com2 b2 u2 d2_0 d2_1 d2_2:Int) (l3:List Ke) (com3 b3 u3 d3_0 d3_1 d3_2:Int) (L:List Fx) (a o cp:Nat) (now cnt t:Int)
structure tU where (com1 c0 c1 c2:Int) (l2:List Ke) (com2:Int) (l3:List Ke) (com3:Int) (L:List Fx) (a o cp:Nat) (now:Int)
def ir (p:eV) (r:tU):Prop:=r.l2=p.l1∧r.l3=p.l1∧r.com1=(p.l1.length:Int)∧r.com2=(p.l1.length:Int)∧r.com3=(p.l1.length:Int)∧r.c1=(p.l1.length:Int)∧r.c2=(p.l1.length:Int)∧r.a=r.L.length∧(r.L.length:Int)≤p.L.length+16*(10 - p.t)∧0≤r.now∧r.now=p.now+4*(10 - p.t)
noncomputable def gO (p:eV):IL:=((.cons 4 (.sy (.int 0 p.t)) (.cons 1 (.int 0 (.ofNat 10)) (.cons 0 (.ptr 0 0) .nil))),(dv p.l0 p.com0 p.g0 p.g1 p.g2 p.g3 p.l1 p.com1 p.b1 p.u p.c0 p.c1 p.c2 p.l2 p.com2 p.b2 p.u2 p.d2_0 p.d2_1 p.d2_2 p.l3 p.com3 p.b3 p.u3 p.d3_0 p.d3_1 p.d3_2 p.L p.a p.o p.cp p.now p.cnt),50)
noncomputable def Cu (p:eV) (K:KC) (r:tU):Bool:=K 2 .nil (dv p.l0 p.com0 p.g0 p.g1 p.g2 p.g3 p.l1 r.com1 p.b1 p.u r.c0 r.c1 r.c2 r.l2 r.com2 p.b2 p.u2 p.d2_0 p.d2_1 p.d2_2 r.l3 r.com3 p.b3 p.u3 p.d3_0 p.d3_1 p.d3_2 r.L r.a r.o r.cp r.now p.cnt) 50
noncomputable def tb (p:eV) (K:KC):Bool:=ae fun r=>iP (ir p r) (Cu p K r) true
def iZ (p:eV):Prop:=(0≤p.t∧p.t≤10)∧(0≤p.now∧p.now+4*(10 - p.t)≤999000)∧(p.a=p.L.length∧(p.L.length:Int)+16*(10 - p.t)≤900000)∧(bF p.l1∧p.l1.length≤400∧0≤p.com1∧p.com1≤(p.l1.length:Int))∧(p.c1=(p.l2.length:Int)∧p.l2++p.l1.drop p.l2.length=p.l1∧p.l1.length≤p.l2.length+16∧0≤p.com2∧p.com2≤(p.l2.length:Int))∧(p.c2=(p.l3.length:Int)∧p.l3++p.l1.drop p.l3.length=p.l1∧p.l1.length≤p.l3.length+16∧0≤p.com3∧p.com3≤(p.l3.length:Int))∧(0≤p.b1∧p.b1≤(p.l1.length:Int))∧(0≤p.b2∧p.b2≤(p.l2.length:Int))∧(0≤p.b3∧p.b3≤(p.l3.length:Int))∧((1≤p.t→p.com1=(p.l1.length:Int)∧p.l2.length=p.l1.length∧p.l3.length=p.l1.length))∧((2≤p.t→p.com2=(p.l1.length:Int)∧p.com3=(p.l1.length:Int)))
theorem Yo {p:eV} {K:KC} (hK:tb p K=true) {r:tU} (h:ir p r):Cu p K r=true:=ax h (aq hK r)
noncomputable def uk (p:eV) (K:KC):Bool:=aa (aN (iZ p)) (tb p K)
noncomputable def BY:fx:=fun j S M nx K=>(Bool.rec (false) (aM fun p:eV=>aa (aN ((S,M,nx)=gO p)) (uk p K)) (Nat.beq j 0))
def gG (p:eV):Nat:=(10 - p.t).toNat
noncomputable def Nq (s:IL) (n:Nat) (K:KC):Bool:=aM fun q=>mP (s=gO q∧gG q<n) (uk q K)
theorem aci {p q:eV} {K:KC} (hm:gG q<gG p:=by dsimp only[gG]<;>(omega)) (hp:iZ q:=by dsimp only[iZ]<;>(repeat(first|with_reducible assumption|apply And.intro|(apply dS;with_reducible assumption)|(apply bD<;>with_reducible assumption)|exact y_1 (by assumption)|exact y_2 (by assumption)|exact y_3 (by assumption)|intro _|omega))) (hK:tb q K=true:=by exact(by refine ac fun r=>iI (fun hz=> ?_) (fun _=>rfl);dsimp only[ir]at hz;obtain⟨z0,z1,z2,z3,z4,z5,z6,z7,zL,zn0,zn⟩:=hz;exact ax (show ir p r from(by dsimp only[ir];exact⟨z0,z1,z2,z3,z4,z5,z6,z7,by omega,zn0,by omega⟩)) (aq hK r))):Nq (gO q) (gG p) K=true:=aR q (bC ⟨rfl,hm⟩ (bC hp hK))
theorem abc (p:eV) (K:KC) (hpre:iZ p) (hK:tb p K=true):(dj (gN nat_zk4_2_3.1) BY 600 CI (gO p).1 (gO p).2.1 (gO p).2.2 (fun e S M nx=>Nat.casesOn e (aM fun q:eV=>aa (aN ((S,M,nx)=gO q∧gG q<gG p)) (uk q K)) (fun e2=>K (Nat.succ e2) S M nx)))=true:=by
 refine Eq.trans (b:=(iP (p.t<(10:Int)) (mP (aI 0 (p.now+1)) (ay Pw pd kw ⟨p.l0,p.com0,p.g0,p.g1,p.g2,p.g3,p.l1,p.com1,p.b1,p.u,p.c0,p.c1,p.c2,p.l2,p.com2,p.b2,p.u2,p.d2_0,p.d2_1,p.d2_2,p.l3,p.com3,p.b3,p.u3,p.d3_0,p.d3_1,p.d3_2,p.L,p.a,p.o,p.cp,p.now+1,p.cnt⟩ fun p1 r1=>mP (aI 0 ((p1.now+1)+1)) (aL Gf ln ⟨p1.l2,p1.com2,p1.b2,p1.u2,p1.d2_0,p1.d2_1,p1.d2_2,(p1.now+1)+1⟩ fun p2=>mP (aI 0 (((p1.now+1)+1)+1)) (aL Ge lm ⟨p1.l3,p1.com3,p1.b3,p1.u3,p1.d3_0,p1.d3_1,p1.d3_2,((p1.now+1)+1)+1⟩ fun p3=>rd r1.L r1.a (r1.L.length - r1.a) fun x1=>fR x1 1 2 3 2 0 0 (mL (r1.L.length - r1.a) (ay FU kZ io ⟨p1.l0,p1.com0,p1.g0,p1.g1,p1.g2,p1.g3,p1.l1,p1.com1,p1.b1,p1.u,p1.c0,p1.c1,p1.c2,p2.l2,p2.com2,p2.b2,p2.u2,p2.d2_0,p2.d2_1,p2.d2_2,p3.l3,p3.com3,p3.b3,p3.u3,p3.d3_0,p3.d3_1,p3.d3_2,r1.L,r1.a+1,(if r1.cp=r1.a then r1.o else r1.a*33),r1.cp,((p1.now+1)+1)+1,p1.cnt,x1.n,x1.c,x1.vh,x1.vl,x1.mh,x1.ml,x1.h,x1.l,x1.th,x1.tl⟩ fun p4 r2=>rd r2.L r2.a (r2.L.length - r2.a) fun x2=>fR x2 1 3 3 2 0 0 (mL (r2.L.length - r2.a) (ay FT kY im ⟨p4.l0,p4.com0,p4.g0,p4.g1,p4.g2,p4.g3,p4.l1,p4.com1,p4.b1,p4.u,p4.c0,p4.c1,p4.c2,r2.l2,r2.com2,p4.b2,p4.u2,p4.d2_0,p4.d2_1,p4.d2_2,p4.l3,p4.com3,p4.b3,p4.u3,p4.d3_0,p4.d3_1,p4.d3_2,r2.L,r2.a+1,(if r2.cp=r2.a then r2.o else r2.a*33),r2.cp,p4.now,p4.cnt,x2.n,x2.c,x2.vh,x2.vl,x2.mh,x2.ml,x2.h,x2.l,x2.th,x2.tl⟩ fun p5 r3=>rd r3.L r3.a (r3.L.length - r3.a) fun x3=>fR x3 2 1 4 2 0 0 (mL (r3.L.length - r3.a) (ay FR kW kr ⟨p5.l0,p5.com0,p5.g0,p5.g1,p5.g2,p5.g3,p5.l1,p5.com1,p5.b1,p5.u,p5.c0,p5.c1,p5.c2,p5.l2,p5.com2,p5.b2,p5.u2,p5.d2_0,p5.d2_1,p5.d2_2,r3.l3,r3.com3,p5.b3,p5.u3,p5.d3_0,p5.d3_1,p5.d3_2,r3.L,r3.a+1,(if r3.cp=r3.a then r3.o else r3.a*33),r3.cp,p5.now,p5.cnt,x3.n,x3.c,x3.vh,x3.vl,x3.mh,x3.ml,x3.h,x3.l,x3.th,x3.tl⟩ fun p6 r4=>rd r4.L r4.a (r4.L.length - r4.a) fun x4=>fR x4 3 1 4 2 0 0 (mL (r4.L.length - r4.a) (ay FQ kV kq ⟨p6.l0,p6.com0,p6.g0,p6.g1,p6.g2,p6.g3,p6.l1,r4.com1,p6.b1,p6.u,r4.c0,r4.c1,p6.c2,p6.l2,p6.com2,p6.b2,p6.u2,p6.d2_0,p6.d2_1,p6.d2_2,p6.l3,p6.com3,p6.b3,p6.u3,p6.d3_0,p6.d3_1,p6.d3_2,r4.L,r4.a+1,(if r4.cp=r4.a then r4.o else r4.a*33),r4.cp,p6.now,p6.cnt,x4.n,x4.c,x4.vh,x4.vl,x4.mh,x4.ml,x4.h,x4.l,x4.th,x4.tl⟩ fun p7 r5=>mP (¬((0:Int)<((r5.L.length - r5.a:Nat):Int))) (mP (aI 0 (p.t+1)) (Nq (gO ⟨p7.l0,p7.com0,p7.g0,p7.g1,p7.g2,p7.g3,p7.l1,r5.com1,p7.b1,p7.u,r5.c0,p7.c1,r5.c2,p7.l2,p7.com2,p7.b2,p7.u2,p7.d2_0,p7.d2_1,p7.d2_2,p7.l3,p7.com3,p7.b3,p7.u3,p7.d3_0,p7.d3_1,p7.d3_2,r5.L,r5.a,r5.o,r5.cp,p7.now,p7.cnt,p.t+1⟩) (gG p) K)))))))))))))) (Cu p K ⟨p.com1,p.c0,p.c1,p.c2,p.l2,p.com2,p.l3,p.com3,p.L,p.a,p.o,p.cp,p.now⟩))) (by kernel_rfl) ?_
 dsimp only[iZ]at hpre
 obtain⟨⟨i0_0,i0_1⟩,⟨i1_0,i1_1⟩,⟨i2_0,i2_1⟩,⟨i3_0,i3_1,i3_2,i3_3⟩,⟨i4_0,i4_1,i4_2,i4_3,i4_4⟩,⟨i5_0,i5_1,i5_2,i5_3,i5_4⟩,⟨i6_0,i6_1⟩,⟨i7_0,i7_1⟩,⟨i8_0,i8_1⟩,ip1,ip2⟩:=hpre
 have pl2:=jz i4_1
 have pl3:=jz i5_1
 have dq:p.L.drop p.a=[]:=List.drop_eq_nil_of_le (by omega)
 have ld:=congrArg List.length dq
 have lz:=apM p.L.length
 have la:=apM p.a
 apply iI<;>intro hc1
 refine dc ?_
 refine aF (by(try dsimp only[pd]);repeat(first|with_reducible assumption|apply And.intro|(apply dM<;>with_reducible assumption)|(apply bD<;>with_reducible assumption)|omega)) fun r1 hi2=> ?_
 dsimp only[kw]at hi2 ⊢
 obtain⟨_,_,aphi2⟩:=hi2
 replace dq:=dP dq aphi2 lz
 clear aphi2 la lz ld
 obtain⟨dq,la,lz,ld⟩:=dq
 (try simp only[apC,apD,List.append_nil,apw,apy]at dq ld lz)
 refine dc ?_
 refine aV (by(try dsimp only[ln]);repeat(first|assumption|omega|apply And.intro)) ?_
 dsimp only
 refine dc ?_
 refine aV (by(try dsimp only[lm]);repeat(first|assumption|omega|apply And.intro)) ?_
 dsimp only
 refine cx (by omega) (by omega) fun x1 hi3=> ?_
 (try clear lx lc lq nl nt f_n f_vl f_ml f_tl)
 replace dq:=dl dq hi3
 clear hi3 ld
 obtain⟨f6,f_n,lc,f_vl,f_ml,lx,f_tl,dq,lq,ld,nl,nt⟩:=dq
 (try simp only[apW,apw,apy]at ld nl nt)
 refine cy f6 ?_
 clear f6
 refine cz ?_
 refine aF (by(try dsimp only[kZ]);repeat(first|with_reducible assumption|apply And.intro|(apply dM<;>with_reducible assumption)|(apply bD<;>with_reducible assumption)|omega)) fun r2 hi4=> ?_
 dsimp only[io]at hi4 ⊢
 obtain⟨ea,ec,ap⟩:=hi4
 replace dq:=dP dq ap lz
 clear ap la lz ld
 obtain⟨dq,la,lz,ld⟩:=dq
 (try simp only[apC,apD,List.append_nil,apw,apy]at dq ld lz)
 have ew_2:=wx ea lx i4_0 i4_1
 have en_2:=congrArg List.length ew_2
 clear ea
 have eo:=xy ec lc (by rw[en_2]) i3_3 (by omega:p.com2≤(p.l1.length:Int))
 clear ec
 obtain⟨u_2,v_2,Qb⟩:=Dz eo en_2 i4_3
 have y_2:=Dy ip1 eo
 clear eo
 (try clear ip2)
 clear i4_2 i4_3 i4_4
 refine cx (by omega) (by omega) fun x2 hi5=> ?_
 (try clear lx lc lq nl nt f_n f_vl f_ml f_tl)
 replace dq:=dl dq hi5
 clear hi5 ld
 obtain⟨f6,f_n,lc,f_vl,f_ml,lx,f_tl,dq,lq,ld,nl,nt⟩:=dq
 (try simp only[apW,apw,apy]at ld nl nt)
 refine cy f6 ?_
 clear f6
 refine cz ?_
 refine aF (by(try dsimp only[kY]);repeat(first|with_reducible assumption|apply And.intro|(apply dM<;>with_reducible assumption)|(apply bD<;>with_reducible assumption)|omega)) fun r3 hi6=> ?_
 dsimp only[im]at hi6 ⊢
 obtain⟨ea,ec,ap⟩:=hi6
 replace dq:=dP dq ap lz
 clear ap la lz ld
 obtain⟨dq,la,lz,ld⟩:=dq
 (try simp only[apC,apD,List.append_nil,apw,apy]at dq ld lz)
 have ew_3:=wx ea lx i5_0 i5_1
 have en_3:=congrArg List.length ew_3
 clear ea
 have eo:=xy ec lc (by rw[en_3]) i3_3 (by omega:p.com3≤(p.l1.length:Int))
 clear ec
 obtain⟨u_3,v_3,w_3⟩:=Dz eo en_3 i5_3
 have y_3:=Dy ip1 eo
 clear eo
 (try clear ip2)
 clear i5_2 i5_3 i5_4
 refine cx (by omega) (by omega) fun x3 hi7=> ?_
 (try clear lx lc lq nl nt f_n f_vl f_ml f_tl)
 replace dq:=dl dq hi7
 clear hi7 ld
 obtain⟨f6,f_n,lc,f_vl,f_ml,lx,f_tl,dq,lq,ld,nl,nt⟩:=dq
 (try simp only[apW,apw,apy]at ld nl nt)
 refine cy f6 ?_
 clear f6
 refine cz ?_
 refine aF (by(try dsimp only[kW]);repeat(first|with_reducible assumption|apply And.intro|(apply dM<;>with_reducible assumption)|(apply bD<;>with_reducible assumption)|omega)) fun r4 hi8=> ?_
 dsimp only[kr]at hi8 ⊢
 obtain⟨eh,ej,er,ap⟩:=hi8
 replace dq:=dP dq ap lz
 clear ap la lz ld
 obtain⟨dq,la,lz,ld⟩:=dq
 (try simp only[apC,apD,List.append_nil,apw,apy]at dq ld lz)
 have ek_2:=mj (m:=(p.l1.length:Int)) ej (by omega) (by omega)
 clear ej
 have eb_2:=oO (gB (m:=(p.l1.length:Int)) er (by omega) (by intro x hx;simp only[apF,apU,or_false]at hx<;>omega)) (by omega)
 clear er
 have k_2:=Dx ek_2 en_2
 refine cx (by omega) (by omega) fun x4 hi9=> ?_
 (try clear lx lc lq nl nt f_n f_vl f_ml f_tl)
 replace dq:=dl dq hi9
 clear hi9 ld
 obtain⟨f6,f_n,lc,f_vl,f_ml,lx,f_tl,dq,lq,ld,nl,nt⟩:=dq
 (try simp only[apW,apw,apy]at ld nl nt)
 refine cy f6 ?_
 clear f6
 refine cz ?_
 refine aF (by(try dsimp only[kV]);repeat(first|with_reducible assumption|apply And.intro|(apply dM<;>with_reducible assumption)|(apply bD<;>with_reducible assumption)|omega)) fun r5 hi10=> ?_
 dsimp only[kq]at hi10 ⊢
 obtain⟨eh,ej,er,ap⟩:=hi10
 replace dq:=dP dq ap lz
 clear ap la lz ld
 obtain⟨dq,la,lz,ld⟩:=dq
 (try simp only[apC,apD,List.append_nil,apw,apy]at dq ld lz)
 have ek_3:=mj (m:=(p.l1.length:Int)) ej (by omega) (by omega)
 clear ej
 have eb_3:=oO (gB (m:=(p.l1.length:Int)) er (by omega) (by intro x hx;simp only[apF,apU,or_false]at hx<;>omega)) (by omega)
 have ee:=mj (BA (m:=(p.l1.length:Int)) er (by omega) (by simp only[apw,apy];omega) (by intro x hx;simp only[apF,apU,or_false]at hx<;>omega)) rfl (by omega)
 clear er
 have k_3:=Dx ek_3 en_3
 (try clear eb_2);(try clear ek_2);(try clear i4_0);(try clear i4_1);(try clear eb_3);(try clear ek_3);(try clear i5_0);(try clear i5_1);(try clear ip1)
 refine aX (dc ?_)
 exact aci
 exact Yo hK (by dsimp only[ir]<;>(first|(exfalso;omega)|(obtain⟨q1,q1_2,q1_3⟩:=ip1 (by omega);have q2:=ip2 (by omega);repeat(first|assumption|omega|(apply Oe<;>first|assumption|omega)|apply And.intro))))
theorem abT:eE Tryz.prog 54 1 BY true 0 CI:=by
 exact js (lf:=600) bK (bR nat_zk4_2_3.2) (by rfl) gO gG uk (fun b j x h=>by cases h) (fun S M nx K h=>by obtain⟨p,h⟩:=cd h;exact⟨p,(ai h).1,(ai h).2⟩) (fun p K h=>abc p K (ai h).1 (ai h).2)
abbrev vX:=nF
abbrev Po:=tU
def wU (p:vX) (r:Po):Prop:=r.l2=p.l1∧r.l3=p.l1∧r.com1=(p.l1.length:Int)∧r.com2=(p.l1.length:Int)∧r.com3=(p.l1.length:Int)∧r.c1=(p.l1.length:Int)∧r.c2=(p.l1.length:Int)∧r.a=r.L.length∧(r.L.length:Int)≤p.L.length+16*(10 - 0)∧0≤r.now∧r.now=p.now+4*(10 - 0)
noncomputable def PC (p:vX):IE:=([.ptr 0 0,.int 0 (.ofNat 10)],(dv p.l0 p.com0 p.g0 p.g1 p.g2 p.g3 p.l1 p.com1 p.b1 p.u p.c0 p.c1 p.c2 p.l2 p.com2 p.b2 p.u2 p.d2_0 p.d2_1 p.d2_2 p.l3 p.com3 p.b3 p.u3 p.d3_0 p.d3_1 p.d3_2 p.L p.a p.o p.cp p.now p.cnt),50)
noncomputable def Lk (p:vX) (K:KE) (r:Po):Bool:=K (.tup []) (dv p.l0 p.com0 p.g0 p.g1 p.g2 p.g3 p.l1 r.com1 p.b1 p.u r.c0 r.c1 r.c2 r.l2 r.com2 p.b2 p.u2 p.d2_0 p.d2_1 p.d2_2 r.l3 r.com3 p.b3 p.u3 p.d3_0 p.d3_1 p.d3_2 r.L r.a r.o r.cp r.now p.cnt) 50
noncomputable def DW (p:vX) (K:KE):Bool:=ae fun r=>iP (wU p r) (Lk p K r) true
def tC (p:vX):Prop:=(0≤(0:Int)∧(0:Int)≤10)∧(0≤p.now∧p.now+4*(10 - (0:Int))≤999000)∧(p.a=p.L.length∧(p.L.length:Int)+16*(10 - (0:Int))≤900000)∧(bF p.l1∧p.l1.length≤400∧0≤p.com1∧p.com1≤(p.l1.length:Int))∧(p.c1=(p.l2.length:Int)∧p.l2++p.l1.drop p.l2.length=p.l1∧p.l1.length≤p.l2.length+16∧0≤p.com2∧p.com2≤(p.l2.length:Int))∧(p.c2=(p.l3.length:Int)∧p.l3++p.l1.drop p.l3.length=p.l1∧p.l1.length≤p.l3.length+16∧0≤p.com3∧p.com3≤(p.l3.length:Int))∧(0≤p.b1∧p.b1≤(p.l1.length:Int))∧(0≤p.b2∧p.b2≤(p.l2.length:Int))∧(0≤p.b3∧p.b3≤(p.l3.length:Int))
theorem aeb {p:vX} {K:KE} (hK:DW p K=true) {r:Po} (h:wU p r):Lk p K r=true:=ax h (aq hK r)
theorem afn:Vf tC DW 1 nat_zk4_2_3 BY VT PC:=by
 intro p K hpre hK
 refine Eq.trans (b:=(ay gO iZ ir ⟨p.l0,p.com0,p.g0,p.g1,p.g2,p.g3,p.l1,p.com1,p.b1,p.u,p.c0,p.c1,p.c2,p.l2,p.com2,p.b2,p.u2,p.d2_0,p.d2_1,p.d2_2,p.l3,p.com3,p.b3,p.u3,p.d3_0,p.d3_1,p.d3_2,p.L,p.a,p.o,p.cp,p.now,p.cnt,0⟩ fun p1 r1=>Lk {p with l0:=p1.l0,com0:=p1.com0,g0:=p1.g0,g1:=p1.g1,g2:=p1.g2,g3:=p1.g3,l1:=p1.l1,b1:=p1.b1,u:=p1.u,b2:=p1.b2,u2:=p1.u2,d2_0:=p1.d2_0,d2_1:=p1.d2_1,d2_2:=p1.d2_2,b3:=p1.b3,u3:=p1.u3,d3_0:=p1.d3_0,d3_1:=p1.d3_1,d3_2:=p1.d3_2,cnt:=p1.cnt} K ⟨r1.com1,r1.c0,r1.c1,r1.c2,r1.l2,r1.com2,r1.l3,r1.com3,r1.L,r1.a,r1.o,r1.cp,r1.now⟩)) (by kernel_rfl) ?_
 dsimp only[tC]at hpre
 obtain⟨⟨i0_0,i0_1⟩,⟨i1_0,i1_1⟩,⟨i2_0,i2_1⟩,⟨i3_0,i3_1,i3_2,i3_3⟩,⟨i4_0,i4_1,i4_2,i4_3,i4_4⟩,⟨i5_0,i5_1,i5_2,i5_3,i5_4⟩,⟨i6_0,i6_1⟩,⟨i7_0,i7_1⟩,⟨i8_0,i8_1⟩⟩:=hpre
 have pl2:=jz i4_1
 have pl3:=jz i5_1
 refine aF (by(try dsimp only[iZ]);repeat(first|with_reducible assumption|apply And.intro|(apply dS;with_reducible assumption)|(apply bD<;>with_reducible assumption)|exact y_1 (by assumption)|exact y_2 (by assumption)|exact y_3 (by assumption)|intro _|omega)) fun r1 hi1=> ?_
 dsimp only[ir]at hi1 ⊢
 exact aeb (p:=p) hK (by dsimp only[wU]<;>(obtain⟨z0,z1,z2,z3,z4,z5,z6,z7,zL,zn0,zn⟩:=hi1;exact⟨z0,z1,z2,z3,z4,z5,z6,z7,by omega,zn0,by omega⟩))
theorem Va:dH Tryz.prog 15 1 (lM PC (Dn tC DW)):=(cB (f:=15) (k:=1) (lp:=BY) (lf:=600) bK (bR nat_zk4_2_3.2) XU (by rfl) (fun b j x h=>(dh abT (fun h=>(by cases h)) h)) fun p K h=>afn p K (ai h).1 (ai h).2)
noncomputable def nat_r10_4:NN:=bB nat_zk4_2_3 Va [(0,4),(1,1)] (fun us=>Nat.beq (gi us 1) 10)
end Go.Proofs.Tryz
namespace Go.Proofs.Tryz
open Go Go.RowKit Go.Sy
open Go.Eng hiding ae
set_option maxRecDepth 1000000
set_option linter.unusedVariables false
set_option maxHeartbeats 4000000
def uV:XC:=w_7 13 4 [1,1,1,2,3,1,1,1,2,3,1,1,1] [1,1,2,3] [0,2,3,1,1,0,2,3,1,1,0,2,3] [2,3,1,1] [5,5,5,8,8,9,9,9,6,6,10,10,10] [3,3,4,4] [1,1,1,1,1,1,1,1,1,1,0,0,0] [2,2,2,2] [257,257,257,257,257,257,257,257,257,257,0,0,0] [0,0,0,0] [0,0,0,0,0,0,0,0,0,0,2,2,2]
def VR:XF:=.mk 54 .none (.seq (g_ 1 [p_ 0 4 (.mv (i_ 0))]) (.block 2 (.pre [.can 1 [0,1,4],.can 1 [0,1,4]] (.inv 0 uV))))
theorem XS:bN Tryz.prog 15 VR=true:=by kernel_rfl
abbrev fG:=lR
structure CT where (l1:List Ke) (com1 b1 u c0 c1 c2:Int) (l2:List Ke) (com2 b2 u2 d2_0 d2_1 d2_2:Int) (l3:List Ke) (com3 b3 u3 d3_0 d3_1 d3_2:Int) (L:List Fx) (a o cp:Nat) (now:Int)
def nS (p:fG) (r:CT):Prop:=r.l1=p.l1∧r.l2=p.l1∧r.l3=p.l1∧r.com1=(p.l1.length:Int)∧r.com2=(p.l1.length:Int)∧r.com3=(p.l1.length:Int)∧r.c1=(p.l1.length:Int)∧r.c2=(p.l1.length:Int)∧r.b1=(p.l1.length:Int)∧r.b2=(p.l1.length:Int)∧r.b3=(p.l1.length:Int)∧r.a=r.L.length∧(r.L.length:Int)≤p.L.length+16*40∧0≤r.now∧r.now≤p.now+4*40
noncomputable def nB (p:fG):IL:=((.cons 4 (.int 0 (.ofNat 0)) (.cons 1 (.int 0 (.ofNat 40)) (.cons 0 (.ptr 0 0) .nil))),(acC p.l0 p.com0 p.g0 p.g1 p.g2 p.g3 p.l1 p.com1 p.l2 p.com2 p.l3 p.com3 p.L p.a p.o p.cp p.now p.cnt),47)
noncomputable def XM (p:fG) (K:KC) (r:CT):Bool:=K 2 .nil (dv p.l0 p.com0 p.g0 p.g1 p.g2 p.g3 r.l1 r.com1 r.b1 r.u r.c0 r.c1 r.c2 r.l2 r.com2 r.b2 r.u2 r.d2_0 r.d2_1 r.d2_2 r.l3 r.com3 r.b3 r.u3 r.d3_0 r.d3_1 r.d3_2 r.L r.a r.o r.cp r.now p.cnt) 50
noncomputable def Ea (p:fG) (K:KC):Bool:=ae fun r=>iP (nS p r) (XM p K r) true
def lT (p:fG):Prop:=1≤p.now∧p.now+4*40≤999000∧p.a=p.L.length∧(p.L.length:Int)+16*40≤900000∧bF p.l1∧p.l1.length≤400∧p.l2=p.l1∧p.l3=p.l1
noncomputable def Ak (p:fG) (K:KC):Bool:=aa (aN (lT p)) (Ea p K)
def As (p:fG):Nat:=41
abbrev em:=eV
abbrev CU:=tU
def jc (p:em) (r:CU):Prop:=r.l2=p.l1∧r.l3=p.l1∧r.com1=(p.l1.length:Int)∧r.com2=(p.l1.length:Int)∧r.com3=(p.l1.length:Int)∧r.c1=(p.l1.length:Int)∧r.c2=(p.l1.length:Int)∧r.a=r.L.length∧(r.L.length:Int)≤p.L.length+16*(40 - p.t)∧0≤r.now∧r.now=p.now+4*(40 - p.t)
noncomputable def iN (p:em):IL:=((.cons 4 (.sy (.int 0 p.t)) (.cons 1 (.int 0 (.ofNat 40)) (.cons 0 (.ptr 0 0) .nil))),(dv p.l0 p.com0 p.g0 p.g1 p.g2 p.g3 p.l1 p.com1 p.b1 p.u p.c0 p.c1 p.c2 p.l2 p.com2 p.b2 p.u2 p.d2_0 p.d2_1 p.d2_2 p.l3 p.com3 p.b3 p.u3 p.d3_0 p.d3_1 p.d3_2 p.L p.a p.o p.cp p.now p.cnt),50)
noncomputable def Aw (p:em) (K:KC) (r:CU):Bool:=K 2 .nil (dv p.l0 p.com0 p.g0 p.g1 p.g2 p.g3 p.l1 r.com1 p.b1 p.u r.c0 r.c1 r.c2 r.l2 r.com2 p.b2 p.u2 p.d2_0 p.d2_1 p.d2_2 r.l3 r.com3 p.b3 p.u3 p.d3_0 p.d3_1 p.d3_2 r.L r.a r.o r.cp r.now p.cnt) 50
noncomputable def me (p:em) (K:KC):Bool:=ae fun r=>iP (jc p r) (Aw p K r) true
def gW (p:em):Prop:=(0≤p.t∧p.t≤40)∧(0≤p.now∧p.now+4*(40 - p.t)≤999000)∧(p.a=p.L.length∧(p.L.length:Int)+16*(40 - p.t)≤900000)∧(bF p.l1∧p.l1.length≤400∧0≤p.com1∧p.com1≤(p.l1.length:Int))∧(p.c1=(p.l2.length:Int)∧p.l2++p.l1.drop p.l2.length=p.l1∧p.l1.length≤p.l2.length+16∧0≤p.com2∧p.com2≤(p.l2.length:Int))∧(p.c2=(p.l3.length:Int)∧p.l3++p.l1.drop p.l3.length=p.l1∧p.l1.length≤p.l3.length+16∧0≤p.com3∧p.com3≤(p.l3.length:Int))∧(0≤p.b1∧p.b1≤(p.l1.length:Int))∧(0≤p.b2∧p.b2≤(p.l2.length:Int))∧(0≤p.b3∧p.b3≤(p.l3.length:Int))∧((1≤p.t→p.com1=(p.l1.length:Int)∧p.l2.length=p.l1.length∧p.l3.length=p.l1.length))∧((2≤p.t→p.com2=(p.l1.length:Int)∧p.com3=(p.l1.length:Int)))
theorem We {p:em} {K:KC} (hK:me p K=true) {r:CU} (h:jc p r):Aw p K r=true:=ax h (aq hK r)
noncomputable def Al (p:em) (K:KC):Bool:=aa (aN (gW p)) (me p K)
def je (p:em):Nat:=(40 - p.t).toNat
noncomputable def Au (S:SL) (M:T) (nx:Nat) (K:KC):Bool:=(Bool.rec (Bool.rec false (aM fun p:em=>aa (aN ((S,M,nx)=iN p)) (Al p K)) (Nat.beq (gOf M 5) 2)) (aM fun p:fG=>aa (aN ((S,M,nx)=nB p)) (Ak p K)) (Nat.beq (gOf M 5) 1))
inductive A_l_r40_4 where
 |v1 (p:fG)
 |v2 (p:em)
noncomputable def Ga (q:A_l_r40_4):IL:=A_l_r40_4.casesOn q (fun p=>nB p) (fun p=>iN p)
def gE:A_l_r40_4→Nat
 |.v1 p=>As p
 |.v2 p=>je p
noncomputable def BL (q:A_l_r40_4) (K:KC):Bool:=A_l_r40_4.casesOn q (fun p=>Ak p K) (fun p=>Al p K)
noncomputable def MQ (n:Nat) (K:KC):KC:=fun e S M nx=>Nat.casesOn e (aM fun q:A_l_r40_4=>aa (aN ((S,M,nx)=Ga q∧gE q<n)) (BL q K)) (fun e2=>K (Nat.succ e2) S M nx)
noncomputable def uX (s:IL) (n:Nat) (K:KC):Bool:=aM fun q=>mP (s=Ga q∧gE q<n) (BL q K)
theorem Yr {n:Nat} {q:em} {K:KC} {s:IL} (hm:je q<n) (hp:gW q) (hK:me q K=true) (e:s=iN q):uX s n K=true:=aR (.v2 q) (bC ⟨e,hm⟩ (bC hp hK))
theorem Yt {p q:em} {K:KC} (hm:je q<je p:=by dsimp only[je]<;>(omega)) (hp:gW q:=by dsimp only[gW]<;>(repeat(first|with_reducible assumption|apply And.intro|(apply dS;with_reducible assumption)|(apply bD<;>with_reducible assumption)|exact y_1 (by assumption)|exact y_2 (by assumption)|exact y_3 (by assumption)|intro _|omega))) (hK:me q K=true:=by exact(by refine ac fun r=>iI (fun hz=> ?_) (fun _=>rfl);dsimp only[jc]at hz;obtain⟨z0,z1,z2,z3,z4,z5,z6,z7,zL,zn0,zn⟩:=hz;exact ax (show jc p r from(by dsimp only[jc];exact⟨z0,z1,z2,z3,z4,z5,z6,z7,by omega,zn0,by omega⟩)) (aq hK r))):uX (iN q) (gE (.v2 p)) K=true:=aR (.v2 q) (bC ⟨rfl,hm⟩ (bC hp hK))
noncomputable def xB:fx:=fun j S M nx K=>(Bool.rec (false) (Au S M nx K) (Nat.beq j 0))
theorem Xt (p:fG) (K:KC) (hpre:lT p) (hK:Ea p K=true):(dj (gN nat_r10_4.1) xB 600 uV (nB p).1 (nB p).2.1 (nB p).2.2 (MQ (gE (.v1 p)) K))=true:=by
 refine Eq.trans (b:=(mP (aI 0 (p.now+1)) (ay aif Gv tI ⟨p.l0,p.com0,p.g0,p.g1,p.g2,p.g3,p.l1,p.com1,p.l2,p.com2,p.l3,p.com3,p.L,p.a,p.o,p.cp,p.now+1,p.cnt⟩ fun p1 r1=>mP (aI 0 ((p1.now+1)+1)) (aL aac zc ⟨p1.l2,p1.com2,(p1.now+1)+1⟩ fun p2=>mP (aI 0 (((p1.now+1)+1)+1)) (aL aab zb ⟨p1.l3,p1.com3,((p1.now+1)+1)+1⟩ fun p3=>rd r1.L r1.a (r1.L.length - r1.a) fun x1=>fR x1 1 0 5 1 257 0 (mL (r1.L.length - r1.a) (rd r1.L (r1.a+1) ((r1.L.length - r1.a) - 1) fun x2=>fR x2 1 2 5 1 257 0 (mL ((r1.L.length - r1.a) - 1) (ay Zz yy rz ⟨p1.l0,p1.com0,p1.g0,p1.g1,p1.g2,p1.g3,p1.l1,p1.com1,p1.now+1,p1.now+1+10,r1.hq,r1.tq,p2.l2,p2.com2,p3.l3,p3.com3,r1.L,(r1.a+1)+1,(if r1.cp=r1.a+1 then (if r1.cp=r1.a then r1.o else r1.a*33) else (r1.a+1)*33),r1.cp,((p1.now+1)+1)+1,p1.cnt,x2.n,x2.c,x2.vh,x2.vl,x2.mh,x2.ml,x2.h,x2.l,x2.th,x2.tl⟩ fun p4 r2=>rd r2.L r2.a (r2.L.length - r2.a) fun x3=>fR x3 1 3 5 1 257 0 (mL (r2.L.length - r2.a) (ay Zy yx ry ⟨p4.l0,p4.com0,p4.g0,p4.g1,p4.g2,p4.g3,p4.l1,p4.com1,p4.t,p4.u,p4.hq,p4.tq,p4.l2,p4.com2,p4.now,p4.l3,p4.com3,r2.L,r2.a+1,(if r2.cp=r2.a then r2.o else r2.a*33),r2.cp,p4.now,p4.cnt,x3.n,x3.c,x3.vh,x3.vl,x3.mh,x3.ml,x3.h,x3.l,x3.th,x3.tl⟩ fun p5 r3=>rd r3.L r3.a (r3.L.length - r3.a) fun x4=>fR x4 2 1 8 1 257 0 (mL (r3.L.length - r3.a) (ay Zw yu wA ⟨p5.l0,p5.com0,p5.g0,p5.g1,p5.g2,p5.g3,p5.l1,p5.com1,p5.t,p5.u,p5.hq,p5.tq,p5.l2,p5.com2,p5.t2,p5.l3,p5.com3,p5.now,r3.L,r3.a+1,(if r3.cp=r3.a then r3.o else r3.a*33),r3.cp,p5.now,p5.cnt,x4.n,x4.c,x4.vh,x4.vl,x4.mh,x4.ml,x4.h,x4.l,x4.th,x4.tl⟩ fun p6 r4=>rd r4.L r4.a (r4.L.length - r4.a) fun x5=>fR x5 3 1 8 1 257 0 (mL (r4.L.length - r4.a) (ay Zv yt lY ⟨p6.l0,p6.com0,p6.g0,p6.g1,p6.g2,p6.g3,p6.l1,p6.com1,p6.t,p6.u,p6.hq,p6.tq,p6.l2,p6.com2,p6.t2,p6.l3,p6.com3,p6.t3,r4.L,r4.a+1,(if r4.cp=r4.a then r4.o else r4.a*33),r4.cp,p6.now,p6.cnt,x5.n,x5.c,x5.vh,x5.vl,x5.mh,x5.ml,x5.h,x5.l,x5.th,x5.tl⟩ fun p7 r5=>rd r5.L r5.a (r5.L.length - r5.a) fun x6=>fR x6 1 0 9 1 257 0 (mL (r5.L.length - r5.a) (rd r5.L (r5.a+1) ((r5.L.length - r5.a) - 1) fun x7=>fR x7 1 2 9 1 257 0 (mL ((r5.L.length - r5.a) - 1) (ay ZC yB rC ⟨p7.l0,p7.com0,p7.g0,p7.g1,p7.g2,p7.g3,p7.l1,p7.com1,p7.t,p7.u,p7.hq,p7.tq,r5.hcm,r5.cm,r5.hct,r5.ct,r5.ham,r5.aw,r5.hat,r5.av,p7.l2,p7.com2,p7.t2,p7.l3,p7.com3,p7.t3,r5.L,(r5.a+1)+1,(if r5.cp=r5.a+1 then (if r5.cp=r5.a then r5.o else r5.a*33) else (r5.a+1)*33),r5.cp,p7.now,p7.cnt,x7.n,x7.c,x7.vh,x7.vl,x7.mh,x7.ml,x7.h,x7.l,x7.th,x7.tl⟩ fun p8 r6=>rd r6.L r6.a (r6.L.length - r6.a) fun x8=>fR x8 1 3 9 1 257 0 (mL (r6.L.length - r6.a) (ay ZB yA rB ⟨p8.l0,p8.com0,p8.g0,p8.g1,p8.g2,p8.g3,p8.l1,p8.com1,p8.t,p8.u,p8.hq,p8.tq,p8.hcm,p8.cm,p8.hct,p8.ct,p8.ham,p8.aw,p8.hat,p8.av,p8.l2,p8.com2,p8.t2,r6.hm2,r6.m2,r6.ht2,r6.a2,p8.l3,p8.com3,p8.t3,r6.L,r6.a+1,(if r6.cp=r6.a then r6.o else r6.a*33),r6.cp,p8.now,p8.cnt,x8.n,x8.c,x8.vh,x8.vl,x8.mh,x8.ml,x8.h,x8.l,x8.th,x8.tl⟩ fun p9 r7=>rd r7.L r7.a (r7.L.length - r7.a) fun x9=>fR x9 2 1 6 1 257 0 (mL (r7.L.length - r7.a) (ay ZK yJ wE ⟨p9.l0,p9.com0,p9.g0,p9.g1,p9.g2,p9.g3,p9.l1,p9.com1,p9.t,p9.u,p9.hq,p9.tq,p9.hcm,p9.cm,p9.hct,p9.ct,p9.ham,p9.aw,p9.hat,p9.av,p9.l2,p9.com2,p9.t2,p9.hm2,p9.m2,p9.ht2,p9.a2,p9.l3,p9.com3,p9.t3,r7.hm3,r7.m3,r7.ht3,r7.a3,r7.L,r7.a+1,(if r7.cp=r7.a then r7.o else r7.a*33),r7.cp,p9.now,p9.cnt,x9.n,x9.c,x9.vh,x9.vl,x9.mh,x9.ml,x9.h,x9.l,x9.th,x9.tl⟩ fun p10 r8=>rd r8.L r8.a (r8.L.length - r8.a) fun x10=>fR x10 3 1 6 1 257 0 (mL (r8.L.length - r8.a) (ay ZJ yI mc ⟨p10.l0,p10.com0,p10.g0,p10.g1,p10.g2,p10.g3,p10.l1,p10.com1,p10.t,p10.u,p10.hq,p10.tq,p10.hcm,p10.cm,p10.hct,p10.ct,p10.ham,p10.aw,p10.hat,p10.av,p10.l2,p10.com2,p10.t2,p10.hm2,p10.m2,p10.ht2,p10.a2,p10.l3,p10.com3,p10.t3,p10.hm3,p10.m3,p10.ht3,p10.a3,r8.L,r8.a+1,(if r8.cp=r8.a then r8.o else r8.a*33),r8.cp,p10.now,p10.cnt,x10.n,x10.c,x10.vh,x10.vl,x10.mh,x10.ml,x10.h,x10.l,x10.th,x10.tl⟩ fun p11 r9=>rd r9.L r9.a (r9.L.length - r9.a) fun x11=>fR x11 1 0 10 0 0 2 (mL (r9.L.length - r9.a) (rd r9.L (r9.a+1) ((r9.L.length - r9.a) - 1) fun x12=>fR x12 1 2 10 0 0 2 (mL ((r9.L.length - r9.a) - 1) (ay ZF yE wC ⟨p11.l0,p11.com0,p11.g0,p11.g1,p11.g2,p11.g3,r9.l1,r9.z,r9.z,p11.now+2,r9.z,r9.z,r9.z,p11.l2,p11.com2,p11.t2,p11.hm2,p11.m2,p11.ht2,p11.a2,p11.l3,p11.com3,p11.t3,p11.hm3,p11.m3,p11.ht3,p11.a3,r9.L,(r9.a+1)+1,(if r9.cp=r9.a+1 then (if r9.cp=r9.a then r9.o else r9.a*33) else (r9.a+1)*33),r9.cp,p11.now,p11.cnt,x12.n,x12.c,x12.vh,x12.vl,x12.mh,x12.ml,x12.h,x12.l,x12.th,x12.tl⟩ fun p12 r10=>rd r10.L r10.a (r10.L.length - r10.a) fun x13=>fR x13 1 3 10 0 0 2 (mL (r10.L.length - r10.a) (ay ZE yD wB ⟨p12.l0,p12.com0,p12.g0,p12.g1,p12.g2,p12.g3,p12.l1,p12.com1,p12.b1,p12.u,p12.c0,p12.c1,p12.c2,r10.l2,(p12.x_l.length:Int),(p12.x_l.length:Int),p12.now+2,(p12.x_l.length:Int),(p12.x_l.length:Int),(p12.x_l.length:Int),p12.l3,p12.com3,p12.t3,p12.hm3,p12.m3,p12.ht3,p12.a3,r10.L,r10.a+1,(if r10.cp=r10.a then r10.o else r10.a*33),r10.cp,p12.now,p12.cnt,x13.n,x13.c,x13.vh,x13.vl,x13.mh,x13.ml,x13.h,x13.l,x13.th,x13.tl⟩ fun p13 r11=>mP (¬((0:Int)<((r11.L.length - r11.a:Nat):Int))) (uX ((.cons 4 (.sy (.int 0 1)) (.cons 1 (.int 0 (.ofNat 40)) (.cons 0 (.ptr 0 0) .nil))),(dv p13.l0 p13.com0 p13.g0 p13.g1 p13.g2 p13.g3 p13.l1 p13.com1 p13.b1 p13.u p13.c0 p13.c1 p13.c2 p13.l2 p13.com2 p13.b2 p13.u2 p13.d2_0 p13.d2_1 p13.d2_2 r11.l3 (p13.x_l.length:Int) (p13.x_l.length:Int) (p13.now+2) (p13.x_l.length:Int) (p13.x_l.length:Int) (p13.x_l.length:Int) r11.L r11.a r11.o r11.cp p13.now p13.cnt),50) (gE (.v1 p)) K)))))))))))))))))))))))))))))))) (by kernel_rfl) ?_
 dsimp only[lT]at hpre
 obtain⟨ia1,ia2,ib1,ib2,ik1,ik2,il2,il3⟩:=hpre
 have ik12:=bD il2 ik1
 have ik13:=bD il3 ik1
 have in2:=congrArg List.length il2
 have in3:=congrArg List.length il3
 have dq:p.L.drop p.a=[]:=List.drop_eq_nil_of_le (by omega)
 have ld:=congrArg List.length dq
 have lz:=apM p.L.length
 have la:=apM p.a
 refine dc ?_
 refine aF (by(try dsimp only[Gv]);repeat(first|with_reducible assumption|apply And.intro|(apply dM<;>with_reducible assumption)|(apply bD<;>with_reducible assumption)|omega)) fun r1 hi1=> ?_
 dsimp only[tI]at hi1 ⊢
 obtain⟨etq,aphi1⟩:=hi1
 have kt:=bD etq ik1
 have n_etq:=congrArg List.length etq
 replace dq:=dP dq aphi1 lz
 clear aphi1 la lz ld
 obtain⟨dq,la,lz,ld⟩:=dq
 (try simp only[apC,apD,List.append_nil,apw,apy]at dq ld lz)
 refine dc ?_
 refine aV (by(try dsimp only[zc]);repeat(first|assumption|omega|apply And.intro)) ?_
 dsimp only
 refine dc ?_
 refine aV (by(try dsimp only[zb]);repeat(first|assumption|omega|apply And.intro)) ?_
 dsimp only
 refine cx (by omega) (by omega) fun x1 hi2=> ?_
 (try clear lx lc lq nl nt f_n f_vl f_ml f_tl)
 replace dq:=dl dq hi2
 clear hi2 ld
 obtain⟨f6,f_n,lc,f_vl,f_ml,lx,f_tl,dq,lq,ld,nl,nt⟩:=dq
 (try simp only[apW,apw,apy]at ld nl nt)
 refine cy f6 ?_
 clear f6
 refine cz ?_
 refine cx (by omega) (by omega) fun x2 hi3=> ?_
 (try clear lx lc lq nl nt f_n f_vl f_ml f_tl)
 replace dq:=dl dq hi3
 clear hi3 ld
 obtain⟨f6,f_n,lc,f_vl,f_ml,lx,f_tl,dq,lq,ld,nl,nt⟩:=dq
 (try simp only[apW,apw,apy]at ld nl nt)
 refine cy f6 ?_
 clear f6
 refine cz ?_
 refine aF (by(try dsimp only[yy]);repeat(first|with_reducible assumption|apply And.intro|(apply dM<;>with_reducible assumption)|(apply bD<;>with_reducible assumption)|omega)) fun r2 hi4=> ?_
 dsimp only[rz]at hi4 ⊢
 obtain⟨_,aphi4⟩:=hi4
 replace dq:=dP dq aphi4 lz
 clear aphi4 la lz ld
 obtain⟨dq,la,lz,ld⟩:=dq
 (try simp only[apC,apD,List.append_nil,apw,apy]at dq ld lz)
 refine cx (by omega) (by omega) fun x3 hi5=> ?_
 (try clear lx lc lq nl nt f_n f_vl f_ml f_tl)
 replace dq:=dl dq hi5
 clear hi5 ld
 obtain⟨f6,f_n,lc,f_vl,f_ml,lx,f_tl,dq,lq,ld,nl,nt⟩:=dq
 (try simp only[apW,apw,apy]at ld nl nt)
 refine cy f6 ?_
 clear f6
 refine cz ?_
 refine aF (by(try dsimp only[yx]);repeat(first|with_reducible assumption|apply And.intro|(apply dM<;>with_reducible assumption)|(apply bD<;>with_reducible assumption)|omega)) fun r3 hi6=> ?_
 dsimp only[ry]at hi6 ⊢
 obtain⟨_,aphi6⟩:=hi6
 replace dq:=dP dq aphi6 lz
 clear aphi6 la lz ld
 obtain⟨dq,la,lz,ld⟩:=dq
 (try simp only[apC,apD,List.append_nil,apw,apy]at dq ld lz)
 refine cx (by omega) (by omega) fun x4 hi7=> ?_
 (try clear lx lc lq nl nt f_n f_vl f_ml f_tl)
 replace dq:=dl dq hi7
 clear hi7 ld
 obtain⟨f6,f_n,lc,f_vl,f_ml,lx,f_tl,dq,lq,ld,nl,nt⟩:=dq
 (try simp only[apW,apw,apy]at ld nl nt)
 refine cy f6 ?_
 clear f6
 refine cz ?_
 refine aF (by(try dsimp only[yu]);repeat(first|with_reducible assumption|apply And.intro|(apply dM<;>with_reducible assumption)|(apply bD<;>with_reducible assumption)|omega)) fun r4 hi8=> ?_
 dsimp only[wA]at hi8 ⊢
 have aphi8:=hi8
 replace dq:=dP dq aphi8 lz
 clear aphi8 la lz ld
 obtain⟨dq,la,lz,ld⟩:=dq
 (try simp only[apC,apD,List.append_nil,apw,apy]at dq ld lz)
 refine cx (by omega) (by omega) fun x5 hi9=> ?_
 (try clear lx lc lq nl nt f_n f_vl f_ml f_tl)
 replace dq:=dl dq hi9
 clear hi9 ld
 obtain⟨f6,f_n,lc,f_vl,f_ml,lx,f_tl,dq,lq,ld,nl,nt⟩:=dq
 (try simp only[apW,apw,apy]at ld nl nt)
 refine cy f6 ?_
 clear f6
 refine cz ?_
 refine aF (by(try dsimp only[yt]);repeat(first|with_reducible assumption|apply And.intro|(apply dM<;>with_reducible assumption)|(apply bD<;>with_reducible assumption)|omega)) fun r5 hi10=> ?_
 dsimp only[lY]at hi10 ⊢
 obtain⟨ecm,ect,_,_,aphi10⟩:=hi10
 have ect2:=ect.trans etq
 replace dq:=dP dq aphi10 lz
 clear aphi10 la lz ld
 obtain⟨dq,la,lz,ld⟩:=dq
 (try simp only[apC,apD,List.append_nil,apw,apy]at dq ld lz)
 refine cx (by omega) (by omega) fun x6 hi11=> ?_
 (try clear lx lc lq nl nt f_n f_vl f_ml f_tl)
 replace dq:=dl dq hi11
 clear hi11 ld
 obtain⟨f6,f_n,lc,f_vl,f_ml,lx,f_tl,dq,lq,ld,nl,nt⟩:=dq
 (try simp only[apW,apw,apy]at ld nl nt)
 refine cy f6 ?_
 clear f6
 refine cz ?_
 refine cx (by omega) (by omega) fun x7 hi12=> ?_
 (try clear lx lc lq nl nt f_n f_vl f_ml f_tl)
 replace dq:=dl dq hi12
 clear hi12 ld
 obtain⟨f6,f_n,lc,f_vl,f_ml,lx,f_tl,dq,lq,ld,nl,nt⟩:=dq
 (try simp only[apW,apw,apy]at ld nl nt)
 refine cy f6 ?_
 clear f6
 refine cz ?_
 refine aF (by(try dsimp only[yB]);repeat(first|with_reducible assumption|apply And.intro|(apply dM<;>with_reducible assumption)|(apply bD<;>with_reducible assumption)|omega)) fun r6 hi13=> ?_
 dsimp only[rC]at hi13 ⊢
 have aphi13:=hi13
 replace dq:=dP dq aphi13 lz
 clear aphi13 la lz ld
 obtain⟨dq,la,lz,ld⟩:=dq
 (try simp only[apC,apD,List.append_nil,apw,apy]at dq ld lz)
 refine cx (by omega) (by omega) fun x8 hi14=> ?_
 (try clear lx lc lq nl nt f_n f_vl f_ml f_tl)
 replace dq:=dl dq hi14
 clear hi14 ld
 obtain⟨f6,f_n,lc,f_vl,f_ml,lx,f_tl,dq,lq,ld,nl,nt⟩:=dq
 (try simp only[apW,apw,apy]at ld nl nt)
 refine cy f6 ?_
 clear f6
 refine cz ?_
 refine aF (by(try dsimp only[yA]);repeat(first|with_reducible assumption|apply And.intro|(apply dM<;>with_reducible assumption)|(apply bD<;>with_reducible assumption)|omega)) fun r7 hi15=> ?_
 dsimp only[rB]at hi15 ⊢
 have aphi15:=hi15
 replace dq:=dP dq aphi15 lz
 clear aphi15 la lz ld
 obtain⟨dq,la,lz,ld⟩:=dq
 (try simp only[apC,apD,List.append_nil,apw,apy]at dq ld lz)
 refine cx (by omega) (by omega) fun x9 hi16=> ?_
 (try clear lx lc lq nl nt f_n f_vl f_ml f_tl)
 replace dq:=dl dq hi16
 clear hi16 ld
 obtain⟨f6,f_n,lc,f_vl,f_ml,lx,f_tl,dq,lq,ld,nl,nt⟩:=dq
 (try simp only[apW,apw,apy]at ld nl nt)
 refine cy f6 ?_
 clear f6
 refine cz ?_
 refine aF (by(try dsimp only[yJ]);repeat(first|with_reducible assumption|apply And.intro|(apply dM<;>with_reducible assumption)|(apply bD<;>with_reducible assumption)|omega)) fun r8 hi17=> ?_
 dsimp only[wE]at hi17 ⊢
 have aphi17:=hi17
 replace dq:=dP dq aphi17 lz
 clear aphi17 la lz ld
 obtain⟨dq,la,lz,ld⟩:=dq
 (try simp only[apC,apD,List.append_nil,apw,apy]at dq ld lz)
 refine cx (by omega) (by omega) fun x10 hi18=> ?_
 (try clear lx lc lq nl nt f_n f_vl f_ml f_tl)
 replace dq:=dl dq hi18
 clear hi18 ld
 obtain⟨f6,f_n,lc,f_vl,f_ml,lx,f_tl,dq,lq,ld,nl,nt⟩:=dq
 (try simp only[apW,apw,apy]at ld nl nt)
 refine cy f6 ?_
 clear f6
 refine cz ?_
 refine aF (by(try dsimp only[yI]);repeat(first|with_reducible assumption|apply And.intro|(apply dM<;>with_reducible assumption)|(apply bD<;>with_reducible assumption)|omega)) fun r9 hi19=> ?_
 dsimp only[mc]at hi19 ⊢
 obtain⟨el1,ez,_,_,aphi19⟩:=hi19
 have n_el1:=congrArg List.length el1
 have kl1:=bD el1 ik1
 replace dq:=dP dq aphi19 lz
 clear aphi19 la lz ld
 obtain⟨dq,la,lz,ld⟩:=dq
 (try simp only[apC,apD,List.append_nil,apw,apy]at dq ld lz)
 refine cx (by omega) (by omega) fun x11 hi20=> ?_
 (try clear lx lc lq nl nt f_n f_vl f_ml f_tl)
 replace dq:=dl dq hi20
 clear hi20 ld
 obtain⟨f6,f_n,lc,f_vl,f_ml,lx,f_tl,dq,lq,ld,nl,nt⟩:=dq
 (try simp only[apW,apw,apy]at ld nl nt)
 refine cy f6 ?_
 clear f6
 refine cz ?_
 refine cx (by omega) (by omega) fun x12 hi21=> ?_
 (try clear lx lc lq nl nt f_n f_vl f_ml f_tl)
 replace dq:=dl dq hi21
 clear hi21 ld
 obtain⟨f6,f_n,lc,f_vl,f_ml,lx,f_tl,dq,lq,ld,nl,nt⟩:=dq
 (try simp only[apW,apw,apy]at ld nl nt)
 refine cy f6 ?_
 clear f6
 refine cz ?_
 refine aF (by(try dsimp only[yE]);repeat(first|with_reducible assumption|apply And.intro|(apply dM<;>with_reducible assumption)|(apply bD<;>with_reducible assumption)|omega)) fun r10 hi22=> ?_
 dsimp only[wC]at hi22 ⊢
 obtain⟨eilhi22,aphi22⟩:=hi22
 replace dq:=dP dq aphi22 lz
 clear aphi22 la lz ld
 obtain⟨dq,la,lz,ld⟩:=dq
 (try simp only[apC,apD,List.append_nil,apw,apy]at dq ld lz)
 have eihi22:=eilhi22.trans lx
 have ejhi22:=eihi22.trans el1.symm
 have n_eihi22:=congrArg List.length eihi22
 have nxhi22:=congrArg List.length lx
 refine cx (by omega) (by omega) fun x13 hi23=> ?_
 (try clear lx lc lq nl nt f_n f_vl f_ml f_tl)
 replace dq:=dl dq hi23
 clear hi23 ld
 obtain⟨f6,f_n,lc,f_vl,f_ml,lx,f_tl,dq,lq,ld,nl,nt⟩:=dq
 (try simp only[apW,apw,apy]at ld nl nt)
 refine cy f6 ?_
 clear f6
 refine cz ?_
 refine aF (by(try dsimp only[yD]);repeat(first|with_reducible assumption|apply And.intro|(apply dM<;>with_reducible assumption)|(apply bD<;>with_reducible assumption)|omega)) fun r11 hi24=> ?_
 dsimp only[wB]at hi24 ⊢
 obtain⟨eilhi24,aphi24⟩:=hi24
 replace dq:=dP dq aphi24 lz
 clear aphi24 la lz ld
 obtain⟨dq,la,lz,ld⟩:=dq
 (try simp only[apC,apD,List.append_nil,apw,apy]at dq ld lz)
 have eihi24:=eilhi24.trans lx
 have ejhi24:=eihi24.trans el1.symm
 have n_eihi24:=congrArg List.length eihi24
 have nxhi24:=congrArg List.length lx
 refine aX ?_
 exact Yr (n:=gE (.v1 p)) (q:=⟨p.l0,p.com0,p.g0,p.g1,p.g2,p.g3,r9.l1,r9.z,r9.z,(((((p.now+(1:Int))+1)+(1:Int))+(1:Int))+2),r9.z,r9.z,r9.z,r10.l2,(x12.l.length:Int),(x12.l.length:Int),(((((p.now+(1:Int))+1)+(1:Int))+(1:Int))+2),(x12.l.length:Int),(x12.l.length:Int),(x12.l.length:Int),r11.l3,(x13.l.length:Int),(x13.l.length:Int),((((p.now+(1:Int))+1)+(1:Int))+(1:Int))+2,(x13.l.length:Int),(x13.l.length:Int),(x13.l.length:Int),r11.L,r11.a,r11.o,r11.cp,((((p.now+(1:Int))+1)+(1:Int))+(1:Int)),p.cnt,1⟩) (by show je _<As p;dsimp only[je,As];omega) (by dsimp only[gW];repeat(first|with_reducible assumption|apply And.intro|(apply dS;with_reducible assumption)|(apply bD<;>with_reducible assumption)|exact y_1 (by assumption)|exact y_2 (by assumption)|exact y_3 (by assumption)|intro _|omega)) (by refine ac fun r=>iI (fun hz=> ?_) (fun _=>rfl);dsimp only[jc]at hz;obtain⟨z0,z1,z2,z3,z4,z5,z6,z7,zL,zn0,zn⟩:=hz;exact ax (show nS p ⟨r9.l1,r.com1,r9.z,(((((p.now+(1:Int))+1)+(1:Int))+(1:Int))+2),r.c0,r.c1,r.c2,r.l2,r.com2,(x12.l.length:Int),(((((p.now+(1:Int))+1)+(1:Int))+(1:Int))+2),(x12.l.length:Int),(x12.l.length:Int),(x12.l.length:Int),r.l3,r.com3,(x13.l.length:Int),((((p.now+(1:Int))+1)+(1:Int))+(1:Int))+2,(x13.l.length:Int),(x13.l.length:Int),(x13.l.length:Int),r.L,r.a,r.o,r.cp,r.now⟩ from(by dsimp only[nS];exact⟨el1,z0.trans el1,z1.trans el1,by omega,by omega,by omega,by omega,by omega,by omega,by omega,by omega,z7,by omega,zn0,by omega⟩)) (aq hK _)) rfl
theorem Xu (p:em) (K:KC) (hpre:gW p) (hK:me p K=true):(dj (gN nat_r10_4.1) xB 600 uV (iN p).1 (iN p).2.1 (iN p).2.2 (MQ (gE (.v2 p)) K))=true:=by
 refine Eq.trans (b:=(iP (p.t<(40:Int)) (mP (aI 0 (p.now+1)) (ay Pw pd kw ⟨p.l0,p.com0,p.g0,p.g1,p.g2,p.g3,p.l1,p.com1,p.b1,p.u,p.c0,p.c1,p.c2,p.l2,p.com2,p.b2,p.u2,p.d2_0,p.d2_1,p.d2_2,p.l3,p.com3,p.b3,p.u3,p.d3_0,p.d3_1,p.d3_2,p.L,p.a,p.o,p.cp,p.now+1,p.cnt⟩ fun p1 r1=>mP (aI 0 ((p1.now+1)+1)) (aL Gf ln ⟨p1.l2,p1.com2,p1.b2,p1.u2,p1.d2_0,p1.d2_1,p1.d2_2,(p1.now+1)+1⟩ fun p2=>mP (aI 0 (((p1.now+1)+1)+1)) (aL Ge lm ⟨p1.l3,p1.com3,p1.b3,p1.u3,p1.d3_0,p1.d3_1,p1.d3_2,((p1.now+1)+1)+1⟩ fun p3=>rd r1.L r1.a (r1.L.length - r1.a) fun x1=>fR x1 1 2 3 2 0 0 (mL (r1.L.length - r1.a) (ay FU kZ io ⟨p1.l0,p1.com0,p1.g0,p1.g1,p1.g2,p1.g3,p1.l1,p1.com1,p1.b1,p1.u,p1.c0,p1.c1,p1.c2,p2.l2,p2.com2,p2.b2,p2.u2,p2.d2_0,p2.d2_1,p2.d2_2,p3.l3,p3.com3,p3.b3,p3.u3,p3.d3_0,p3.d3_1,p3.d3_2,r1.L,r1.a+1,(if r1.cp=r1.a then r1.o else r1.a*33),r1.cp,((p1.now+1)+1)+1,p1.cnt,x1.n,x1.c,x1.vh,x1.vl,x1.mh,x1.ml,x1.h,x1.l,x1.th,x1.tl⟩ fun p4 r2=>rd r2.L r2.a (r2.L.length - r2.a) fun x2=>fR x2 1 3 3 2 0 0 (mL (r2.L.length - r2.a) (ay FT kY im ⟨p4.l0,p4.com0,p4.g0,p4.g1,p4.g2,p4.g3,p4.l1,p4.com1,p4.b1,p4.u,p4.c0,p4.c1,p4.c2,r2.l2,r2.com2,p4.b2,p4.u2,p4.d2_0,p4.d2_1,p4.d2_2,p4.l3,p4.com3,p4.b3,p4.u3,p4.d3_0,p4.d3_1,p4.d3_2,r2.L,r2.a+1,(if r2.cp=r2.a then r2.o else r2.a*33),r2.cp,p4.now,p4.cnt,x2.n,x2.c,x2.vh,x2.vl,x2.mh,x2.ml,x2.h,x2.l,x2.th,x2.tl⟩ fun p5 r3=>rd r3.L r3.a (r3.L.length - r3.a) fun x3=>fR x3 2 1 4 2 0 0 (mL (r3.L.length - r3.a) (ay FR kW kr ⟨p5.l0,p5.com0,p5.g0,p5.g1,p5.g2,p5.g3,p5.l1,p5.com1,p5.b1,p5.u,p5.c0,p5.c1,p5.c2,p5.l2,p5.com2,p5.b2,p5.u2,p5.d2_0,p5.d2_1,p5.d2_2,r3.l3,r3.com3,p5.b3,p5.u3,p5.d3_0,p5.d3_1,p5.d3_2,r3.L,r3.a+1,(if r3.cp=r3.a then r3.o else r3.a*33),r3.cp,p5.now,p5.cnt,x3.n,x3.c,x3.vh,x3.vl,x3.mh,x3.ml,x3.h,x3.l,x3.th,x3.tl⟩ fun p6 r4=>rd r4.L r4.a (r4.L.length - r4.a) fun x4=>fR x4 3 1 4 2 0 0 (mL (r4.L.length - r4.a) (ay FQ kV kq ⟨p6.l0,p6.com0,p6.g0,p6.g1,p6.g2,p6.g3,p6.l1,r4.com1,p6.b1,p6.u,r4.c0,r4.c1,p6.c2,p6.l2,p6.com2,p6.b2,p6.u2,p6.d2_0,p6.d2_1,p6.d2_2,p6.l3,p6.com3,p6.b3,p6.u3,p6.d3_0,p6.d3_1,p6.d3_2,r4.L,r4.a+1,(if r4.cp=r4.a then r4.o else r4.a*33),r4.cp,p6.now,p6.cnt,x4.n,x4.c,x4.vh,x4.vl,x4.mh,x4.ml,x4.h,x4.l,x4.th,x4.tl⟩ fun p7 r5=>mP (¬((0:Int)<((r5.L.length - r5.a:Nat):Int))) (mP (aI 0 (p.t+1)) (uX (iN ⟨p7.l0,p7.com0,p7.g0,p7.g1,p7.g2,p7.g3,p7.l1,r5.com1,p7.b1,p7.u,r5.c0,p7.c1,r5.c2,p7.l2,p7.com2,p7.b2,p7.u2,p7.d2_0,p7.d2_1,p7.d2_2,p7.l3,p7.com3,p7.b3,p7.u3,p7.d3_0,p7.d3_1,p7.d3_2,r5.L,r5.a,r5.o,r5.cp,p7.now,p7.cnt,p.t+1⟩) (gE (.v2 p)) K)))))))))))))) (Aw p K ⟨p.com1,p.c0,p.c1,p.c2,p.l2,p.com2,p.l3,p.com3,p.L,p.a,p.o,p.cp,p.now⟩))) (by kernel_rfl) ?_
 dsimp only[gW]at hpre
 obtain⟨⟨i0_0,i0_1⟩,⟨i1_0,i1_1⟩,⟨i2_0,i2_1⟩,⟨i3_0,i3_1,i3_2,i3_3⟩,⟨i4_0,i4_1,i4_2,i4_3,i4_4⟩,⟨i5_0,i5_1,i5_2,i5_3,i5_4⟩,⟨i6_0,i6_1⟩,⟨i7_0,i7_1⟩,⟨i8_0,i8_1⟩,ip1,ip2⟩:=hpre
 have pl2:=jz i4_1
 have pl3:=jz i5_1
 have dq:p.L.drop p.a=[]:=List.drop_eq_nil_of_le (by omega)
 have ld:=congrArg List.length dq
 have lz:=apM p.L.length
 have la:=apM p.a
 apply iI<;>intro hc1
 refine dc ?_
 refine aF (by(try dsimp only[pd]);repeat(first|with_reducible assumption|apply And.intro|(apply dM<;>with_reducible assumption)|(apply bD<;>with_reducible assumption)|omega)) fun r1 hi2=> ?_
 dsimp only[kw]at hi2 ⊢
 obtain⟨_,_,aphi2⟩:=hi2
 replace dq:=dP dq aphi2 lz
 clear aphi2 la lz ld
 obtain⟨dq,la,lz,ld⟩:=dq
 (try simp only[apC,apD,List.append_nil,apw,apy]at dq ld lz)
 refine dc ?_
 refine aV (by(try dsimp only[ln]);repeat(first|assumption|omega|apply And.intro)) ?_
 dsimp only
 refine dc ?_
 refine aV (by(try dsimp only[lm]);repeat(first|assumption|omega|apply And.intro)) ?_
 dsimp only
 refine cx (by omega) (by omega) fun x1 hi3=> ?_
 (try clear lx lc lq nl nt f_n f_vl f_ml f_tl)
 replace dq:=dl dq hi3
 clear hi3 ld
 obtain⟨f6,f_n,lc,f_vl,f_ml,lx,f_tl,dq,lq,ld,nl,nt⟩:=dq
 (try simp only[apW,apw,apy]at ld nl nt)
 refine cy f6 ?_
 clear f6
 refine cz ?_
 refine aF (by(try dsimp only[kZ]);repeat(first|with_reducible assumption|apply And.intro|(apply dM<;>with_reducible assumption)|(apply bD<;>with_reducible assumption)|omega)) fun r2 hi4=> ?_
 dsimp only[io]at hi4 ⊢
 obtain⟨ea,ec,ap⟩:=hi4
 replace dq:=dP dq ap lz
 clear ap la lz ld
 obtain⟨dq,la,lz,ld⟩:=dq
 (try simp only[apC,apD,List.append_nil,apw,apy]at dq ld lz)
 have ew_2:=wx ea lx i4_0 i4_1
 have en_2:=congrArg List.length ew_2
 clear ea
 have eo:=xy ec lc (by rw[en_2]) i3_3 (by omega:p.com2≤(p.l1.length:Int))
 clear ec
 obtain⟨u_2,v_2,Qb⟩:=Dz eo en_2 i4_3
 have y_2:=Dy ip1 eo
 clear eo
 (try clear ip2)
 clear i4_2 i4_3 i4_4
 refine cx (by omega) (by omega) fun x2 hi5=> ?_
 (try clear lx lc lq nl nt f_n f_vl f_ml f_tl)
 replace dq:=dl dq hi5
 clear hi5 ld
 obtain⟨f6,f_n,lc,f_vl,f_ml,lx,f_tl,dq,lq,ld,nl,nt⟩:=dq
 (try simp only[apW,apw,apy]at ld nl nt)
 refine cy f6 ?_
 clear f6
 refine cz ?_
 refine aF (by(try dsimp only[kY]);repeat(first|with_reducible assumption|apply And.intro|(apply dM<;>with_reducible assumption)|(apply bD<;>with_reducible assumption)|omega)) fun r3 hi6=> ?_
 dsimp only[im]at hi6 ⊢
 obtain⟨ea,ec,ap⟩:=hi6
 replace dq:=dP dq ap lz
 clear ap la lz ld
 obtain⟨dq,la,lz,ld⟩:=dq
 (try simp only[apC,apD,List.append_nil,apw,apy]at dq ld lz)
 have ew_3:=wx ea lx i5_0 i5_1
 have en_3:=congrArg List.length ew_3
 clear ea
 have eo:=xy ec lc (by rw[en_3]) i3_3 (by omega:p.com3≤(p.l1.length:Int))
 clear ec
 obtain⟨u_3,v_3,w_3⟩:=Dz eo en_3 i5_3
 have y_3:=Dy ip1 eo
 clear eo
 (try clear ip2)
 clear i5_2 i5_3 i5_4
 refine cx (by omega) (by omega) fun x3 hi7=> ?_
 (try clear lx lc lq nl nt f_n f_vl f_ml f_tl)
 replace dq:=dl dq hi7
 clear hi7 ld
 obtain⟨f6,f_n,lc,f_vl,f_ml,lx,f_tl,dq,lq,ld,nl,nt⟩:=dq
 (try simp only[apW,apw,apy]at ld nl nt)
 refine cy f6 ?_
 clear f6
 refine cz ?_
 refine aF (by(try dsimp only[kW]);repeat(first|with_reducible assumption|apply And.intro|(apply dM<;>with_reducible assumption)|(apply bD<;>with_reducible assumption)|omega)) fun r4 hi8=> ?_
 dsimp only[kr]at hi8 ⊢
 obtain⟨eh,ej,er,ap⟩:=hi8
 replace dq:=dP dq ap lz
 clear ap la lz ld
 obtain⟨dq,la,lz,ld⟩:=dq
 (try simp only[apC,apD,List.append_nil,apw,apy]at dq ld lz)
 have ek_2:=mj (m:=(p.l1.length:Int)) ej (by omega) (by omega)
 clear ej
 have eb_2:=oO (gB (m:=(p.l1.length:Int)) er (by omega) (by intro x hx;simp only[apF,apU,or_false]at hx<;>omega)) (by omega)
 clear er
 have k_2:=Dx ek_2 en_2
 refine cx (by omega) (by omega) fun x4 hi9=> ?_
 (try clear lx lc lq nl nt f_n f_vl f_ml f_tl)
 replace dq:=dl dq hi9
 clear hi9 ld
 obtain⟨f6,f_n,lc,f_vl,f_ml,lx,f_tl,dq,lq,ld,nl,nt⟩:=dq
 (try simp only[apW,apw,apy]at ld nl nt)
 refine cy f6 ?_
 clear f6
 refine cz ?_
 refine aF (by(try dsimp only[kV]);repeat(first|with_reducible assumption|apply And.intro|(apply dM<;>with_reducible assumption)|(apply bD<;>with_reducible assumption)|omega)) fun r5 hi10=> ?_
 dsimp only[kq]at hi10 ⊢
 obtain⟨eh,ej,er,ap⟩:=hi10
 replace dq:=dP dq ap lz
 clear ap la lz ld
 obtain⟨dq,la,lz,ld⟩:=dq
 (try simp only[apC,apD,List.append_nil,apw,apy]at dq ld lz)
 have ek_3:=mj (m:=(p.l1.length:Int)) ej (by omega) (by omega)
 clear ej
 have eb_3:=oO (gB (m:=(p.l1.length:Int)) er (by omega) (by intro x hx;simp only[apF,apU,or_false]at hx<;>omega)) (by omega)
 have ee:=mj (BA (m:=(p.l1.length:Int)) er (by omega) (by simp only[apw,apy];omega) (by intro x hx;simp only[apF,apU,or_false]at hx<;>omega)) rfl (by omega)
 clear er
 have k_3:=Dx ek_3 en_3
 (try clear eb_2);(try clear ek_2);(try clear i4_0);(try clear i4_1);(try clear eb_3);(try clear ek_3);(try clear i5_0);(try clear i5_1);(try clear ip1)
 refine aX (dc ?_)
 exact Yt
 exact We hK (by dsimp only[jc]<;>(first|(exfalso;omega)|(obtain⟨q1,q1_2,q1_3⟩:=ip1 (by omega);have q2:=ip2 (by omega);repeat(first|assumption|omega|(apply Oe<;>first|assumption|omega)|apply And.intro))))
theorem abR:eE Tryz.prog 54 1 xB true 0 uV:=by
 refine js (lf:=600) bK (bR nat_r10_4.2) (by rfl) Ga gE BL (fun b j x h=>by cases h) (fun S M nx K h=> ?_) (fun p K h=> ?_)
 ·have h:Au S M nx K=true:=h
  unfold Au at h
  rcases tz h with⟨_,h⟩|⟨_,h⟩
  ·obtain⟨p,h⟩:=cd h;exact⟨.v1 p,(ai h).1,(ai h).2⟩
  rcases tz h with⟨_,h⟩|⟨_,h⟩
  ·obtain⟨p,h⟩:=cd h;exact⟨.v2 p,(ai h).1,(ai h).2⟩
  cases h
 ·cases p with
  |v1 p=>have h:Ak p K=true:=h;exact Xt p K (ai h).1 (ai h).2
  |v2 p=>have h:Al p K=true:=h;exact Xu p K (ai h).1 (ai h).2
abbrev vV:=lR
abbrev Pm:=CT
def wS (p:vV) (r:Pm):Prop:=r.l1=p.l1∧r.l2=p.l1∧r.l3=p.l1∧r.com1=(p.l1.length:Int)∧r.com2=(p.l1.length:Int)∧r.com3=(p.l1.length:Int)∧r.c1=(p.l1.length:Int)∧r.c2=(p.l1.length:Int)∧r.b1=(p.l1.length:Int)∧r.b2=(p.l1.length:Int)∧r.b3=(p.l1.length:Int)∧r.a=r.L.length∧(r.L.length:Int)≤p.L.length+16*40∧0≤r.now∧r.now≤p.now+4*40
noncomputable def PA (p:vV):IE:=([.ptr 0 0,.int 0 (.ofNat 40)],(acC p.l0 p.com0 p.g0 p.g1 p.g2 p.g3 p.l1 p.com1 p.l2 p.com2 p.l3 p.com3 p.L p.a p.o p.cp p.now p.cnt),47)
noncomputable def Li (p:vV) (K:KE) (r:Pm):Bool:=K (.tup []) (dv p.l0 p.com0 p.g0 p.g1 p.g2 p.g3 r.l1 r.com1 r.b1 r.u r.c0 r.c1 r.c2 r.l2 r.com2 r.b2 r.u2 r.d2_0 r.d2_1 r.d2_2 r.l3 r.com3 r.b3 r.u3 r.d3_0 r.d3_1 r.d3_2 r.L r.a r.o r.cp r.now p.cnt) 50
noncomputable def DU (p:vV) (K:KE):Bool:=ae fun r=>iP (wS p r) (Li p K r) true
def tA (p:vV):Prop:=1≤p.now∧p.now+4*40≤999000∧p.a=p.L.length∧(p.L.length:Int)+16*40≤900000∧bF p.l1∧p.l1.length≤400∧p.l2=p.l1∧p.l3=p.l1
theorem ad9 {p:vV} {K:KE} (hK:DU p K=true) {r:Pm} (h:wS p r):Li p K r=true:=ax h (aq hK r)
theorem afl:Vf tA DU 1 nat_r10_4 xB VR PA:=by
 intro p K hpre hK
 refine Eq.trans (b:=(ay nB lT nS ⟨p.l0,p.com0,p.g0,p.g1,p.g2,p.g3,p.l1,p.com1,p.l2,p.com2,p.l3,p.com3,p.L,p.a,p.o,p.cp,p.now,p.cnt⟩ fun p1 r1=>Li {p with l0:=p1.l0,com0:=p1.com0,g0:=p1.g0,g1:=p1.g1,g2:=p1.g2,g3:=p1.g3,cnt:=p1.cnt} K ⟨r1.l1,r1.com1,r1.b1,r1.u,r1.c0,r1.c1,r1.c2,r1.l2,r1.com2,r1.b2,r1.u2,r1.d2_0,r1.d2_1,r1.d2_2,r1.l3,r1.com3,r1.b3,r1.u3,r1.d3_0,r1.d3_1,r1.d3_2,r1.L,r1.a,r1.o,r1.cp,r1.now⟩)) (by kernel_rfl) ?_
 dsimp only[tA]at hpre
 obtain⟨ia1,ia2,ib1,ib2,ik1,ik2,il2,il3⟩:=hpre
 have ik12:=bD il2 ik1
 have ik13:=bD il3 ik1
 have in2:=congrArg List.length il2
 have in3:=congrArg List.length il3
 refine aF (by(try dsimp only[lT]);exact⟨by omega,by omega,by omega,by omega,ik1,by omega,il2,il3⟩) fun r1 hi1=> ?_
 dsimp only[nS]at hi1 ⊢
 exact ad9 (p:=p) hK (by dsimp only[wS]<;>assumption)
theorem UY:dH Tryz.prog 15 1 (lM PA (Dn tA DU)):=(cB (f:=15) (k:=1) (lp:=xB) (lf:=600) bK (bR nat_r10_4.2) XS (by rfl) (fun b j x h=>(dh abR (fun h=>(by cases h)) h)) fun p K h=>afl p K (ai h).1 (ai h).2)
noncomputable def RH:NN:=bB nat_r10_4 UY [(0,4),(1,1)] (fun us=>Nat.beq (gi us 1) 40)
end Go.Proofs.Tryz
namespace Go.Proofs.Tryz
open Go.Proofs.YtjhpjjbnojbikaaGreat (dW fj eP fY fS kN)
open Go Go.RowKit Go.Sy
open Go.Eng hiding ae
set_option maxRecDepth 1000000
set_option linter.unusedVariables false
set_option maxHeartbeats 4000000
def xI:XF:=DB
theorem ti:bN Tryz.prog 28 xI=true:=by kernel_rfl
abbrev vK:=lR
abbrev OZ:=eJ
def lZ (p:vK) (r:OZ):Prop:=∃h1 h2 h3,Ap r.L r.a p.L p.a [(⟨0,1,3,1,p.g1,p.com0,0,0,(.slice none 0 0),[],(.slice none 0 0),[],h1,p.l0.drop p.g1.toNat,(.slice none 0 0),[]⟩:Fx),(⟨0,2,3,1,p.g2,p.com0,0,0,(.slice none 0 0),[],(.slice none 0 0),[],h2,p.l0.drop p.g2.toNat,(.slice none 0 0),[]⟩:Fx),(⟨0,3,3,1,p.g3,p.com0,0,0,(.slice none 0 0),[],(.slice none 0 0),[],h3,p.l0.drop p.g3.toNat,(.slice none 0 0),[]⟩:Fx)]
noncomputable def ZH (p:vK):IE:=([.ptr 0 0,.int 0 (.ofNat 0)],(iH p.l0 p.com0 p.g0 p.g1 p.g2 p.g3 p.l1 p.com1 p.l2 p.com2 p.l3 p.com3 p.L p.a p.o p.cp p.now p.cnt),44)
noncomputable def rG (p:vK) (K:KE) (r:OZ):Bool:=K (.tup []) (iH p.l0 p.com0 p.g0 p.g1 p.g2 p.g3 p.l1 p.com1 p.l2 p.com2 p.l3 p.com3 r.L r.a r.o r.cp (p.now+1) p.cnt) 44
noncomputable def Qs (p:vK) (K:KE):Bool:=ae fun r=>iP (lZ p r) (rG p K r) true
def yG (p:vK):Prop:=Bs p.now p.L p.a∧p.l0.length≤400∧0≤p.com0∧p.com0≤400∧(0≤p.g1∧p.g1≤(p.l0.length:Int)∧(p.l0.length:Int)≤p.g1+16)∧(0≤p.g2∧p.g2≤(p.l0.length:Int)∧(p.l0.length:Int)≤p.g2+16)∧(0≤p.g3∧p.g3≤(p.l0.length:Int)∧(p.l0.length:Int)≤p.g3+16)
theorem zH {p:vK} {K:KE} (hK:Qs p K=true) {r:OZ} (h:lZ p r):rG p K r=true:=ax h (aq hK r)
theorem aeX:Vf yG Qs 1 RH aJ xI ZH:=by
 intro p K hpre hK
 refine Eq.trans (b:=(mP (aI 0 (p.now+1)) (ay aaf zf xj ⟨p.l0,p.com0,p.g0,p.g1,p.g2,p.g3,p.now+1⟩ fun p1 r1=>iP (((p.L.length - p.a:Nat):Int)<(400:Int)) (mE (.psub 3 33 p.a (p.L.length - p.a) p.o (some p.cp)) (mP (p.a+(p.L.length - p.a)=p.L.length) (aM fun m1:List Fx=>mP (bg (m1.map dA) (QT 0 1 1 p1.g1 p1.com0 [] r1.h1 r1.e1)) (mP (bQ 232 (p.L.length+m1.length)) (ae fun L1:List Fx=>ae fun d1:Nat=>ae fun o1:Nat=>ae fun u1:Nat=>iP (d1≤L1.length∧L1.length≤p.L.length+m1.length∧L1.drop d1=p.L.drop p.a++m1) (iP (((L1.length - d1:Nat):Int)<(400:Int)) (mE (.psub 56 33 d1 (L1.length - d1) o1 (some u1)) (mP (d1+(L1.length - d1)=L1.length) (aM fun m2:List Fx=>mP (bg (m2.map dA) (QT 0 2 1 p1.g2 p1.com0 [] r1.h2 r1.e2)) (mP (bQ 232 (L1.length+m2.length)) (ae fun L2:List Fx=>ae fun d2:Nat=>ae fun o2:Nat=>ae fun u2:Nat=>iP (d2≤L2.length∧L2.length≤L1.length+m2.length∧L2.drop d2=L1.drop d1++m2) (iP (((L2.length - d2:Nat):Int)<(400:Int)) (mE (.psub 58 33 d2 (L2.length - d2) o2 (some u2)) (mP (d2+(L2.length - d2)=L2.length) (aM fun m3:List Fx=>mP (bg (m3.map dA) (QT 0 3 1 p1.g3 p1.com0 [] r1.h3 r1.e3)) (mP (bQ 232 (L2.length+m3.length)) (ae fun L3:List Fx=>ae fun d3:Nat=>ae fun o3:Nat=>ae fun u3:Nat=>iP (d3≤L3.length∧L3.length≤L2.length+m3.length∧L3.drop d3=L2.drop d2++m3) (rG {p with l0:=p1.l0,com0:=p1.com0,g0:=p1.g0,g1:=p1.g1,g2:=p1.g2,g3:=p1.g3} K ⟨L3,d3,o3,u3⟩) true))))) (rG {p with l0:=p1.l0,com0:=p1.com0,g0:=p1.g0,g1:=p1.g1,g2:=p1.g2,g3:=p1.g3} K ⟨L2,d2,o2,u2⟩)) true))))) (rG {p with l0:=p1.l0,com0:=p1.com0,g0:=p1.g0,g1:=p1.g1,g2:=p1.g2,g3:=p1.g3} K ⟨L1,d1,o1,u1⟩)) true))))) (rG {p with l0:=p1.l0,com0:=p1.com0,g0:=p1.g0,g1:=p1.g1,g2:=p1.g2,g3:=p1.g3} K ⟨p.L,p.a,p.o,p.cp⟩)))) (by kernel_rfl) ?_
 dsimp only[yG]at hpre
 obtain⟨⟨n0,n1,n2,n3,n4⟩,hx⟩:=hpre
 obtain⟨hx1,hx2,hx3,⟨u1,v1,w1⟩,⟨u2,v2,w2⟩,⟨u3,v3,w3⟩⟩:=hx
 refine dc ?_
 refine aF (by(try dsimp only[zf]);repeat(first|assumption|omega|apply And.intro)) fun r1 hi1=> ?_
 dsimp only[xj]at hi1 ⊢
 have hv:=hi1
 apply iI<;>intro hc2
 refine aH (aX ?_)
 refine aR ([⟨0,1,3,1,p.g1,p.com0,0,0,(.slice none 0 0),[],(.slice none 0 0),[],r1.h1,r1.e1,(.slice none 0 0),[]⟩]:List Fx) ?_
 refine fv (eU ?_)
 refine ac fun L1=> ?_
 refine ac fun d1=> ?_
 refine ac fun o1=> ?_
 refine ac fun u1=> ?_
 refine iJ fun hi3=> ?_
 have apL1:=fw hi3
 have lnL1:=apL1.len
 apply iI<;>intro hc4
 refine aH (aX ?_)
 refine aR ([⟨0,2,3,1,p.g2,p.com0,0,0,(.slice none 0 0),[],(.slice none 0 0),[],r1.h2,r1.e2,(.slice none 0 0),[]⟩]:List Fx) ?_
 refine fv (eU ?_)
 refine ac fun L2=> ?_
 refine ac fun d2=> ?_
 refine ac fun o2=> ?_
 refine ac fun u2=> ?_
 refine iJ fun hi5=> ?_
 have apL2:=fw hi5
 have lnL2:=apL2.len
 apply iI<;>intro hc6
 refine aH (aX ?_)
 refine aR ([⟨0,3,3,1,p.g3,p.com0,0,0,(.slice none 0 0),[],(.slice none 0 0),[],r1.h3,r1.e3,(.slice none 0 0),[]⟩]:List Fx) ?_
 refine fv (eU ?_)
 refine ac fun L3=> ?_
 refine ac fun d3=> ?_
 refine ac fun o3=> ?_
 refine ac fun u3=> ?_
 refine iJ fun hi7=> ?_
 have apL3:=fw hi7
 have lnL3:=apL3.len
 exact zH (p:=p) hK (by dsimp only[lZ]<;>(first|(exfalso;omega)|(exfalso;simp only[apw,apy]at*;omega)|(have ap:=((apL1).trans apL2).trans apL3;(try simp only[apC,apD]at ap);(rw[hv.1,hv.2.1,hv.2.2]at ap;exact⟨_,_,_,ap⟩))))
 exact zH (p:=p) hK (by dsimp only[lZ]<;>(first|(exfalso;omega)|(exfalso;simp only[apw,apy]at*;omega)|(have ap:=(apL1).trans apL2;(try simp only[apC,apD]at ap);(rw[hv.1,hv.2.1,hv.2.2]at ap;exact⟨_,_,_,ap⟩))))
 exact zH (p:=p) hK (by dsimp only[lZ]<;>(first|(exfalso;omega)|(exfalso;simp only[apw,apy]at*;omega)|(have ap:=apL1;(try simp only[apC,apD]at ap);(rw[hv.1,hv.2.1,hv.2.2]at ap;exact⟨_,_,_,ap⟩))))
 exact zH (p:=p) hK (by dsimp only[lZ]<;>(first|(exfalso;omega)|(exfalso;simp only[apw,apy]at*;omega)|(have ap:=Ap.nil (by omega);(try simp only[apC,apD]at ap);(rw[hv.1,hv.2.1,hv.2.2]at ap;exact⟨_,_,_,ap⟩))))
noncomputable def Rk:NN:=bB RH (nE ti aeX) [(0,4),(1,1)] (fun us=>Nat.beq (gi us 1) 0)
abbrev pv:=lR
abbrev Fq:=eJ
def ql (p:pv) (r:Fq):Prop:=Ap r.L r.a p.L p.a []
noncomputable def SG (p:pv):IE:=([.ptr 0 0,.int 0 (.ofNat 1)],(iH p.l0 p.com0 p.g0 p.g1 p.g2 p.g3 p.l1 p.com1 p.l2 p.com2 p.l3 p.com3 p.L p.a p.o p.cp p.now p.cnt),44)
noncomputable def Cc (p:pv) (K:KE) (r:Fq):Bool:=K (.tup []) (iH p.l0 p.com0 p.g0 p.g1 p.g2 p.g3 p.l1 p.com1 p.l2 p.com2 p.l3 p.com3 r.L r.a r.o r.cp (p.now+1) p.cnt) 44
noncomputable def HW (p:pv) (K:KE):Bool:=ae fun r=>iP (ql p r) (Cc p K r) true
def si (p:pv):Prop:=Bs p.now p.L p.a
theorem Yb {p:pv} {K:KE} (hK:HW p K=true) {r:Fq} (h:ql p r):Cc p K r=true:=ax h (aq hK r)
theorem aan:Vf si HW 1 Rk aJ xI SG:=by
 intro p K hpre hK
 refine Eq.trans (b:=(mP (aI 0 (p.now+1)) (aL Tn sP ⟨p.l1,p.com1,p.now+1⟩ fun p1=>Cc {p with l1:=p1.l1,com1:=p1.com1} K ⟨p.L,p.a,p.o,p.cp⟩))) (by kernel_rfl) ?_
 dsimp only[si]at hpre
 obtain⟨n0,n1,n2,n3,n4⟩:=hpre
 refine dc ?_
 refine aV (by(try dsimp only[sP]);repeat(first|assumption|omega|apply And.intro)) ?_
 dsimp only
 exact Yb (p:=p) hK (by dsimp only[ql]<;>(first|(exfalso;omega)|(exfalso;simp only[apw,apy]at*;omega)|(have ap:=Ap.nil (by omega);(try simp only[apC,apD]at ap);exact ap)))
noncomputable def IR:NN:=bB Rk (nE ti aan) [(0,4),(1,1)] (fun us=>Nat.beq (gi us 1) 1)
abbrev pu:=lR
abbrev Fp:=eJ
def qk (p:pu) (r:Fp):Prop:=Ap r.L r.a p.L p.a []
noncomputable def SE (p:pu):IE:=([.ptr 0 0,.int 0 (.ofNat 2)],(iH p.l0 p.com0 p.g0 p.g1 p.g2 p.g3 p.l1 p.com1 p.l2 p.com2 p.l3 p.com3 p.L p.a p.o p.cp p.now p.cnt),44)
noncomputable def Cb (p:pu) (K:KE) (r:Fp):Bool:=K (.tup []) (iH p.l0 p.com0 p.g0 p.g1 p.g2 p.g3 p.l1 p.com1 p.l2 p.com2 p.l3 p.com3 r.L r.a r.o r.cp (p.now+1) p.cnt) 44
noncomputable def HV (p:pu) (K:KE):Bool:=ae fun r=>iP (qk p r) (Cb p K r) true
def sg (p:pu):Prop:=Bs p.now p.L p.a
theorem Ya {p:pu} {K:KE} (hK:HV p K=true) {r:Fp} (h:qk p r):Cb p K r=true:=ax h (aq hK r)
theorem aam:Vf sg HV 1 IR aJ xI SE:=by
 intro p K hpre hK
 refine Eq.trans (b:=(mP (aI 0 (p.now+1)) (aL Tm sO ⟨p.l2,p.com2,p.now+1⟩ fun p1=>Cb {p with l2:=p1.l2,com2:=p1.com2} K ⟨p.L,p.a,p.o,p.cp⟩))) (by kernel_rfl) ?_
 dsimp only[sg]at hpre
 obtain⟨n0,n1,n2,n3,n4⟩:=hpre
 refine dc ?_
 refine aV (by(try dsimp only[sO]);repeat(first|assumption|omega|apply And.intro)) ?_
 dsimp only
 exact Ya (p:=p) hK (by dsimp only[qk]<;>(first|(exfalso;omega)|(exfalso;simp only[apw,apy]at*;omega)|(have ap:=Ap.nil (by omega);(try simp only[apC,apD]at ap);exact ap)))
noncomputable def IQ:NN:=bB IR (nE ti aam) [(0,4),(1,1)] (fun us=>Nat.beq (gi us 1) 2)
abbrev pt:=lR
abbrev Fo:=eJ
def qj (p:pt) (r:Fo):Prop:=Ap r.L r.a p.L p.a []
noncomputable def SD (p:pt):IE:=([.ptr 0 0,.int 0 (.ofNat 3)],(iH p.l0 p.com0 p.g0 p.g1 p.g2 p.g3 p.l1 p.com1 p.l2 p.com2 p.l3 p.com3 p.L p.a p.o p.cp p.now p.cnt),44)
noncomputable def Ca (p:pt) (K:KE) (r:Fo):Bool:=K (.tup []) (iH p.l0 p.com0 p.g0 p.g1 p.g2 p.g3 p.l1 p.com1 p.l2 p.com2 p.l3 p.com3 r.L r.a r.o r.cp (p.now+1) p.cnt) 44
noncomputable def HU (p:pt) (K:KE):Bool:=ae fun r=>iP (qj p r) (Ca p K r) true
def rZ (p:pt):Prop:=Bs p.now p.L p.a
theorem XZ {p:pt} {K:KE} (hK:HU p K=true) {r:Fo} (h:qj p r):Ca p K r=true:=ax h (aq hK r)
theorem aal:Vf rZ HU 1 IQ aJ xI SD:=by
 intro p K hpre hK
 refine Eq.trans (b:=(mP (aI 0 (p.now+1)) (aL Tk sN ⟨p.l3,p.com3,p.now+1⟩ fun p1=>Ca {p with l3:=p1.l3,com3:=p1.com3} K ⟨p.L,p.a,p.o,p.cp⟩))) (by kernel_rfl) ?_
 dsimp only[rZ]at hpre
 obtain⟨n0,n1,n2,n3,n4⟩:=hpre
 refine dc ?_
 refine aV (by(try dsimp only[sN]);repeat(first|assumption|omega|apply And.intro)) ?_
 dsimp only
 exact XZ (p:=p) hK (by dsimp only[qj]<;>(first|(exfalso;omega)|(exfalso;simp only[apw,apy]at*;omega)|(have ap:=Ap.nil (by omega);(try simp only[apC,apD]at ap);exact ap)))
noncomputable def IP:NN:=bB IQ (nE ti aal) [(0,4),(1,1)] (fun us=>Nat.beq (gi us 1) 3)
def kD:XF:=DA
theorem ik:bN Tryz.prog 29 kD=true:=by kernel_rfl
structure fW where (l0:List Ke) (com0 g0 g1 g2 g3:Int) (l1:List Ke) (com1:Int) (l2:List Ke) (com2:Int) (l3:List Ke) (com3:Int) (L:List Fx) (a o cp:Nat) (now cnt x_n x_c:Int) (x_vh:Value) (x_vl:List Int) (x_mh:Value) (x_ml:List Int) (x_h:Value) (x_l:List Ke) (x_th:Value) (x_tl:List Ke)
abbrev FD:=zZ
def mU (p:fW) (r:FD):Prop:=r.l1=p.l1++p.x_l∧r.com1=max p.com1 (min p.x_c (r.l1.length:Int))∧Ap r.L r.a p.L p.a [(⟨1,0,4,1,(r.l1.length:Int),0,0,0,(.slice none 0 0),[],(.slice none 0 0),[],(.slice none 0 0),[],(.slice none 0 0),[]⟩:Fx)]
noncomputable def SS (p:fW):IE:=([.ptr 0 0,hU 0 1 3 1 p.x_n p.x_c 0 [] 0 p.x_vh p.x_vl p.x_mh p.x_ml p.x_h p.x_l p.x_th p.x_tl],(iH p.l0 p.com0 p.g0 p.g1 p.g2 p.g3 p.l1 p.com1 p.l2 p.com2 p.l3 p.com3 p.L p.a p.o p.cp p.now p.cnt),44)
noncomputable def uF (p:fW) (K:KE) (r:FD):Bool:=K (.tup []) (iH p.l0 p.com0 p.g0 p.g1 p.g2 p.g3 r.l1 r.com1 p.l2 p.com2 p.l3 p.com3 r.L r.a r.o r.cp p.now p.cnt) 44
noncomputable def Im (p:fW) (K:KE):Bool:=ae fun r=>iP (mU p r) (uF p K r) true
def sx (p:fW):Prop:=Bs p.now p.L p.a∧p.x_vl=[]∧p.x_ml=[]∧p.x_tl=[]∧p.x_n=(p.l1.length:Int)∧bF p.x_l∧p.l1.length+p.x_l.length≤400∧0≤(p.l1.length:Int)∧0≤p.x_c∧p.x_c≤400∧0≤0
theorem Kb {p:fW} {K:KE} (hK:Im p K=true) {r:FD} (h:mU p r):uF p K r=true:=ax h (aq hK r)
theorem aaC:Vf sx Im 1 IP aJ kD SS:=by
 intro p K hpre hK
 refine Eq.trans (b:=(mE (.int 0 p.now) (aa (qL [qI 3 p.x_n,qI 3 p.x_c,qY ((.imm p.x_vh 2 Int p.x_vl aG)),qY ((.imm p.x_mh 2 Int p.x_ml aG)),qY ((.imm p.x_h 18 Ke p.x_l au)),qY ((.imm p.x_th 18 Ke p.x_tl au))]) (ay Tw sW qB ⟨p.l1,p.com1,p.x_n,p.x_c,p.x_vh,p.x_vl,p.x_mh,p.x_ml,p.x_h,p.x_l,p.x_th,p.x_tl,p.now⟩ fun p1 r1=>iP (((p.L.length - p.a:Nat):Int)<(400:Int)) (mE (.psub 3 33 p.a (p.L.length - p.a) p.o (some p.cp)) (mP (p.a+(p.L.length - p.a)=p.L.length) (aM fun m1:List Fx=>mP (bg (m1.map dA) (QS 1 0 1 (r1.l1.length:Int) [])) (mP (bQ 232 (p.L.length+m1.length)) (ae fun L1:List Fx=>ae fun d1:Nat=>ae fun o1:Nat=>ae fun u1:Nat=>iP (d1≤L1.length∧L1.length≤p.L.length+m1.length∧L1.drop d1=p.L.drop p.a++m1) (uF p K ⟨r1.l1,r1.com1,L1,d1,o1,u1⟩) true))))) (uF p K ⟨r1.l1,r1.com1,p.L,p.a,p.o,p.cp⟩))))) (by kernel_rfl) ?_
 dsimp only[sx]at hpre
 obtain⟨⟨n0,n1,n2,n3,n4⟩,hx⟩:=hpre
 obtain⟨hx1,hx2,hx3,hn,hks,hlen,hb,hq1,hq2,hb0⟩:=hx
 refine aH ?_
 refine cq ?_
 refine aF (by(try dsimp only[sW]);repeat(first|assumption|omega|apply And.intro)) fun r1 hi1=> ?_
 dsimp only[qB]at hi1
 have hv:=hi1
 apply iI<;>intro hc2
 refine aH (aX ?_)
 refine aR ([⟨1,0,4,1,(r1.l1.length:Int),0,0,0,(.slice none 0 0),[],(.slice none 0 0),[],(.slice none 0 0),[],(.slice none 0 0),[]⟩]:List Fx) ?_
 refine fv (eU ?_)
 refine ac fun L1=> ?_
 refine ac fun d1=> ?_
 refine ac fun o1=> ?_
 refine ac fun u1=> ?_
 refine iJ fun hi3=> ?_
 have apL1:=fw hi3
 have lnL1:=apL1.len
 exact Kb hK (by dsimp only[mU]<;>(first|(exfalso;omega)|(exfalso;simp only[apw,apy]at*;omega)|(have ap:=apL1;(try simp only[apC,apD]at ap);exact⟨hv.1,hv.2,ap⟩)))
 exact Kb hK (by dsimp only[mU]<;>(first|(exfalso;omega)|(exfalso;simp only[apw,apy]at*;omega)|(have ap:=Ap.nil (by omega);(try simp only[apC,apD]at ap);exact⟨hv.1,hv.2,ap⟩)))
noncomputable def Jc:NN:=bB IP (nE ik aaC) [(0,4),(1,15)] (fun us=>aA (aA (Nat.beq (aC us 1 0) 0) (Nat.beq (aC us 1 1) 1)) (Nat.beq (aC us 1 2) 3))
abbrev pD:=fW
abbrev Fz:=zX
def qt (p:pD) (r:Fz):Prop:=r.g0=(p.l0.length:Int)∧r.g1=max p.g1 p.x_n∧ib 3 p.com0 r.com0 [r.g0,r.g1,p.g2,p.g3]∧Ap r.L r.a p.L p.a []
noncomputable def SM (p:pD):IE:=([.ptr 0 0,hU 1 0 4 1 p.x_n p.x_c 0 [] 0 p.x_vh p.x_vl p.x_mh p.x_ml p.x_h p.x_l p.x_th p.x_tl],(iH p.l0 p.com0 p.g0 p.g1 p.g2 p.g3 p.l1 p.com1 p.l2 p.com2 p.l3 p.com3 p.L p.a p.o p.cp p.now p.cnt),44)
noncomputable def Cm (p:pD) (K:KE) (r:Fz):Bool:=K (.tup []) (iH p.l0 r.com0 r.g0 r.g1 p.g2 p.g3 p.l1 p.com1 p.l2 p.com2 p.l3 p.com3 r.L r.a r.o r.cp p.now p.cnt) 44
noncomputable def Ie (p:pD) (K:KE):Bool:=ae fun r=>iP (qt p r) (Cm p K r) true
def sq (p:pD):Prop:=Bs p.now p.L p.a∧p.x_vl=[]∧p.x_ml=[]∧p.x_l=[]∧p.x_tl=[]∧0≤p.x_n∧p.x_n≤(p.l0.length:Int)∧p.l0.length≤400∧p.x_c=0
theorem Yi {p:pD} {K:KE} (hK:Ie p K=true) {r:Fz} (h:qt p r):Cm p K r=true:=ax h (aq hK r)
theorem aau:Vf sq Ie 1 Jc aJ kD SM:=by
 intro p K hpre hK
 refine Eq.trans (b:=(mE (.int 0 p.now) (aa (qL [qI 3 p.x_n,qI 3 p.x_c,qY ((.imm p.x_vh 2 Int p.x_vl aG)),qY ((.imm p.x_mh 2 Int p.x_ml aG)),qY ((.imm p.x_h 18 Ke p.x_l au)),qY ((.imm p.x_th 18 Ke p.x_tl au))]) (ay Tg sJ nc ⟨p.l0,p.com0,p.g0,p.g1,p.g2,p.g3,p.x_n,p.x_c,p.x_vh,p.x_vl,p.x_mh,p.x_ml,p.x_h,p.x_l,p.x_th,p.x_tl,p.now⟩ fun p1 r1=>Cm {p with l0:=p1.l0,g2:=p1.g2,g3:=p1.g3} K ⟨r1.com0,r1.g0,r1.g1,p.L,p.a,p.o,p.cp⟩)))) (by kernel_rfl) ?_
 dsimp only[sq]at hpre
 obtain⟨⟨n0,n1,n2,n3,n4⟩,hx⟩:=hpre
 obtain⟨hx1,hx2,hx3,hx4,hx5,hx6,hx7,hx8⟩:=hx
 refine aH ?_
 refine cq ?_
 refine aF (by(try dsimp only[sJ]);repeat(first|assumption|omega|apply And.intro)) fun r1 hi1=> ?_
 dsimp only[nc]at hi1 ⊢
 have hv:=hi1
 exact Yi (p:=p) hK (by dsimp only[qt]<;>(first|(exfalso;omega)|(exfalso;simp only[apw,apy]at*;omega)|(have ap:=Ap.nil (by omega);(try simp only[apC,apD]at ap);exact⟨hv.1,hv.2.1,hv.2.2,ap⟩)))
noncomputable def IW:NN:=bB Jc (nE ik aau) [(0,4),(1,15)] (fun us=>aA (aA (Nat.beq (aC us 1 0) 1) (Nat.beq (aC us 1 1) 0)) (Nat.beq (aC us 1 2) 4))
abbrev pJ:=fW
abbrev FC:=pq
def mT (p:pJ) (r:FC):Prop:=r.l2=p.l2++p.x_l∧r.com2=max p.com2 (min p.x_c (r.l2.length:Int))∧Ap r.L r.a p.L p.a [(⟨2,0,4,1,(r.l2.length:Int),0,0,0,(.slice none 0 0),[],(.slice none 0 0),[],(.slice none 0 0),[],(.slice none 0 0),[]⟩:Fx)]
noncomputable def SQ (p:pJ):IE:=([.ptr 0 0,hU 0 2 3 1 p.x_n p.x_c 0 [] 0 p.x_vh p.x_vl p.x_mh p.x_ml p.x_h p.x_l p.x_th p.x_tl],(iH p.l0 p.com0 p.g0 p.g1 p.g2 p.g3 p.l1 p.com1 p.l2 p.com2 p.l3 p.com3 p.L p.a p.o p.cp p.now p.cnt),44)
noncomputable def uE (p:pJ) (K:KE) (r:FC):Bool:=K (.tup []) (iH p.l0 p.com0 p.g0 p.g1 p.g2 p.g3 p.l1 p.com1 r.l2 r.com2 p.l3 p.com3 r.L r.a r.o r.cp p.now p.cnt) 44
noncomputable def Il (p:pJ) (K:KE):Bool:=ae fun r=>iP (mT p r) (uE p K r) true
def sw (p:pJ):Prop:=Bs p.now p.L p.a∧p.x_vl=[]∧p.x_ml=[]∧p.x_tl=[]∧p.x_n=(p.l2.length:Int)∧bF p.x_l∧p.l2.length+p.x_l.length≤400∧0≤(p.l2.length:Int)∧0≤p.x_c∧p.x_c≤400∧0≤0
theorem Ka {p:pJ} {K:KE} (hK:Il p K=true) {r:FC} (h:mT p r):uE p K r=true:=ax h (aq hK r)
theorem aaB:Vf sw Il 1 IW aJ kD SQ:=by
 intro p K hpre hK
 refine Eq.trans (b:=(mE (.int 0 p.now) (aa (qL [qI 3 p.x_n,qI 3 p.x_c,qY ((.imm p.x_vh 2 Int p.x_vl aG)),qY ((.imm p.x_mh 2 Int p.x_ml aG)),qY ((.imm p.x_h 18 Ke p.x_l au)),qY ((.imm p.x_th 18 Ke p.x_tl au))]) (ay Tu sV qA ⟨p.l2,p.com2,p.x_n,p.x_c,p.x_vh,p.x_vl,p.x_mh,p.x_ml,p.x_h,p.x_l,p.x_th,p.x_tl,p.now⟩ fun p1 r1=>iP (((p.L.length - p.a:Nat):Int)<(400:Int)) (mE (.psub 3 33 p.a (p.L.length - p.a) p.o (some p.cp)) (mP (p.a+(p.L.length - p.a)=p.L.length) (aM fun m1:List Fx=>mP (bg (m1.map dA) (QS 2 0 1 (r1.l2.length:Int) [])) (mP (bQ 232 (p.L.length+m1.length)) (ae fun L1:List Fx=>ae fun d1:Nat=>ae fun o1:Nat=>ae fun u1:Nat=>iP (d1≤L1.length∧L1.length≤p.L.length+m1.length∧L1.drop d1=p.L.drop p.a++m1) (uE p K ⟨r1.l2,r1.com2,L1,d1,o1,u1⟩) true))))) (uE p K ⟨r1.l2,r1.com2,p.L,p.a,p.o,p.cp⟩))))) (by kernel_rfl) ?_
 dsimp only[sw]at hpre
 obtain⟨⟨n0,n1,n2,n3,n4⟩,hx⟩:=hpre
 obtain⟨hx1,hx2,hx3,hn,hks,hlen,hb,hq1,hq2,hb0⟩:=hx
 refine aH ?_
 refine cq ?_
 refine aF (by(try dsimp only[sV]);repeat(first|assumption|omega|apply And.intro)) fun r1 hi1=> ?_
 dsimp only[qA]at hi1
 have hv:=hi1
 apply iI<;>intro hc2
 refine aH (aX ?_)
 refine aR ([⟨2,0,4,1,(r1.l2.length:Int),0,0,0,(.slice none 0 0),[],(.slice none 0 0),[],(.slice none 0 0),[],(.slice none 0 0),[]⟩]:List Fx) ?_
 refine fv (eU ?_)
 refine ac fun L1=> ?_
 refine ac fun d1=> ?_
 refine ac fun o1=> ?_
 refine ac fun u1=> ?_
 refine iJ fun hi3=> ?_
 have apL1:=fw hi3
 have lnL1:=apL1.len
 exact Ka hK (by dsimp only[mT]<;>(first|(exfalso;omega)|(exfalso;simp only[apw,apy]at*;omega)|(have ap:=apL1;(try simp only[apC,apD]at ap);exact⟨hv.1,hv.2,ap⟩)))
 exact Ka hK (by dsimp only[mT]<;>(first|(exfalso;omega)|(exfalso;simp only[apw,apy]at*;omega)|(have ap:=Ap.nil (by omega);(try simp only[apC,apD]at ap);exact⟨hv.1,hv.2,ap⟩)))
noncomputable def Jb:NN:=bB IW (nE ik aaB) [(0,4),(1,15)] (fun us=>aA (aA (Nat.beq (aC us 1 0) 0) (Nat.beq (aC us 1 1) 2)) (Nat.beq (aC us 1 2) 3))
abbrev pC:=fW
abbrev Fy:=zW
def qq (p:pC) (r:Fy):Prop:=r.g0=(p.l0.length:Int)∧r.g2=max p.g2 p.x_n∧ib 3 p.com0 r.com0 [r.g0,p.g1,r.g2,p.g3]∧Ap r.L r.a p.L p.a []
noncomputable def SK (p:pC):IE:=([.ptr 0 0,hU 2 0 4 1 p.x_n p.x_c 0 [] 0 p.x_vh p.x_vl p.x_mh p.x_ml p.x_h p.x_l p.x_th p.x_tl],(iH p.l0 p.com0 p.g0 p.g1 p.g2 p.g3 p.l1 p.com1 p.l2 p.com2 p.l3 p.com3 p.L p.a p.o p.cp p.now p.cnt),44)
noncomputable def Cl (p:pC) (K:KE) (r:Fy):Bool:=K (.tup []) (iH p.l0 r.com0 r.g0 p.g1 r.g2 p.g3 p.l1 p.com1 p.l2 p.com2 p.l3 p.com3 r.L r.a r.o r.cp p.now p.cnt) 44
noncomputable def Ic (p:pC) (K:KE):Bool:=ae fun r=>iP (qq p r) (Cl p K r) true
def so (p:pC):Prop:=Bs p.now p.L p.a∧p.x_vl=[]∧p.x_ml=[]∧p.x_l=[]∧p.x_tl=[]∧0≤p.x_n∧p.x_n≤(p.l0.length:Int)∧p.l0.length≤400∧p.x_c=0
theorem Yh {p:pC} {K:KE} (hK:Ic p K=true) {r:Fy} (h:qq p r):Cl p K r=true:=ax h (aq hK r)
theorem aat:Vf so Ic 1 Jb aJ kD SK:=by
 intro p K hpre hK
 refine Eq.trans (b:=(mE (.int 0 p.now) (aa (qL [qI 3 p.x_n,qI 3 p.x_c,qY ((.imm p.x_vh 2 Int p.x_vl aG)),qY ((.imm p.x_mh 2 Int p.x_ml aG)),qY ((.imm p.x_h 18 Ke p.x_l au)),qY ((.imm p.x_th 18 Ke p.x_tl au))]) (ay Tf sI na ⟨p.l0,p.com0,p.g0,p.g1,p.g2,p.g3,p.x_n,p.x_c,p.x_vh,p.x_vl,p.x_mh,p.x_ml,p.x_h,p.x_l,p.x_th,p.x_tl,p.now⟩ fun p1 r1=>Cl {p with l0:=p1.l0,g1:=p1.g1,g3:=p1.g3} K ⟨r1.com0,r1.g0,r1.g2,p.L,p.a,p.o,p.cp⟩)))) (by kernel_rfl) ?_
 dsimp only[so]at hpre
 obtain⟨⟨n0,n1,n2,n3,n4⟩,hx⟩:=hpre
 obtain⟨hx1,hx2,hx3,hx4,hx5,hx6,hx7,hx8⟩:=hx
 refine aH ?_
 refine cq ?_
 refine aF (by(try dsimp only[sI]);repeat(first|assumption|omega|apply And.intro)) fun r1 hi1=> ?_
 dsimp only[na]at hi1 ⊢
 have hv:=hi1
 exact Yh (p:=p) hK (by dsimp only[qq]<;>(first|(exfalso;omega)|(exfalso;simp only[apw,apy]at*;omega)|(have ap:=Ap.nil (by omega);(try simp only[apC,apD]at ap);exact⟨hv.1,hv.2.1,hv.2.2,ap⟩)))
noncomputable def IV:NN:=bB Jb (nE ik aat) [(0,4),(1,15)] (fun us=>aA (aA (Nat.beq (aC us 1 0) 2) (Nat.beq (aC us 1 1) 0)) (Nat.beq (aC us 1 2) 4))
abbrev pI:=fW
abbrev FB:=zY
def mS (p:pI) (r:FB):Prop:=r.l3=p.l3++p.x_l∧r.com3=max p.com3 (min p.x_c (r.l3.length:Int))∧Ap r.L r.a p.L p.a [(⟨3,0,4,1,(r.l3.length:Int),0,0,0,(.slice none 0 0),[],(.slice none 0 0),[],(.slice none 0 0),[],(.slice none 0 0),[]⟩:Fx)]
noncomputable def SP (p:pI):IE:=([.ptr 0 0,hU 0 3 3 1 p.x_n p.x_c 0 [] 0 p.x_vh p.x_vl p.x_mh p.x_ml p.x_h p.x_l p.x_th p.x_tl],(iH p.l0 p.com0 p.g0 p.g1 p.g2 p.g3 p.l1 p.com1 p.l2 p.com2 p.l3 p.com3 p.L p.a p.o p.cp p.now p.cnt),44)
noncomputable def uD (p:pI) (K:KE) (r:FB):Bool:=K (.tup []) (iH p.l0 p.com0 p.g0 p.g1 p.g2 p.g3 p.l1 p.com1 p.l2 p.com2 r.l3 r.com3 r.L r.a r.o r.cp p.now p.cnt) 44
noncomputable def Ik (p:pI) (K:KE):Bool:=ae fun r=>iP (mS p r) (uD p K r) true
def su (p:pI):Prop:=Bs p.now p.L p.a∧p.x_vl=[]∧p.x_ml=[]∧p.x_tl=[]∧p.x_n=(p.l3.length:Int)∧bF p.x_l∧p.l3.length+p.x_l.length≤400∧0≤(p.l3.length:Int)∧0≤p.x_c∧p.x_c≤400∧0≤0
theorem JZ {p:pI} {K:KE} (hK:Ik p K=true) {r:FB} (h:mS p r):uD p K r=true:=ax h (aq hK r)
theorem aaA:Vf su Ik 1 IV aJ kD SP:=by
 intro p K hpre hK
 refine Eq.trans (b:=(mE (.int 0 p.now) (aa (qL [qI 3 p.x_n,qI 3 p.x_c,qY ((.imm p.x_vh 2 Int p.x_vl aG)),qY ((.imm p.x_mh 2 Int p.x_ml aG)),qY ((.imm p.x_h 18 Ke p.x_l au)),qY ((.imm p.x_th 18 Ke p.x_tl au))]) (ay Tt sU qz ⟨p.l3,p.com3,p.x_n,p.x_c,p.x_vh,p.x_vl,p.x_mh,p.x_ml,p.x_h,p.x_l,p.x_th,p.x_tl,p.now⟩ fun p1 r1=>iP (((p.L.length - p.a:Nat):Int)<(400:Int)) (mE (.psub 3 33 p.a (p.L.length - p.a) p.o (some p.cp)) (mP (p.a+(p.L.length - p.a)=p.L.length) (aM fun m1:List Fx=>mP (bg (m1.map dA) (QS 3 0 1 (r1.l3.length:Int) [])) (mP (bQ 232 (p.L.length+m1.length)) (ae fun L1:List Fx=>ae fun d1:Nat=>ae fun o1:Nat=>ae fun u1:Nat=>iP (d1≤L1.length∧L1.length≤p.L.length+m1.length∧L1.drop d1=p.L.drop p.a++m1) (uD p K ⟨r1.l3,r1.com3,L1,d1,o1,u1⟩) true))))) (uD p K ⟨r1.l3,r1.com3,p.L,p.a,p.o,p.cp⟩))))) (by kernel_rfl) ?_
 dsimp only[su]at hpre
 obtain⟨⟨n0,n1,n2,n3,n4⟩,hx⟩:=hpre
 obtain⟨hx1,hx2,hx3,hn,hks,hlen,hb,hq1,hq2,hb0⟩:=hx
 refine aH ?_
 refine cq ?_
 refine aF (by(try dsimp only[sU]);repeat(first|assumption|omega|apply And.intro)) fun r1 hi1=> ?_
 dsimp only[qz]at hi1
 have hv:=hi1
 apply iI<;>intro hc2
 refine aH (aX ?_)
 refine aR ([⟨3,0,4,1,(r1.l3.length:Int),0,0,0,(.slice none 0 0),[],(.slice none 0 0),[],(.slice none 0 0),[],(.slice none 0 0),[]⟩]:List Fx) ?_
 refine fv (eU ?_)
 refine ac fun L1=> ?_
 refine ac fun d1=> ?_
 refine ac fun o1=> ?_
 refine ac fun u1=> ?_
 refine iJ fun hi3=> ?_
 have apL1:=fw hi3
 have lnL1:=apL1.len
 exact JZ hK (by dsimp only[mS]<;>(first|(exfalso;omega)|(exfalso;simp only[apw,apy]at*;omega)|(have ap:=apL1;(try simp only[apC,apD]at ap);exact⟨hv.1,hv.2,ap⟩)))
 exact JZ hK (by dsimp only[mS]<;>(first|(exfalso;omega)|(exfalso;simp only[apw,apy]at*;omega)|(have ap:=Ap.nil (by omega);(try simp only[apC,apD]at ap);exact⟨hv.1,hv.2,ap⟩)))
noncomputable def Ja:NN:=bB IV (nE ik aaA) [(0,4),(1,15)] (fun us=>aA (aA (Nat.beq (aC us 1 0) 0) (Nat.beq (aC us 1 1) 3)) (Nat.beq (aC us 1 2) 3))
abbrev pB:=fW
structure Fw where (com0 g0 g3:Int) (L:List Fx) (a o cp:Nat)
def qp (p:pB) (r:Fw):Prop:=r.g0=(p.l0.length:Int)∧r.g3=max p.g3 p.x_n∧ib 3 p.com0 r.com0 [r.g0,p.g1,p.g2,r.g3]∧Ap r.L r.a p.L p.a []
noncomputable def SJ (p:pB):IE:=([.ptr 0 0,hU 3 0 4 1 p.x_n p.x_c 0 [] 0 p.x_vh p.x_vl p.x_mh p.x_ml p.x_h p.x_l p.x_th p.x_tl],(iH p.l0 p.com0 p.g0 p.g1 p.g2 p.g3 p.l1 p.com1 p.l2 p.com2 p.l3 p.com3 p.L p.a p.o p.cp p.now p.cnt),44)
noncomputable def Ck (p:pB) (K:KE) (r:Fw):Bool:=K (.tup []) (iH p.l0 r.com0 r.g0 p.g1 p.g2 r.g3 p.l1 p.com1 p.l2 p.com2 p.l3 p.com3 r.L r.a r.o r.cp p.now p.cnt) 44
noncomputable def Ib (p:pB) (K:KE):Bool:=ae fun r=>iP (qp p r) (Ck p K r) true
def sn (p:pB):Prop:=Bs p.now p.L p.a∧p.x_vl=[]∧p.x_ml=[]∧p.x_l=[]∧p.x_tl=[]∧0≤p.x_n∧p.x_n≤(p.l0.length:Int)∧p.l0.length≤400∧p.x_c=0
theorem Yg {p:pB} {K:KE} (hK:Ib p K=true) {r:Fw} (h:qp p r):Ck p K r=true:=ax h (aq hK r)
theorem aas:Vf sn Ib 1 Ja aJ kD SJ:=by
 intro p K hpre hK
 refine Eq.trans (b:=(mE (.int 0 p.now) (aa (qL [qI 3 p.x_n,qI 3 p.x_c,qY ((.imm p.x_vh 2 Int p.x_vl aG)),qY ((.imm p.x_mh 2 Int p.x_ml aG)),qY ((.imm p.x_h 18 Ke p.x_l au)),qY ((.imm p.x_th 18 Ke p.x_tl au))]) (ay Te sH mZ ⟨p.l0,p.com0,p.g0,p.g1,p.g2,p.g3,p.x_n,p.x_c,p.x_vh,p.x_vl,p.x_mh,p.x_ml,p.x_h,p.x_l,p.x_th,p.x_tl,p.now⟩ fun p1 r1=>Ck {p with l0:=p1.l0,g1:=p1.g1,g2:=p1.g2} K ⟨r1.com0,r1.g0,r1.g3,p.L,p.a,p.o,p.cp⟩)))) (by kernel_rfl) ?_
 dsimp only[sn]at hpre
 obtain⟨⟨n0,n1,n2,n3,n4⟩,hx⟩:=hpre
 obtain⟨hx1,hx2,hx3,hx4,hx5,hx6,hx7,hx8⟩:=hx
 refine aH ?_
 refine cq ?_
 refine aF (by(try dsimp only[sH]);repeat(first|assumption|omega|apply And.intro)) fun r1 hi1=> ?_
 dsimp only[mZ]at hi1 ⊢
 have hv:=hi1
 exact Yg (p:=p) hK (by dsimp only[qp]<;>(first|(exfalso;omega)|(exfalso;simp only[apw,apy]at*;omega)|(have ap:=Ap.nil (by omega);(try simp only[apC,apD]at ap);exact⟨hv.1,hv.2.1,hv.2.2,ap⟩)))
noncomputable def nat_zk4_1_3:NN:=bB Ja (nE ik aas) [(0,4),(1,15)] (fun us=>aA (aA (Nat.beq (aC us 1 0) 3) (Nat.beq (aC us 1 1) 0)) (Nat.beq (aC us 1 2) 4))
end Go.Proofs.Tryz
namespace Go.Proofs.Tryz
open Go Go.RowKit Go.Sy
open Go.Eng hiding ae
set_option maxRecDepth 1000000
set_option linter.unusedVariables false
set_option maxHeartbeats 4000000
def Fg:XC:=w_6 6 [0,0,0,1,2,3] [1,2,3,0,0,0] [3,3,3,4,4,4] [1,1,1,1,1,1] [0,0,0,0,0,0]
def Zb:XF:=.mk 54 .none (.seq (g_ 1 [p_ 0 4 (.mv (i_ 0))]) (.block 2 (.pre [.can 1 [0,1,4],.up 4,.can 1 [0,1,4]] (.inv 0 Fg))))
theorem abX:bN Tryz.prog 15 Zb=true:=by kernel_rfl
structure gw where (l0:List Ke) (com0 g0 g1 g2 g3:Int) (l1:List Ke) (com1:Int) (l2:List Ke) (com2:Int) (l3:List Ke) (com3:Int) (L:List Fx) (a o cp:Nat) (now cnt t:Int)
structure CR where (com0 g0 g1 g2 g3:Int) (l1:List Ke) (com1:Int) (l2:List Ke) (com2:Int) (l3:List Ke) (com3:Int) (L:List Fx) (a o cp:Nat) (now:Int)
def jP (p:gw) (r:CR):Prop:=r.l1=p.l0∧r.l2=p.l0∧r.l3=p.l0∧r.com0=(p.l0.length:Int)∧r.com1=(p.l0.length:Int)∧r.com2=(p.l0.length:Int)∧r.com3=(p.l0.length:Int)∧r.g1=(p.l0.length:Int)∧r.g2=(p.l0.length:Int)∧r.g3=(p.l0.length:Int)∧r.a=r.L.length∧(r.L.length:Int)≤p.L.length+16*(5 - p.t)∧0≤r.now∧r.now=p.now+4*(5 - p.t)
noncomputable def jk (p:gw):IL:=((.cons 4 (.sy (.int 0 p.t)) (.cons 1 (.int 0 (.ofNat 5)) (.cons 0 (.ptr 0 0) .nil))),(iH p.l0 p.com0 p.g0 p.g1 p.g2 p.g3 p.l1 p.com1 p.l2 p.com2 p.l3 p.com3 p.L p.a p.o p.cp p.now p.cnt),44)
noncomputable def EI (p:gw) (K:KC) (r:CR):Bool:=K 2 .nil (iH p.l0 r.com0 r.g0 r.g1 r.g2 r.g3 r.l1 r.com1 r.l2 r.com2 r.l3 r.com3 r.L r.a r.o r.cp r.now p.cnt) 44
noncomputable def uv (p:gw) (K:KC):Bool:=ae fun r=>iP (jP p r) (EI p K r) true
def ko (p:gw):Prop:=(0≤p.t∧p.t≤5)∧(0≤p.now∧p.now+4*(5 - p.t)≤999000)∧(p.a=p.L.length∧(p.L.length:Int)+16*(5 - p.t)≤900000)∧(bF p.l0∧p.l0.length≤400∧0≤p.com0∧p.com0≤(p.l0.length:Int))∧(p.g1=(p.l1.length:Int)∧p.l1++p.l0.drop p.l1.length=p.l0∧p.l0.length≤p.l1.length+16∧0≤p.com1∧p.com1≤(p.l1.length:Int))∧(p.g2=(p.l2.length:Int)∧p.l2++p.l0.drop p.l2.length=p.l0∧p.l0.length≤p.l2.length+16∧0≤p.com2∧p.com2≤(p.l2.length:Int))∧(p.g3=(p.l3.length:Int)∧p.l3++p.l0.drop p.l3.length=p.l0∧p.l0.length≤p.l3.length+16∧0≤p.com3∧p.com3≤(p.l3.length:Int))∧((1≤p.t→p.com0=(p.l0.length:Int)∧p.l1.length=p.l0.length∧p.l2.length=p.l0.length∧p.l3.length=p.l0.length))∧((2≤p.t→p.com1=(p.l0.length:Int)∧p.com2=(p.l0.length:Int)∧p.com3=(p.l0.length:Int)))
theorem ab8 {p:gw} {K:KC} (hK:uv p K=true) {r:CR} (h:jP p r):EI p K r=true:=ax h (aq hK r)
noncomputable def yq (p:gw) (K:KC):Bool:=aa (aN (ko p)) (uv p K)
noncomputable def GC:fx:=fun j S M nx K=>(Bool.rec (false) (aM fun p:gw=>aa (aN ((S,M,nx)=jk p)) (yq p K)) (Nat.beq j 0))
def iB (p:gw):Nat:=(5 - p.t).toNat
noncomputable def SA (s:IL) (n:Nat) (K:KC):Bool:=aM fun q=>mP (s=jk q∧iB q<n) (yq q K)
theorem aeu {p q:gw} {K:KC} (hm:iB q<iB p:=by dsimp only[iB]<;>(omega)) (hp:ko q:=by dsimp only[ko]<;>(repeat(first|with_reducible assumption|apply And.intro|(apply dS;with_reducible assumption)|(apply bD<;>with_reducible assumption)|exact y_1 (by assumption)|exact y_2 (by assumption)|exact y_3 (by assumption)|intro _|omega))) (hK:uv q K=true:=by exact(by refine ac fun r=>iI (fun hz=> ?_) (fun _=>rfl);dsimp only[jP]at hz;obtain⟨z0,z1,z2,z3,z4,z5,z6,z7,z8,z9,z10,zL,zn0,zn⟩:=hz;exact ax (show jP p r from(by dsimp only[jP];exact⟨z0,z1,z2,z3,z4,z5,z6,z7,z8,z9,z10,by omega,zn0,by omega⟩)) (aq hK r))):SA (jk q) (iB p) K=true:=aR q (bC ⟨rfl,hm⟩ (bC hp hK))
theorem acZ (p:gw) (K:KC) (hpre:ko p) (hK:uv p K=true):(dj (gN nat_zk4_1_3.1) GC 600 Fg (jk p).1 (jk p).2.1 (jk p).2.2 (fun e S M nx=>Nat.casesOn e (aM fun q:gw=>aa (aN ((S,M,nx)=jk q∧iB q<iB p)) (yq q K)) (fun e2=>K (Nat.succ e2) S M nx)))=true:=by
 refine Eq.trans (b:=(iP (p.t<(5:Int)) (ay ZH yG lZ ⟨p.l0,p.com0,p.g0,p.g1,p.g2,p.g3,p.l1,p.com1,p.l2,p.com2,p.l3,p.com3,p.L,p.a,p.o,p.cp,p.now,p.cnt⟩ fun p1 r1=>ay SG si ql ⟨p1.l0,p1.com0,p1.g0,p1.g1,p1.g2,p1.g3,p1.l1,p1.com1,p1.l2,p1.com2,p1.l3,p1.com3,r1.L,r1.a,r1.o,r1.cp,p1.now+1,p1.cnt⟩ fun p2 r2=>ay SE sg qk ⟨p2.l0,p2.com0,p2.g0,p2.g1,p2.g2,p2.g3,p2.l1,p2.com1,p2.l2,p2.com2,p2.l3,p2.com3,r2.L,r2.a,r2.o,r2.cp,p2.now+1,p2.cnt⟩ fun p3 r3=>ay SD rZ qj ⟨p3.l0,p3.com0,p3.g0,p3.g1,p3.g2,p3.g3,p3.l1,p3.com1,p3.l2,p3.com2,p3.l3,p3.com3,r3.L,r3.a,r3.o,r3.cp,p3.now+1,p3.cnt⟩ fun p4 r4=>rd r4.L r4.a (r4.L.length - r4.a) fun x1=>fR x1 0 1 3 1 0 0 (mL (r4.L.length - r4.a) (ay SS sx mU ⟨p4.l0,p4.com0,p4.g0,p4.g1,p4.g2,p4.g3,p4.l1,p4.com1,p4.l2,p4.com2,p4.l3,p4.com3,r4.L,r4.a+1,(if r4.cp=r4.a then r4.o else r4.a*33),r4.cp,p4.now+1,p4.cnt,x1.n,x1.c,x1.vh,x1.vl,x1.mh,x1.ml,x1.h,x1.l,x1.th,x1.tl⟩ fun p5 r5=>rd r5.L r5.a (r5.L.length - r5.a) fun x2=>fR x2 0 2 3 1 0 0 (mL (r5.L.length - r5.a) (ay SQ sw mT ⟨p5.l0,p5.com0,p5.g0,p5.g1,p5.g2,p5.g3,r5.l1,r5.com1,p5.l2,p5.com2,p5.l3,p5.com3,r5.L,r5.a+1,(if r5.cp=r5.a then r5.o else r5.a*33),r5.cp,p5.now,p5.cnt,x2.n,x2.c,x2.vh,x2.vl,x2.mh,x2.ml,x2.h,x2.l,x2.th,x2.tl⟩ fun p6 r6=>rd r6.L r6.a (r6.L.length - r6.a) fun x3=>fR x3 0 3 3 1 0 0 (mL (r6.L.length - r6.a) (ay SP su mS ⟨p6.l0,p6.com0,p6.g0,p6.g1,p6.g2,p6.g3,p6.l1,p6.com1,r6.l2,r6.com2,p6.l3,p6.com3,r6.L,r6.a+1,(if r6.cp=r6.a then r6.o else r6.a*33),r6.cp,p6.now,p6.cnt,x3.n,x3.c,x3.vh,x3.vl,x3.mh,x3.ml,x3.h,x3.l,x3.th,x3.tl⟩ fun p7 r7=>rd r7.L r7.a (r7.L.length - r7.a) fun x4=>fR x4 1 0 4 1 0 0 (mL (r7.L.length - r7.a) (ay SM sq qt ⟨p7.l0,p7.com0,p7.g0,p7.g1,p7.g2,p7.g3,p7.l1,p7.com1,p7.l2,p7.com2,r7.l3,r7.com3,r7.L,r7.a+1,(if r7.cp=r7.a then r7.o else r7.a*33),r7.cp,p7.now,p7.cnt,x4.n,x4.c,x4.vh,x4.vl,x4.mh,x4.ml,x4.h,x4.l,x4.th,x4.tl⟩ fun p8 r8=>rd r8.L r8.a (r8.L.length - r8.a) fun x5=>fR x5 2 0 4 1 0 0 (mL (r8.L.length - r8.a) (ay SK so qq ⟨p8.l0,r8.com0,r8.g0,r8.g1,p8.g2,p8.g3,p8.l1,p8.com1,p8.l2,p8.com2,p8.l3,p8.com3,r8.L,r8.a+1,(if r8.cp=r8.a then r8.o else r8.a*33),r8.cp,p8.now,p8.cnt,x5.n,x5.c,x5.vh,x5.vl,x5.mh,x5.ml,x5.h,x5.l,x5.th,x5.tl⟩ fun p9 r9=>rd r9.L r9.a (r9.L.length - r9.a) fun x6=>fR x6 3 0 4 1 0 0 (mL (r9.L.length - r9.a) (ay SJ sn qp ⟨p9.l0,r9.com0,r9.g0,p9.g1,r9.g2,p9.g3,p9.l1,p9.com1,p9.l2,p9.com2,p9.l3,p9.com3,r9.L,r9.a+1,(if r9.cp=r9.a then r9.o else r9.a*33),r9.cp,p9.now,p9.cnt,x6.n,x6.c,x6.vh,x6.vl,x6.mh,x6.ml,x6.h,x6.l,x6.th,x6.tl⟩ fun p10 r10=>mP (¬((0:Int)<((r10.L.length - r10.a:Nat):Int))) (mP (aI 0 (p.t+1)) (SA (jk ⟨p10.l0,r10.com0,r10.g0,p10.g1,p10.g2,r10.g3,p10.l1,p10.com1,p10.l2,p10.com2,p10.l3,p10.com3,r10.L,r10.a,r10.o,r10.cp,p10.now,p10.cnt,p.t+1⟩) (iB p) K))))))))))))))) (EI p K ⟨p.com0,p.g0,p.g1,p.g2,p.g3,p.l1,p.com1,p.l2,p.com2,p.l3,p.com3,p.L,p.a,p.o,p.cp,p.now⟩))) (by kernel_rfl) ?_
 dsimp only[ko]at hpre
 obtain⟨⟨i0_0,i0_1⟩,⟨i1_0,i1_1⟩,⟨i2_0,i2_1⟩,⟨i3_0,i3_1,i3_2,i3_3⟩,⟨i4_0,i4_1,i4_2,i4_3,i4_4⟩,⟨i5_0,i5_1,i5_2,i5_3,i5_4⟩,⟨i6_0,i6_1,i6_2,i6_3,i6_4⟩,ip1,ip2⟩:=hpre
 have pl1:=jz i4_1
 have pl2:=jz i5_1
 have pl3:=jz i6_1
 have dq:p.L.drop p.a=[]:=List.drop_eq_nil_of_le (by omega)
 have ld:=congrArg List.length dq
 have lz:=apM p.L.length
 have la:=apM p.a
 apply iI<;>intro hc1
 refine aF (by(try dsimp only[yG]);repeat(first|with_reducible assumption|apply And.intro|(apply dM<;>with_reducible assumption)|(apply bD<;>with_reducible assumption)|omega)) fun r1 hi2=> ?_
 dsimp only[lZ]at hi2 ⊢
 obtain⟨_,_,_,aphi2⟩:=hi2
 replace dq:=dP dq aphi2 lz
 clear aphi2 la lz ld
 obtain⟨dq,la,lz,ld⟩:=dq
 (try simp only[apC,apD,List.append_nil,apw,apy]at dq ld lz)
 refine aF (by(try dsimp only[si]);repeat(first|with_reducible assumption|apply And.intro|(apply dM<;>with_reducible assumption)|(apply bD<;>with_reducible assumption)|omega)) fun r2 hi3=> ?_
 dsimp only[ql]at hi3 ⊢
 have aphi3:=hi3
 replace dq:=dP dq aphi3 lz
 clear aphi3 la lz ld
 obtain⟨dq,la,lz,ld⟩:=dq
 (try simp only[apC,apD,List.append_nil,apw,apy]at dq ld lz)
 refine aF (by(try dsimp only[sg]);repeat(first|with_reducible assumption|apply And.intro|(apply dM<;>with_reducible assumption)|(apply bD<;>with_reducible assumption)|omega)) fun r3 hi4=> ?_
 dsimp only[qk]at hi4 ⊢
 have aphi4:=hi4
 replace dq:=dP dq aphi4 lz
 clear aphi4 la lz ld
 obtain⟨dq,la,lz,ld⟩:=dq
 (try simp only[apC,apD,List.append_nil,apw,apy]at dq ld lz)
 refine aF (by(try dsimp only[rZ]);repeat(first|with_reducible assumption|apply And.intro|(apply dM<;>with_reducible assumption)|(apply bD<;>with_reducible assumption)|omega)) fun r4 hi5=> ?_
 dsimp only[qj]at hi5 ⊢
 have aphi5:=hi5
 replace dq:=dP dq aphi5 lz
 clear aphi5 la lz ld
 obtain⟨dq,la,lz,ld⟩:=dq
 (try simp only[apC,apD,List.append_nil,apw,apy]at dq ld lz)
 refine cx (by omega) (by omega) fun x1 hi6=> ?_
 (try clear lx lc lq nl nt f_n f_vl f_ml f_tl)
 replace dq:=dl dq hi6
 clear hi6 ld
 obtain⟨f6,f_n,lc,f_vl,f_ml,lx,f_tl,dq,lq,ld,nl,nt⟩:=dq
 (try simp only[apW,apw,apy]at ld nl nt)
 refine cy f6 ?_
 clear f6
 refine cz ?_
 refine aF (by(try dsimp only[sx]);repeat(first|with_reducible assumption|apply And.intro|(apply dM<;>with_reducible assumption)|(apply bD<;>with_reducible assumption)|omega)) fun r5 hi7=> ?_
 dsimp only[mU]at hi7 ⊢
 obtain⟨ea,ec,ap⟩:=hi7
 replace dq:=dP dq ap lz
 clear ap la lz ld
 obtain⟨dq,la,lz,ld⟩:=dq
 (try simp only[apC,apD,List.append_nil,apw,apy]at dq ld lz)
 have ew_1:=wx ea lx i4_0 i4_1
 have en_1:=congrArg List.length ew_1
 clear ea
 have eo:=xy ec lc (by rw[en_1]) i3_3 (by omega:p.com1≤(p.l0.length:Int))
 clear ec
 obtain⟨u_1,v_1,w_1⟩:=Dz eo en_1 i4_3
 have y_1:=Dy ip1 eo
 clear eo
 (try clear ip2)
 clear i4_2 i4_3 i4_4
 refine cx (by omega) (by omega) fun x2 hi8=> ?_
 (try clear lx lc lq nl nt f_n f_vl f_ml f_tl)
 replace dq:=dl dq hi8
 clear hi8 ld
 obtain⟨f6,f_n,lc,f_vl,f_ml,lx,f_tl,dq,lq,ld,nl,nt⟩:=dq
 (try simp only[apW,apw,apy]at ld nl nt)
 refine cy f6 ?_
 clear f6
 refine cz ?_
 refine aF (by(try dsimp only[sw]);repeat(first|with_reducible assumption|apply And.intro|(apply dM<;>with_reducible assumption)|(apply bD<;>with_reducible assumption)|omega)) fun r6 hi9=> ?_
 dsimp only[mT]at hi9 ⊢
 obtain⟨ea,ec,ap⟩:=hi9
 replace dq:=dP dq ap lz
 clear ap la lz ld
 obtain⟨dq,la,lz,ld⟩:=dq
 (try simp only[apC,apD,List.append_nil,apw,apy]at dq ld lz)
 have ew_2:=wx ea lx i5_0 i5_1
 have en_2:=congrArg List.length ew_2
 clear ea
 have eo:=xy ec lc (by rw[en_2]) i3_3 (by omega:p.com2≤(p.l0.length:Int))
 clear ec
 obtain⟨u_2,v_2,Qb⟩:=Dz eo en_2 i5_3
 have y_2:=Dy ip1 eo
 clear eo
 (try clear ip2)
 clear i5_2 i5_3 i5_4
 refine cx (by omega) (by omega) fun x3 hi10=> ?_
 (try clear lx lc lq nl nt f_n f_vl f_ml f_tl)
 replace dq:=dl dq hi10
 clear hi10 ld
 obtain⟨f6,f_n,lc,f_vl,f_ml,lx,f_tl,dq,lq,ld,nl,nt⟩:=dq
 (try simp only[apW,apw,apy]at ld nl nt)
 refine cy f6 ?_
 clear f6
 refine cz ?_
 refine aF (by(try dsimp only[su]);repeat(first|with_reducible assumption|apply And.intro|(apply dM<;>with_reducible assumption)|(apply bD<;>with_reducible assumption)|omega)) fun r7 hi11=> ?_
 dsimp only[mS]at hi11 ⊢
 obtain⟨ea,ec,ap⟩:=hi11
 replace dq:=dP dq ap lz
 clear ap la lz ld
 obtain⟨dq,la,lz,ld⟩:=dq
 (try simp only[apC,apD,List.append_nil,apw,apy]at dq ld lz)
 have ew_3:=wx ea lx i6_0 i6_1
 have en_3:=congrArg List.length ew_3
 clear ea
 have eo:=xy ec lc (by rw[en_3]) i3_3 (by omega:p.com3≤(p.l0.length:Int))
 clear ec
 obtain⟨u_3,v_3,w_3⟩:=Dz eo en_3 i6_3
 have y_3:=Dy ip1 eo
 clear eo
 (try clear ip2)
 clear i6_2 i6_3 i6_4
 refine cx (by omega) (by omega) fun x4 hi12=> ?_
 (try clear lx lc lq nl nt f_n f_vl f_ml f_tl)
 replace dq:=dl dq hi12
 clear hi12 ld
 obtain⟨f6,f_n,lc,f_vl,f_ml,lx,f_tl,dq,lq,ld,nl,nt⟩:=dq
 (try simp only[apW,apw,apy]at ld nl nt)
 refine cy f6 ?_
 clear f6
 refine cz ?_
 refine aF (by(try dsimp only[sq]);repeat(first|with_reducible assumption|apply And.intro|(apply dM<;>with_reducible assumption)|(apply bD<;>with_reducible assumption)|omega)) fun r8 hi13=> ?_
 dsimp only[qt]at hi13 ⊢
 obtain⟨eh,ej,er,ap⟩:=hi13
 replace dq:=dP dq ap lz
 clear ap la lz ld
 obtain⟨dq,la,lz,ld⟩:=dq
 (try simp only[apC,apD,List.append_nil,apw,apy]at dq ld lz)
 have ek_1:=mj (m:=(p.l0.length:Int)) ej (by omega) (by omega)
 clear ej
 have eb_1:=oO (gB (m:=(p.l0.length:Int)) er (by omega) (by intro x hx;simp only[apF,apU,or_false]at hx<;>omega)) (by omega)
 clear er
 have k_1:=Dx ek_1 en_1
 refine cx (by omega) (by omega) fun x5 hi14=> ?_
 (try clear lx lc lq nl nt f_n f_vl f_ml f_tl)
 replace dq:=dl dq hi14
 clear hi14 ld
 obtain⟨f6,f_n,lc,f_vl,f_ml,lx,f_tl,dq,lq,ld,nl,nt⟩:=dq
 (try simp only[apW,apw,apy]at ld nl nt)
 refine cy f6 ?_
 clear f6
 refine cz ?_
 refine aF (by(try dsimp only[so]);repeat(first|with_reducible assumption|apply And.intro|(apply dM<;>with_reducible assumption)|(apply bD<;>with_reducible assumption)|omega)) fun r9 hi15=> ?_
 dsimp only[qq]at hi15 ⊢
 obtain⟨eh,ej,er,ap⟩:=hi15
 replace dq:=dP dq ap lz
 clear ap la lz ld
 obtain⟨dq,la,lz,ld⟩:=dq
 (try simp only[apC,apD,List.append_nil,apw,apy]at dq ld lz)
 have ek_2:=mj (m:=(p.l0.length:Int)) ej (by omega) (by omega)
 clear ej
 have eb_2:=oO (gB (m:=(p.l0.length:Int)) er (by omega) (by intro x hx;simp only[apF,apU,or_false]at hx<;>omega)) (by omega)
 clear er
 have k_2:=Dx ek_2 en_2
 refine cx (by omega) (by omega) fun x6 hi16=> ?_
 (try clear lx lc lq nl nt f_n f_vl f_ml f_tl)
 replace dq:=dl dq hi16
 clear hi16 ld
 obtain⟨f6,f_n,lc,f_vl,f_ml,lx,f_tl,dq,lq,ld,nl,nt⟩:=dq
 (try simp only[apW,apw,apy]at ld nl nt)
 refine cy f6 ?_
 clear f6
 refine cz ?_
 refine aF (by(try dsimp only[sn]);repeat(first|with_reducible assumption|apply And.intro|(apply dM<;>with_reducible assumption)|(apply bD<;>with_reducible assumption)|omega)) fun r10 hi17=> ?_
 dsimp only[qp]at hi17 ⊢
 obtain⟨eh,ej,er,ap⟩:=hi17
 replace dq:=dP dq ap lz
 clear ap la lz ld
 obtain⟨dq,la,lz,ld⟩:=dq
 (try simp only[apC,apD,List.append_nil,apw,apy]at dq ld lz)
 have ek_3:=mj (m:=(p.l0.length:Int)) ej (by omega) (by omega)
 clear ej
 have eb_3:=oO (gB (m:=(p.l0.length:Int)) er (by omega) (by intro x hx;simp only[apF,apU,or_false]at hx<;>omega)) (by omega)
 have ee:=mj (BA (m:=(p.l0.length:Int)) er (by omega) (by simp only[apw,apy];omega) (by intro x hx;simp only[apF,apU,or_false]at hx<;>omega)) rfl (by omega)
 clear er
 have k_3:=Dx ek_3 en_3
 (try clear eb_1);(try clear ek_1);(try clear i4_0);(try clear i4_1);(try clear pl1);(try clear eb_2);(try clear ek_2);(try clear i5_0);(try clear i5_1);(try clear pl2);(try clear eb_3);(try clear ek_3);(try clear i6_0);(try clear i6_1);(try clear pl3);(try clear ip1)
 refine aX (dc ?_)
 exact aeu
 exact ab8 hK (by dsimp only[jP]<;>(first|(exfalso;omega)|(obtain⟨q1,q1_1,q1_2,q1_3⟩:=ip1 (by omega);have q2:=ip2 (by omega);repeat(first|assumption|omega|(apply Oe<;>first|assumption|omega)|apply And.intro))))
theorem adA:eE Tryz.prog 54 1 GC true 0 Fg:=by
 exact js (lf:=600) bK (bR nat_zk4_1_3.2) (by rfl) jk iB yq (fun b j x h=>by cases h) (fun S M nx K h=>by obtain⟨p,h⟩:=cd h;exact⟨p,(ai h).1,(ai h).2⟩) (fun p K h=>acZ p K (ai h).1 (ai h).2)
abbrev BI:=lR
abbrev WR:=CR
def AQ (p:BI) (r:WR):Prop:=r.l1=p.l0∧r.l2=p.l0∧r.l3=p.l0∧r.com0=(p.l0.length:Int)∧r.com1=(p.l0.length:Int)∧r.com2=(p.l0.length:Int)∧r.com3=(p.l0.length:Int)∧r.g1=(p.l0.length:Int)∧r.g2=(p.l0.length:Int)∧r.g3=(p.l0.length:Int)∧r.a=r.L.length∧(r.L.length:Int)≤p.L.length+16*(5 - 0)∧0≤r.now∧r.now=p.now+4*(5 - 0)
noncomputable def WY (p:BI):IE:=([.ptr 0 0,.int 0 (.ofNat 5)],(iH p.l0 p.com0 p.g0 p.g1 p.g2 p.g3 p.l1 p.com1 p.l2 p.com2 p.l3 p.com3 p.L p.a p.o p.cp p.now p.cnt),44)
noncomputable def Ot (p:BI) (K:KE) (r:WR):Bool:=K (.tup []) (iH p.l0 r.com0 r.g0 r.g1 r.g2 r.g3 r.l1 r.com1 r.l2 r.com2 r.l3 r.com3 r.L r.a r.o r.cp r.now p.cnt) 44
noncomputable def KU (p:BI) (K:KE):Bool:=ae fun r=>iP (AQ p r) (Ot p K r) true
def wu (p:BI):Prop:=(0≤(0:Int)∧(0:Int)≤5)∧(0≤p.now∧p.now+4*(5 - (0:Int))≤999000)∧(p.a=p.L.length∧(p.L.length:Int)+16*(5 - (0:Int))≤900000)∧(bF p.l0∧p.l0.length≤400∧0≤p.com0∧p.com0≤(p.l0.length:Int))∧(p.g1=(p.l1.length:Int)∧p.l1++p.l0.drop p.l1.length=p.l0∧p.l0.length≤p.l1.length+16∧0≤p.com1∧p.com1≤(p.l1.length:Int))∧(p.g2=(p.l2.length:Int)∧p.l2++p.l0.drop p.l2.length=p.l0∧p.l0.length≤p.l2.length+16∧0≤p.com2∧p.com2≤(p.l2.length:Int))∧(p.g3=(p.l3.length:Int)∧p.l3++p.l0.drop p.l3.length=p.l0∧p.l0.length≤p.l3.length+16∧0≤p.com3∧p.com3≤(p.l3.length:Int))
theorem agB {p:BI} {K:KE} (hK:KU p K=true) {r:WR} (h:AQ p r):Ot p K r=true:=ax h (aq hK r)
theorem ail:Vf wu KU 1 nat_zk4_1_3 GC Zb WY:=by
 intro p K hpre hK
 refine Eq.trans (b:=(ay jk ko jP ⟨p.l0,p.com0,p.g0,p.g1,p.g2,p.g3,p.l1,p.com1,p.l2,p.com2,p.l3,p.com3,p.L,p.a,p.o,p.cp,p.now,p.cnt,0⟩ fun p1 r1=>Ot {p with l0:=p1.l0,cnt:=p1.cnt} K ⟨r1.com0,r1.g0,r1.g1,r1.g2,r1.g3,r1.l1,r1.com1,r1.l2,r1.com2,r1.l3,r1.com3,r1.L,r1.a,r1.o,r1.cp,r1.now⟩)) (by kernel_rfl) ?_
 dsimp only[wu]at hpre
 obtain⟨⟨i0_0,i0_1⟩,⟨i1_0,i1_1⟩,⟨i2_0,i2_1⟩,⟨i3_0,i3_1,i3_2,i3_3⟩,⟨i4_0,i4_1,i4_2,i4_3,i4_4⟩,⟨i5_0,i5_1,i5_2,i5_3,i5_4⟩,⟨i6_0,i6_1,i6_2,i6_3,i6_4⟩⟩:=hpre
 have pl1:=jz i4_1
 have pl2:=jz i5_1
 have pl3:=jz i6_1
 refine aF (by(try dsimp only[ko]);repeat(first|with_reducible assumption|apply And.intro|(apply dS;with_reducible assumption)|(apply bD<;>with_reducible assumption)|exact y_1 (by assumption)|exact y_2 (by assumption)|exact y_3 (by assumption)|intro _|omega)) fun r1 hi1=> ?_
 dsimp only[jP]at hi1 ⊢
 exact agB (p:=p) hK (by dsimp only[AQ]<;>(obtain⟨z0,z1,z2,z3,z4,z5,z6,z7,z8,z9,z10,zL,zn0,zn⟩:=hi1;exact⟨z0,z1,z2,z3,z4,z5,z6,z7,z8,z9,z10,by omega,zn0,by omega⟩))
theorem YU:dH Tryz.prog 15 1 (lM WY (Dn wu KU)):=(cB (f:=15) (k:=1) (lp:=GC) (lf:=600) bK (bR nat_zk4_1_3.2) abX (by rfl) (fun b j x h=>(dh adA (fun h=>(by cases h)) h)) fun p K h=>ail p K (ai h).1 (ai h).2)
noncomputable def UT:NN:=bB nat_zk4_1_3 YU [(0,4),(1,1)] (fun us=>Nat.beq (gi us 1) 5)
end Go.Proofs.Tryz
namespace Go.Proofs.Tryz
open Go.Proofs.YtjhpjjbnojbikaaGreat (dW fj eP fY fS kN)
open Go Go.RowKit Go.Sy
open Go.Eng hiding ae
set_option maxRecDepth 1000000
set_option linter.unusedVariables false
set_option maxHeartbeats 4000000
abbrev we:=lR
abbrev Pr:=Hs
def wZ (p:we) (r:Pr):Prop:=(∃e,yi e∧r.l0=p.l0++[e])∧r.l0.length=p.l0.length+1∧p.com0≤r.com0∧r.com0≤max p.com0 (r.l0.length:Int)
noncomputable def PG (p:we):IE:=([.ptr 0 0,o_Y 0],(iH p.l0 p.com0 p.g0 p.g1 p.g2 p.g3 p.l1 p.com1 p.l2 p.com2 p.l3 p.com3 p.L p.a p.o p.cp p.now p.cnt),44)
noncomputable def Cx (p:we) (K:KE) (r:Pr):Bool:=K (.tup []) (iH r.l0 r.com0 r.g0 p.g1 p.g2 p.g3 p.l1 p.com1 p.l2 p.com2 p.l3 p.com3 p.L p.a p.o p.cp p.now (p.cnt+1)) 44
noncomputable def Eg (p:we) (K:KE):Bool:=ae fun r=>iP (wZ p r) (Cx p K r) true
def tF (p:we):Prop:=0≤p.cnt∧p.cnt≤100∧p.l0.length≤300∧0≤p.com0∧p.com0≤400∧p.g1≤(p.l0.length:Int)∧p.g2≤(p.l0.length:Int)∧p.g3≤(p.l0.length:Int)
theorem zK {p:we} {K:KE} (hK:Eg p K=true) {r:Pr} (h:wZ p r:=by dsimp only[wZ]<;>(first|(exfalso;omega)|(have hb:=gB (m:=(p.l0.length+1:Int)) (by assumption) (by omega) (by intro x hx;simp only[apF,apU,or_false,apv,apw,apy]at hx<;>omega);refine⟨⟨_,?_,rfl⟩,by simp,hb.1,?_⟩;(unfold yi;dsimp only;omega);(rw[apv];simp only[List.length_singleton];omega)))):Cx p K r=true:=ax h (aq hK r)
theorem afB:Vf tF Eg 1 UT aJ xM PG:=by
 intro p K hpre hK
 refine Eq.trans (b:=(let z0:Bool:=(Cx p K ⟨p.l0,p.com0,p.g0⟩);let y0:Int:=(Int.tmod (p.cnt+1) (16:Int));mP (aI 0 (p.cnt+1)) (mP ((16:Int)≠0) (mP (aI 1 y0) (mP ((16:Int)≠0) (mP (aI 0 (Int.tdiv (p.cnt+1) (16:Int))) (mP (aI 0 ((1:Int)+(Int.tdiv (p.cnt+1) (16:Int)))) (mP (aI 2 ((1:Int)+(Int.tdiv (p.cnt+1) (16:Int)))) (iP (y0<(16:Int)) (iP ((0:Int)<((1:Int)+(Int.tdiv (p.cnt+1) (16:Int)))) (iP (400≤(p.l0.length:Int)) z0 (mE (.prow 29 p.l0.length) (mE (.prow 29 p.l0.length) (mP (p.l0.length=p.l0.length) (aM fun m1:List Ke=>mP (bg (m1.map au) (rq [] y0 ((1:Int)+(Int.tdiv (p.cnt+1) (16:Int))))) (mP (bQ 104 (p.l0.length+m1.length)) (aM fun p1:iS=>mP (iM ⟨p.l0++m1,p.com0,p.g0,p.g1,p.g2,p.g3⟩=iM p1) (ae fun r1:my=>iP (eZ p1 r1) (Cx {p with g1:=p1.c1,g2:=p1.c2,g3:=p1.c3} K ⟨p1.l,r1.com,(p1.l.length:Int)⟩) true)))))))) z0) z0))))))))) (by kernel_rfl) ?_
 dsimp only[tF]at hpre
 obtain⟨g1,g2,g3,g4,g5,g_1,g_2,g_3⟩:=hpre
 have t5:=tmp 16 (by decide) (p.cnt+1) (by omega)
 have t6:=tdp (p.cnt+1) (by omega)
 refine be (ug (be (ug (be (be (be ?_))))))
 apply iI<;>intro hc1
 apply iI<;>intro hc2
 apply iI<;>intro hc3
 exact zK hK
 refine aH (aH (mI (by first|rfl|omega) ?_))
 refine aR ([⟨Int.tmod (p.cnt+(1:Int)) (16:Int),(1:Int)+(Int.tdiv (p.cnt+(1:Int)) (16:Int))⟩]:List Ke) ?_
 refine mI (show bg (([⟨Int.tmod (p.cnt+(1:Int)) (16:Int),(1:Int)+(Int.tdiv (p.cnt+(1:Int)) (16:Int))⟩]:List Ke).map au) (rq [] (Int.tmod (p.cnt+(1:Int)) (16:Int)) ((1:Int)+(Int.tdiv (p.cnt+(1:Int)) (16:Int)))) from cF _) ?_
 refine eU ?_
 refine fu (.mk ..) rfl fun r1 hi4=> ?_
 dsimp only[eZ]at hi4
 exact zK (p:=p) hK
 exact zK hK
 exact zK hK
theorem Vd:dH Tryz.prog 10 1 (lM PG (Dn tF Eg)):=(nE tm afB)
noncomputable def RR:NN:=bB UT Vd [(0,4),(1,15)] (fun us=>Nat.beq (aC us 1 1) 0)
abbrev wc:=nF
abbrev Pq:=Hr
def wY (p:wc) (r:Pq):Prop:=(∃e,yi e∧r.l1=p.l1++[e])∧r.l1.length=p.l1.length+1∧p.com1≤r.com1∧r.com1≤max p.com1 (r.l1.length:Int)
noncomputable def PF (p:wc):IE:=([.ptr 0 0,o_Y 1],(dv p.l0 p.com0 p.g0 p.g1 p.g2 p.g3 p.l1 p.com1 p.b1 p.u p.c0 p.c1 p.c2 p.l2 p.com2 p.b2 p.u2 p.d2_0 p.d2_1 p.d2_2 p.l3 p.com3 p.b3 p.u3 p.d3_0 p.d3_1 p.d3_2 p.L p.a p.o p.cp p.now p.cnt),50)
noncomputable def Cw (p:wc) (K:KE) (r:Pq):Bool:=K (.tup []) (dv p.l0 p.com0 p.g0 p.g1 p.g2 p.g3 r.l1 r.com1 p.b1 p.u r.c0 p.c1 p.c2 p.l2 p.com2 p.b2 p.u2 p.d2_0 p.d2_1 p.d2_2 p.l3 p.com3 p.b3 p.u3 p.d3_0 p.d3_1 p.d3_2 p.L p.a p.o p.cp p.now (p.cnt+1)) 50
noncomputable def Ef (p:wc) (K:KE):Bool:=ae fun r=>iP (wY p r) (Cw p K r) true
def tE (p:wc):Prop:=0≤p.cnt∧p.cnt≤100∧p.l1.length≤300∧0≤p.com1∧p.com1≤400∧p.c1≤(p.l1.length:Int)∧p.c2≤(p.l1.length:Int)
theorem zJ {p:wc} {K:KE} (hK:Ef p K=true) {r:Pq} (h:wY p r:=by dsimp only[wY]<;>(first|(exfalso;omega)|(have hb:=gB (m:=(p.l1.length+1:Int)) (by assumption) (by omega) (by intro x hx;simp only[apF,apU,or_false,apv,apw,apy]at hx<;>omega);refine⟨⟨_,?_,rfl⟩,by simp,hb.1,?_⟩;(unfold yi;dsimp only;omega);(rw[apv];simp only[List.length_singleton];omega)))):Cw p K r=true:=ax h (aq hK r)
theorem afA:Vf tE Ef 1 RR aJ xM PF:=by
 intro p K hpre hK
 refine Eq.trans (b:=(let z0:Bool:=(Cw p K ⟨p.l1,p.com1,p.c0⟩);let y0:Int:=(Int.tmod (p.cnt+1) (16:Int));mP (aI 0 (p.cnt+1)) (mP ((16:Int)≠0) (mP (aI 1 y0) (mP ((16:Int)≠0) (mP (aI 0 (Int.tdiv (p.cnt+1) (16:Int))) (mP (aI 0 ((1:Int)+(Int.tdiv (p.cnt+1) (16:Int)))) (mP (aI 2 ((1:Int)+(Int.tdiv (p.cnt+1) (16:Int)))) (iP (y0<(16:Int)) (iP ((0:Int)<((1:Int)+(Int.tdiv (p.cnt+1) (16:Int)))) (iP (400≤(p.l1.length:Int)) z0 (mE (.prow 36 p.l1.length) (mE (.prow 36 p.l1.length) (mP (p.l1.length=p.l1.length) (aM fun m1:List Ke=>mP (bg (m1.map au) (rq [] y0 ((1:Int)+(Int.tdiv (p.cnt+1) (16:Int))))) (mP (bQ 104 (p.l1.length+m1.length)) (aM fun p1:iT=>mP (kK ⟨p.l1++m1,p.com1,p.b1,p.c0,p.c1,p.c2⟩=kK p1) (ae fun r1:nA=>iP (fD p1 r1) (Cw {p with b1:=p1.b,c1:=p1.c1,c2:=p1.c2} K ⟨p1.l,r1.com,(p1.l.length:Int)⟩) true)))))))) z0) z0))))))))) (by kernel_rfl) ?_
 dsimp only[tE]at hpre
 obtain⟨g1,g2,g3,g4,g5,g_2,g_3⟩:=hpre
 have t5:=tmp 16 (by decide) (p.cnt+1) (by omega)
 have t6:=tdp (p.cnt+1) (by omega)
 refine be (ug (be (ug (be (be (be ?_))))))
 apply iI<;>intro hc1
 apply iI<;>intro hc2
 apply iI<;>intro hc3
 exact zJ hK
 refine aH (aH (mI (by first|rfl|omega) ?_))
 refine aR ([⟨Int.tmod (p.cnt+(1:Int)) (16:Int),(1:Int)+(Int.tdiv (p.cnt+(1:Int)) (16:Int))⟩]:List Ke) ?_
 refine mI (show bg (([⟨Int.tmod (p.cnt+(1:Int)) (16:Int),(1:Int)+(Int.tdiv (p.cnt+(1:Int)) (16:Int))⟩]:List Ke).map au) (rq [] (Int.tmod (p.cnt+(1:Int)) (16:Int)) ((1:Int)+(Int.tdiv (p.cnt+(1:Int)) (16:Int)))) from cF _) ?_
 refine eU ?_
 refine fu (.mk ..) rfl fun r1 hi4=> ?_
 dsimp only[fD]at hi4
 exact zJ (p:=p) hK
 exact zJ hK
 exact zJ hK
theorem Vc:dH Tryz.prog 10 1 (lM PF (Dn tE Ef)):=(nE tm afA)
noncomputable def RQ:NN:=bB RR Vc [(0,4),(1,15)] (fun us=>Nat.beq (aC us 1 1) 1)
abbrev Mk:=Unit
noncomputable def Mb (p:Mk):IE:=([.int 1 (.ofNat 0),dL 0,.sl 0 0 4 (.rest 0)],(n0 am),1)
noncomputable def abx (p:Mk) (K:KE):Bool:=K (.ptr 1 0) (n2 (n2 (n2 (n0 (aO ([]:List Ke))) (bj 6 4 0 7 (([]:List Ke).length) 0 false 8) .leaf) (zp 4 0) (n2 (n0 am) (bm true 9 4) .leaf)) am (n2 (n2 (n0 (ca 0 0 0 0)) (bu 0) .leaf) am (n0 am))) 10
theorem acR:Vn abx 1 RQ aJ jS Mb:=by
 intro p K hK
 refine Eq.trans (b:=(let z0:Bool:=(K (.ptr 1 0) (n2 (n2 (n2 (n0 (aO ([]:List Ke))) (bj 6 4 0 7 0 0 false 8) .leaf) (zp 4 0) (n2 (n0 am) (bm true 9 4) .leaf)) am (n2 (n2 (n0 (ca 0 0 0 0)) (bu 0) .leaf) am (n0 am))) 10);aa (cu (mP ((.sl 7 0 0 (.ex 0):AV)=(.sl 7 0 0 (.ex 0):AV)) z0)) (mP ((.sl 7 0 0 (.ex 0):AV)=(.sl 7 0 0 (.ex 0):AV)) z0))) (by kernel_rfl) ?_
 repeat' (first|exact hK|refine mI rfl ?_|refine bI ?_ ?_)
noncomputable def nc_new4_0:EE 23 1:=bA (fun us M=>aA (Nat.beq (jm M 0) 4) (Nat.beq (aC us 1 0) 0)) (zt ia acR) eS
noncomputable def MF:NN:=ck RQ nc_new4_0.2 [(0,1),(1,15),(2,5)]
abbrev Mj:=Unit
noncomputable def Ma (p:Mj):IE:=([.int 1 (.ofNat 0),dL 1,.sl 0 0 4 (.rest 0)],(n0 am),1)
noncomputable def abw (p:Mj) (K:KE):Bool:=K (.ptr 1 0) (n2 (n2 (n2 (n0 (aO ([]:List Ke))) (bj 6 4 1 7 (([]:List Ke).length) 0 false 8) .leaf) (zp 4 1) (n2 (n0 am) (bm true 9 4) .leaf)) am (n2 (n2 (n0 (ca 0 0 0 0)) (bu 0) .leaf) am (n0 am))) 10
theorem acQ:Vn abw 1 MF aJ jS Ma:=by
 intro p K hK
 refine Eq.trans (b:=(let z0:Bool:=(K (.ptr 1 0) (n2 (n2 (n2 (n0 (aO ([]:List Ke))) (bj 6 4 1 7 0 0 false 8) .leaf) (zp 4 1) (n2 (n0 am) (bm true 9 4) .leaf)) am (n2 (n2 (n0 (ca 0 0 0 0)) (bu 0) .leaf) am (n0 am))) 10);aa (cu (mP ((.sl 7 0 0 (.ex 0):AV)=(.sl 7 0 0 (.ex 0):AV)) z0)) (mP ((.sl 7 0 0 (.ex 0):AV)=(.sl 7 0 0 (.ex 0):AV)) z0))) (by kernel_rfl) ?_
 repeat' (first|exact hK|refine mI rfl ?_|refine bI ?_ ?_)
noncomputable def nc_new4_1:EE 23 1:=bA (fun us M=>aA (Nat.beq (jm M 0) 4) (Nat.beq (aC us 1 0) 1)) (zt ia acQ) nc_new4_0
noncomputable def ME:NN:=ck MF nc_new4_1.2 [(0,1),(1,15),(2,5)]
abbrev Mi:=Unit
noncomputable def LZ (p:Mi):IE:=([.int 1 (.ofNat 0),dL 2,.sl 0 0 4 (.rest 0)],(n0 am),1)
noncomputable def abv (p:Mi) (K:KE):Bool:=K (.ptr 1 0) (n2 (n2 (n2 (n0 (aO ([]:List Ke))) (bj 6 4 2 7 (([]:List Ke).length) 0 false 8) .leaf) (zp 4 2) (n2 (n0 am) (bm true 9 4) .leaf)) am (n2 (n2 (n0 (ca 0 0 0 0)) (bu 0) .leaf) am (n0 am))) 10
theorem acP:Vn abv 1 ME aJ jS LZ:=by
 intro p K hK
 refine Eq.trans (b:=(let z0:Bool:=(K (.ptr 1 0) (n2 (n2 (n2 (n0 (aO ([]:List Ke))) (bj 6 4 2 7 0 0 false 8) .leaf) (zp 4 2) (n2 (n0 am) (bm true 9 4) .leaf)) am (n2 (n2 (n0 (ca 0 0 0 0)) (bu 0) .leaf) am (n0 am))) 10);aa (cu (mP ((.sl 7 0 0 (.ex 0):AV)=(.sl 7 0 0 (.ex 0):AV)) z0)) (mP ((.sl 7 0 0 (.ex 0):AV)=(.sl 7 0 0 (.ex 0):AV)) z0))) (by kernel_rfl) ?_
 repeat' (first|exact hK|refine mI rfl ?_|refine bI ?_ ?_)
noncomputable def nc_new4_2:EE 23 1:=bA (fun us M=>aA (Nat.beq (jm M 0) 4) (Nat.beq (aC us 1 0) 2)) (zt ia acP) nc_new4_1
noncomputable def MD:NN:=ck ME nc_new4_2.2 [(0,1),(1,15),(2,5)]
abbrev Mh:=Unit
noncomputable def LY (p:Mh):IE:=([.int 1 (.ofNat 0),dL 3,.sl 0 0 4 (.rest 0)],(n0 am),1)
noncomputable def abu (p:Mh) (K:KE):Bool:=K (.ptr 1 0) (n2 (n2 (n2 (n0 (aO ([]:List Ke))) (bj 6 4 3 7 (([]:List Ke).length) 0 false 8) .leaf) (zp 4 3) (n2 (n0 am) (bm true 9 4) .leaf)) am (n2 (n2 (n0 (ca 0 0 0 0)) (bu 0) .leaf) am (n0 am))) 10
theorem acO:Vn abu 1 MD aJ jS LY:=by
 intro p K hK
 refine Eq.trans (b:=(let z0:Bool:=(K (.ptr 1 0) (n2 (n2 (n2 (n0 (aO ([]:List Ke))) (bj 6 4 3 7 0 0 false 8) .leaf) (zp 4 3) (n2 (n0 am) (bm true 9 4) .leaf)) am (n2 (n2 (n0 (ca 0 0 0 0)) (bu 0) .leaf) am (n0 am))) 10);aa (cu (mP ((.sl 7 0 0 (.ex 0):AV)=(.sl 7 0 0 (.ex 0):AV)) z0)) (mP ((.sl 7 0 0 (.ex 0):AV)=(.sl 7 0 0 (.ex 0):AV)) z0))) (by kernel_rfl) ?_
 repeat' (first|exact hK|refine mI rfl ?_|refine bI ?_ ?_)
noncomputable def nc_new4_3:EE 23 1:=bA (fun us M=>aA (Nat.beq (jm M 0) 4) (Nat.beq (aC us 1 0) 3)) (zt ia acO) nc_new4_2
noncomputable def abO:NN:=ck MD nc_new4_3.2 [(0,1),(1,15),(2,5)]
end Go.Proofs.Tryz
namespace Go.Proofs.Tryz
open Go Go.RowKit Go.Sy
open Go.Eng hiding ae
set_option maxRecDepth 1000000
set_option linter.unusedVariables false
set_option maxHeartbeats 4000000
abbrev vZ:=Unit
abbrev Hp:=eJ
def wW (p:vZ) (r:Hp):Prop:=r.L.length=0∧r.a=0
noncomputable def Hy (p:vZ):IE:=([.int 0 (.ofNat 4),.int 0 (.ofNat 0)],.leaf,0)
noncomputable def Lm (p:vZ) (K:KE) (r:Hp):Bool:=K (.ptr 0 0) (iH ([]:List Ke) 0 0 0 0 0 ([]:List Ke) 0 ([]:List Ke) 0 ([]:List Ke) 0 r.L r.a r.o r.cp 0 0) 44
noncomputable def DY (p:vZ) (K:KE):Bool:=ae fun r=>iP (wW p r) (Lm p K r) true
theorem aed {p:vZ} {K:KE} (hK:DY p K=true) {r:Hp} (h:wW p r):Lm p K r=true:=ax h (aq hK r)
theorem afx:Vn DY 0 abO aJ Lu Hy:=by
 intro p K hK
 refine Eq.trans (b:=(aM fun p1:Mk=>mP (Mb ⟨⟩=Mb p1) (aM fun p2:Mj=>mP (Ma ⟨⟩=Ma p2) (aM fun p3:Mi=>mP (LZ ⟨⟩=LZ p3) (aM fun p4:Mh=>mP (LY ⟨⟩=LY p4) (mP ((.nilS:AV)=(.nilS:AV)) (mP (0=([]:List Fx).length) (ae fun u1:Nat=>Lm p K ⟨([]:List Fx),(0:Nat),(0:Nat),u1⟩)))))))) (by kernel_rfl) ?_
 refine aR ⟨⟩ ?_
 refine aH ?_
 refine aR ⟨⟩ ?_
 refine aH ?_
 refine aR ⟨⟩ ?_
 refine aH ?_
 refine aR ⟨⟩ ?_
 refine aH (aH (aH ?_))
 refine ac fun u1=> ?_
 exact aed hK (by dsimp only[wW]<;>exact⟨rfl,rfl⟩)
theorem agd:dH Tryz.prog 9 0 (lM Hy DY):=(zt JS afx)
end Go.Proofs.Tryz
namespace Go.Proofs.Tryz
open Go.Proofs.YtjhpjjbnojbikaaGreat (dW fj eP fY fS kN)
open Go Go.RowKit Go.Sy
open Go.Eng hiding ae
set_option maxRecDepth 1000000
set_option linter.unusedVariables false
set_option maxHeartbeats 4000000
noncomputable def nc_tr5_3:EE 15 1:=bA (fun us M=>Nat.beq (jm M 1) 3) YV eS
noncomputable def ady:NN:=bB tN nc_tr5_3.2 [(0,4),(1,1)] (fun us=>Nat.beq (gi us 1) 5)
noncomputable def nc_tr40_3:EE 15 1:=bA (fun us M=>Nat.beq (jm M 1) 3) UZ eS
noncomputable def abE:NN:=bB ady nc_tr40_3.2 [(0,4),(1,1)] (fun us=>Nat.beq (gi us 1) 40)
noncomputable def nc_tr10_3:EE 15 1:=bA (fun us M=>Nat.beq (jm M 1) 3) Vb eS
noncomputable def abG:NN:=bB abE nc_tr10_3.2 [(0,4),(1,1)] (fun us=>Nat.beq (gi us 1) 10)
noncomputable def nc_tdo3_1:EE 10 1:=bA (fun us M=>Nat.beq (jm M 1) 3) Vg eS
noncomputable def abM:NN:=bB abG nc_tdo3_1.2 [(0,4),(1,15)] (fun us=>Nat.beq (aC us 1 1) 0)
noncomputable def nc_tdo3_2:EE 10 1:=bA (fun us M=>Nat.beq (jm M 1) 3) Ve eS
noncomputable def abL:NN:=bB abM nc_tdo3_2.2 [(0,4),(1,15)] (fun us=>Nat.beq (aC us 1 1) 1)
noncomputable def abI:NN:=bB abL age [(0,1),(1,1)] (fun us=>Nat.beq (gi us 0) 3)
noncomputable def nc_tr5_4:EE 15 1:=bA (fun us M=>Nat.beq (jm M 1) 4) YU nc_tr5_3
noncomputable def adx:NN:=bB abI nc_tr5_4.2 [(0,4),(1,1)] (fun us=>Nat.beq (gi us 1) 5)
noncomputable def nc_tr40_4:EE 15 1:=bA (fun us M=>Nat.beq (jm M 1) 4) UY nc_tr40_3
noncomputable def abD:NN:=bB adx nc_tr40_4.2 [(0,4),(1,1)] (fun us=>Nat.beq (gi us 1) 40)
noncomputable def nc_tr10_4:EE 15 1:=bA (fun us M=>Nat.beq (jm M 1) 4) Va nc_tr10_3
noncomputable def abF:NN:=bB abD nc_tr10_4.2 [(0,4),(1,1)] (fun us=>Nat.beq (gi us 1) 10)
noncomputable def nc_tdo4_1:EE 10 1:=bA (fun us M=>Nat.beq (jm M 1) 4) Vd nc_tdo3_1
noncomputable def abK:NN:=bB abF nc_tdo4_1.2 [(0,4),(1,15)] (fun us=>Nat.beq (aC us 1 1) 0)
noncomputable def nc_tdo4_2:EE 10 1:=bA (fun us M=>Nat.beq (jm M 1) 4) Vc nc_tdo3_2
noncomputable def abJ:NN:=bB abK nc_tdo4_2.2 [(0,4),(1,15)] (fun us=>Nat.beq (aC us 1 1) 1)
noncomputable def abH:NN:=bB abJ agd [(0,1),(1,1)] (fun us=>Nat.beq (gi us 0) 4)
theorem bgn {l m:List Ke} {u v:Nat} (h:m++l.drop m.length=l) (h4:l.length≤400) (hu:u=m.length) (hv:v=m.length):(l.drop 0).take u=(m.drop 0).take v∧((l.drop 0).take u).length≤1000000:=by
 subst hu hv
 have e:l.take m.length=m:=by
  calc l.take m.length=(m++l.drop m.length).take m.length:=by rw[h]
   _=m:=List.take_left
 have k:=congrArg List.length h
 rw[apv,apW]at k
 simp only[List.drop_zero,List.take_length,e]
 exact⟨trivial,by omega⟩
theorem No {A B l m:List Ke} {x y:Nat} (hA:A=l) (hB:B=m) (h:m++l.drop m.length=l) (h4:l.length≤400) (hx:x=l.length) (hy:y=m.length):(B.drop 0).take y++((A.drop 0).take x).drop ((B.drop 0).take y).length=(A.drop 0).take x∧((A.drop 0).take x).length≤400:=by
 subst hA hB hx hy
 simp only[List.drop_zero,List.take_length]
 exact⟨h,h4⟩
def Xa (a b c d N:Int):Prop:=a=N∧b=N∧c=N∧d=N
def Zr (l:List Ke) (c g:Int):Prop:=l=[]∧c=0∧g=0
def Rst (L:List Fx) (a:Nat) (now:Int):Prop:=L.length≤10000∧a=L.length∧0≤now∧now≤10000
theorem eq4 {a m:Nat} {b c d N:Int} (h1:a=m) (h2:b=(m:Int)) (h3:c=(m:Int)) (h4:d=(m:Int)) (k:(m:Int)=N):Xa (a:Int) b c d N:=⟨by omega,h2.trans k,h3.trans k,h4.trans k⟩
theorem nN {a b:Nat} {N:Int} (h:a=b) (k:(b:Int)=N):(a:Int)=N:=by omega
theorem agu {l l1:List Ke} {com c b N Mo:Int} (E:Xa (l.length:Int) com c b N) (pf:l++l1.drop l.length=l1) (v:(l1.length:Int)=N+Mo) (h:0≤N∧Mo≤14):(c=(l.length:Int)∧l++l1.drop l.length=l1∧l1.length≤l.length+16∧0≤com∧com≤(l.length:Int))∧0≤b∧b≤(l.length:Int):=by
 obtain⟨e1,e2,e3,e4⟩:=E
 exact⟨⟨by omega,pf,by omega,by omega,by omega⟩,by omega,by omega⟩
theorem lQ:bF []:=fun x hx=>by cases hx
theorem JL {l m:List Ke} {e:Ke} (h:bF l) (he:yi e) (hm:m=l++[e]):bF m:=by
 subst hm;intro x hx
 rcases List.mem_append.1 hx with k|k
 ·exact h x k
 ·rw[List.mem_singleton.1 k];exact he
theorem UA {l m m':List Ke} {e:Ke} (h:l++m.drop l.length=m) (hm:m'=m++[e]):l++m'.drop l.length=m':=by
 subst hm
 rw[List.drop_append_of_le_length (jz h),←List.append_assoc,h]
def VV:XF:=.mk 38 (.one 0) (.seq (g_ 1 [p_ 0 0 (.mv F_)]) (.seq (g_ 5 [c_ 0 3 21 [i_ 0],c_ 1 4 21 [i_ 0],e_ 2 5 (.bsl 52 2 1 [j_ 1 0,j_ 2 0] [(0,2)] [.t 4]),c_ 3 6 23 [v_ 1 1,.t 3,.t 5],p_ 4 1 (m_ 6)]) (.seq (g_ 4 [p_ 0 7 (m_ 1),c_ 1 8 25 [i_ 1],c_ 2 9 24 [.t 7,.t 8],p_ 3 2 (m_ 9)]) (.seq (g_ 29 [p_ 0 10 (m_ 2),c_ 1 11 26 [.t 10],p_ 2 12 (.bin 3 4 (.t 11) (i_ 0)),p_ 3 13 (m_ 12),ah 4 14 13 true (m_ 1),cG 5 15 13 true 19 [.t 14],p_ 6 16 (.pick (.t 13) (.t 15) F_),p_ 7 17 (m_ 16),ah 8 18 17 true (m_ 1),cG 9 19 17 true 22 [.t 18],p_ 10 20 (.pick (.t 17) (.t 19) F_),p_ 11 21 (m_ 20),ah 12 22 21 true (m_ 1),cG 13 23 21 true 12 [.t 22],ah 14 24 21 true (.bin 3 4 (.t 23) (i_ 1)),p_ 15 25 (.pick (.t 21) (.t 24) F_),p_ 16 26 (m_ 25),ah 17 27 26 true (m_ 1),cG 18 28 26 true 16 [.t 27],ah 19 29 26 true (.fld false 1 1 (.t 28)),ah 20 30 26 true (.bin 3 4 (.t 29) (v_ 3 1)),p_ 21 31 (.pick (.t 26) (.t 30) F_),p_ 22 32 (m_ 31),ah 23 33 32 true (m_ 1),cG 24 34 32 true 13 [.t 33],ah 25 35 32 true (k_ 34),ah 26 36 32 true (.bin 3 4 (.t 35) (i_ 1)),p_ 27 37 (.pick (.t 32) (.t 36) F_),p_ 28 0 (m_ 37)]) .ret))))
theorem XW:bN Tryz.prog 8 VV=true:=by kernel_rfl
abbrev PV:=Unit
noncomputable def PE (p:PV):IE:=([],.leaf,0)
noncomputable def adq (p:PV) (K:KE):Bool:=K (.bool true) .leaf 0
theorem afz:Vn adq 0 NN0 aJ VV PE:=by
 intro p K hK
 refine Eq.trans (b:=(aa (cu (aa (K (.bool true) .leaf 0) (true))) (aa (K (.bool true) .leaf 0) (true)))) (by kernel_rfl) ?_
 repeat' (first|exact hK|refine mI rfl ?_|refine bI ?_ ?_|exact rfl)
noncomputable def RP:NN:=ck abH (zt XW afz) []
def VW:XF:=.mk 18 (.one 4) (.seq (g_ 1 [p_ 0 4 (.mv F_)]) (.seq (g_ 6 [p_ 0 6 (m_ 0),p_ 1 7 (k_ 6),p_ 2 8 (m_ 1),p_ 3 9 (k_ 8),p_ 4 10 (.mx false (.t 7) (.t 9)),p_ 5 5 (m_ 10)]) (.seq (h_ 8 [p_ 0 11 (m_ 0),p_ 1 12 (m_ 5),r_ 2 13 (.sls 18 (.t 11) none (some (.t 12)) none),p_ 3 14 (m_ 1),p_ 4 15 (m_ 5),r_ 5 16 (.sls 18 (.t 14) none (some (.t 15)) none),c_ 6 17 14 [.t 13,.t 16],p_ 7 4 (m_ 17)]) .ret)))
theorem XX:bN Tryz.prog 31 VW=true:=by kernel_rfl
structure PZ where (h:Value) (l:List Ke) (g:Value) (m:List Ke)
noncomputable def lK (p:PZ):IE:=([.sy (.imm p.h 18 Ke p.l au),.sy (.imm p.g 18 Ke p.m au)],.leaf,0)
noncomputable def adu (p:PZ) (K:KE):Bool:=K (.bool true) .leaf 0
def da (p:PZ):Prop:=p.m++p.l.drop p.m.length=p.l∧p.l.length≤400
theorem afL:Vf da adu 0 RP aJ VW lK:=by
 intro p K hpre hK
 refine Eq.trans (b:=(mP (0≤(0:Int)∧(0:Int)≤(min (p.l.length:Int) (p.m.length:Int))∧(min (p.l.length:Int) (p.m.length:Int))≤(p.l.length:Int)) (mP (0≤(0:Int)∧(0:Int)≤(min (p.l.length:Int) (p.m.length:Int))∧(min (p.l.length:Int) (p.m.length:Int))≤(p.m.length:Int)) (aL tu fX ⟨fp p.h 18 0 ((min (p.l.length:Int) (p.m.length:Int)).toNat),(p.l.drop 0).take (((min (p.l.length:Int) (p.m.length:Int)).toNat) - 0),fp p.g 18 0 ((min (p.l.length:Int) (p.m.length:Int)).toNat),(p.m.drop 0).take (((min (p.l.length:Int) (p.m.length:Int)).toNat) - 0)⟩ fun p1=>K (.bool true) .leaf 0)))) (by kernel_rfl) ?_
 dsimp only[da]at hpre
 obtain⟨g1,g2⟩:=hpre
 have g3:=congrArg List.length g1
 rw[apv,apW]at g3
 refine iD (iD ?_)
 refine aV (by(try dsimp only[fX]);apply bgn<;>first|assumption|omega|(simp only[apL,apW];omega)) ?_
 exact hK
noncomputable def Sc:NN:=ck RP (nE XX afL) [(0,23),(1,23)]
def EM:XF:=.mk 81 (.one 2) (.seq (g_ 1 [p_ 0 2 (.mv F_)]) (.seq (.seq (g_ 1 [p_ 0 3 (.mv (i_ 0))]) (.block 2 (.loop [0,2,3,4,5,6,7,8,9,10,11,12,13,14,15,16,17,18,19,20,21,22,23,24,25,26,27,28,29,30,31,32,33,34,35,36,37,38,39,40,41,42,43,44,45,46,47,48,49,50,51,52,53,54,55,56,57,58,59,60,61,62,63,64,65,66,67,68,69,70,71,72,73,74,75,76,77,78,79,80] (.seq (.seq (g_ 7 [p_ 0 9 (m_ 3),p_ 1 10 (m_ 0),p_ 2 11 (n_ 10),p_ 3 12 (f_ 0 11),r_ 4 13 (l_ 12),p_ 5 14 (k_ 13),p_ 6 15 (.bin 3 0 (.t 9) (.t 14))]) (.cond (.t 15) .skip (.exit 2))) (.seq (.block 3 (.seq (g_ 8 [p_ 0 18 (m_ 0),p_ 1 19 (n_ 18),p_ 2 20 (f_ 0 19),r_ 3 21 (l_ 20),p_ 4 22 (m_ 3),p_ 5 23 (.ixs 1 (.t 21) (.t 22)),r_ 6 24 (l_ 23),p_ 7 4 (m_ 24)]) (.seq (.aft (g_ 3 [p_ 0 25 (m_ 4),c_ 1 26 13 [.t 25],p_ 2 5 (m_ 26)]) [(0,[.frz 5])]) (.seq (.seq (g_ 5 [p_ 0 27 (m_ 4),c_ 1 28 12 [.t 27],p_ 2 29 (m_ 5),p_ 3 30 (k_ 29),p_ 4 31 (.bin 3 2 (.t 28) (.t 30))]) (.cond (.t 31) (.seq (g_ 1 [p_ 0 2 (.mv F_)]) .ret) .skip)) (.seq (g_ 1 [p_ 0 6 (.mv (i_ 0))]) (.block 4 (.loop [0,2,3,4,5,6,7,8,9,10,11,12,13,14,15,16,17,18,19,20,21,22,23,24,25,26,27,28,29,30,31,32,33,34,35,36,37,38,39,40,41,42,43,44,45,46,47,48,49,50,51,52,53,54,55,56,57,58,59,60,61,62,63,64,65,66,67,68,69,70,71,72,73,74,75,76,77,78,79,80] (.seq (.seq (g_ 3 [p_ 0 32 (m_ 6),p_ 1 33 (m_ 3),p_ 2 34 (.bin 3 0 (.t 32) (.t 33))]) (.cond (.t 34) .skip (.exit 4))) (.seq (.block 5 (.seq (g_ 8 [p_ 0 37 (m_ 0),p_ 1 38 (n_ 37),p_ 2 39 (f_ 0 38),r_ 3 40 (l_ 39),p_ 4 41 (m_ 6),p_ 5 42 (.ixs 1 (.t 40) (.t 41)),r_ 6 43 (l_ 42),p_ 7 7 (m_ 43)]) (.seq (.aft (g_ 3 [p_ 0 44 (m_ 7),c_ 1 45 13 [.t 44],p_ 2 8 (m_ 45)]) [(0,[.frz 8])]) (.seq (h_ 35 [p_ 0 46 (m_ 4),c_ 1 47 19 [.t 46],p_ 2 48 (m_ 47),ah 3 49 48 true (m_ 7),cG 4 50 48 true 19 [.t 49],p_ 5 51 (.pick (.t 48) (.t 50) F_),p_ 6 52 (m_ 51),ah 7 53 52 true (m_ 4),ah 10 56 52 true (m_ 7),cG 8 54 52 true 16 [.t 53],ah 9 55 52 true (.fld false 1 1 (.t 54)),cG 11 57 52 true 16 [.t 56],ah 12 58 52 true (.fld false 1 1 (.t 57)),ah 13 59 52 true (.bin 3 4 (.t 55) (.t 58)),p_ 14 60 (.pick (.t 52) (.t 59) F_),p_ 15 61 (m_ 60),ah 16 62 61 true (m_ 4),ah 18 64 61 true (m_ 7),cG 17 63 61 true 16 [.t 62],cG 19 65 61 true 16 [.t 64],cG 20 66 61 true 30 [.t 63,.t 65],ah 21 67 61 true (.un 0 (.t 66)),p_ 22 68 (.pick (.t 61) (.t 67) F_),p_ 23 69 (m_ 68),ah 24 70 69 false (m_ 5),ah 25 71 69 false (m_ 4),ah 28 74 69 false (m_ 8),ah 29 75 69 false (m_ 7),cG 26 72 69 false 12 [.t 71],aT 27 73 69 false (.sls 18 (.t 70) none (some (.t 72)) none),cG 30 76 69 false 12 [.t 75],ag_ 27 73 69 false (.sls 18 (.t 70) none (some (.t 72)) none),aT 31 77 69 false (.sls 18 (.t 74) none (some (.t 76)) none),cG 32 78 69 false 31 [.t 73,.t 77],ah 33 79 69 false (.un 0 (.t 78)),p_ 34 80 (.pick (.t 69) T_ (.t 79))]) (.cond (.t 80) (.seq (g_ 1 [p_ 0 2 (.mv F_)]) .ret) .skip))))) (g_ 3 [p_ 0 35 (m_ 6),p_ 1 36 (.bin 0 0 (.t 35) (i_ 1)),p_ 2 6 (m_ 36)])))))))))) (g_ 3 [p_ 0 16 (m_ 3),p_ 1 17 (.bin 0 0 (.t 16) (i_ 1)),p_ 2 3 (m_ 17)])))))) (.seq (g_ 1 [p_ 0 2 (.mv T_)]) .ret)))
theorem EL:bN Tryz.prog 11 EM=true:=by kernel_rfl
abbrev Mg:=nG
noncomputable def WX (p:Mg):IE:=([.ptr 0 0],(fi p.l0 p.com0 p.g0 p.g1 p.g2 p.l1 p.com1 p.b1 p.u p.c0 p.c1 p.l2 p.com2 p.b2 p.u2 p.d2_0 p.d2_1 p.L p.a p.o p.cp p.now p.cnt),38)
noncomputable def abt (p:Mg) (K:KE):Bool:=K (.bool true) (fi p.l0 p.com0 p.g0 p.g1 p.g2 p.l1 p.com1 p.b1 p.u p.c0 p.c1 p.l2 p.com2 p.b2 p.u2 p.d2_0 p.d2_1 p.L p.a p.o p.cp p.now p.cnt) 38
def uo (p:Mg):Prop:=p.com0=(p.l0.length:Int)∧p.l0.length≤400∧p.com1=(p.l1.length:Int)∧p.l1.length≤400∧p.com2=(p.l2.length:Int)∧p.l2.length≤400∧p.l0++p.l1.drop p.l0.length=p.l1∧p.l2=p.l1
theorem acN:Vf uo abt 1 Sc aJ EM WX:=by
 intro p K hpre hK
 refine Eq.trans (b:=(ay bS aW aP ⟨p.l0⟩ fun p1 r1=>mP (r1.o.length=r1.o.length) (mP (r1.o.length=r1.o.length) (ae fun h1:Value=>iP ((r1.o.length:Int)<p.com0) (K (.bool false) (WO p1.l p.com0 p.g0 p.g1 p.g2 p.l1 p.com1 p.b1 p.u p.c0 p.c1 p.l2 p.com2 p.b2 p.u2 p.d2_0 p.d2_1 p.L p.a p.o p.cp p.now p.cnt (p.L.length - p.a) p.l0.length p.l1.length p.l2.length) 38) (ay bS aW aP ⟨p.l1⟩ fun p2 r2=>mP (r2.o.length=r2.o.length) (mP (r2.o.length=r2.o.length) (ae fun h2:Value=>iP ((r2.o.length:Int)<p.com1) (K (.bool false) (WO p1.l p.com0 p.g0 p.g1 p.g2 p2.l p.com1 p.b1 p.u p.c0 p.c1 p.l2 p.com2 p.b2 p.u2 p.d2_0 p.d2_1 p.L p.a p.o p.cp p.now p.cnt (p.L.length - p.a) p.l0.length p.l1.length p.l2.length) 38) (wt (([.sy (.prow 0 p.l0.length)],(n0 (aO p1.l)),1)) bS aW aP fun p3 r3=>mP (r3.o.length=r3.o.length) (mP (r3.o.length=r3.o.length) (ae fun h3:Value=>mP (0≤(0:Int)∧(0:Int)≤p.com1∧p.com1≤(r2.o.length:Int)) (mP (0≤(0:Int)∧(0:Int)≤p.com1∧p.com1≤(r2.o.length:Int)) (mE (.imm (fp h2 18 0 p.com1.toNat) 18 Ke ((r2.o.drop 0).take (p.com1.toNat - 0)) au) (mP (0≤(0:Int)∧(0:Int)≤p.com0∧p.com0≤(r3.o.length:Int)) (aL lK da ⟨fp h2 18 0 p.com1.toNat,(r2.o.drop 0).take (p.com1.toNat - 0),fp h3 18 0 p.com0.toNat,(r3.o.drop 0).take (p.com0.toNat - 0)⟩ fun p4=>ay bS aW aP ⟨p.l2⟩ fun p5 r4=>mP (r4.o.length=r4.o.length) (mP (r4.o.length=r4.o.length) (ae fun h4:Value=>iP ((r4.o.length:Int)<p.com2) (K (.bool false) (WO p3.l p.com0 p.g0 p.g1 p.g2 p2.l p.com1 p.b1 p.u p.c0 p.c1 p5.l p.com2 p.b2 p.u2 p.d2_0 p.d2_1 p.L p.a p.o p.cp p.now p.cnt (p.L.length - p.a) p.l0.length p.l1.length p.l2.length) 38) (wt (([.sy (.prow 0 p.l0.length)],(n0 (aO p3.l)),1)) bS aW aP fun p6 r5=>mP (r5.o.length=r5.o.length) (mP (r5.o.length=r5.o.length) (ae fun h5:Value=>mP (0≤(0:Int)∧(0:Int)≤p.com2∧p.com2≤(r4.o.length:Int)) (mP (0≤(0:Int)∧(0:Int)≤p.com2∧p.com2≤(r4.o.length:Int)) (mE (.imm (fp h4 18 0 p.com2.toNat) 18 Ke ((r4.o.drop 0).take (p.com2.toNat - 0)) au) (mP (0≤(0:Int)∧(0:Int)≤p.com0∧p.com0≤(r5.o.length:Int)) (aL lK da ⟨fp h4 18 0 p.com2.toNat,(r4.o.drop 0).take (p.com2.toNat - 0),fp h5 18 0 p.com0.toNat,(r5.o.drop 0).take (p.com0.toNat - 0)⟩ fun p7=>wt (([.sy (.prow 0 p.l1.length)],(n0 (aO p2.l)),1)) bS aW aP fun p8 r6=>mP (r6.o.length=r6.o.length) (mP (r6.o.length=r6.o.length) (ae fun h6:Value=>mP (0≤(0:Int)∧(0:Int)≤p.com2∧p.com2≤(r4.o.length:Int)) (mP (0≤(0:Int)∧(0:Int)≤p.com2∧p.com2≤(r4.o.length:Int)) (mE (.imm (fp h4 18 0 p.com2.toNat) 18 Ke ((r4.o.drop 0).take (p.com2.toNat - 0)) au) (mP (0≤(0:Int)∧(0:Int)≤p.com1∧p.com1≤(r6.o.length:Int)) (aL lK da ⟨fp h4 18 0 p.com2.toNat,(r4.o.drop 0).take (p.com2.toNat - 0),fp h6 18 0 p.com1.toNat,(r6.o.drop 0).take (p.com1.toNat - 0)⟩ fun p9=>K (.bool true) (WO p6.l p.com0 p.g0 p.g1 p.g2 p8.l p.com1 p.b1 p.u p.c0 p.c1 p5.l p.com2 p.b2 p.u2 p.d2_0 p.d2_1 p.L p.a p.o p.cp p.now p.cnt (p.L.length - p.a) p.l0.length p.l1.length p.l2.length) 38))))))))))))))))))))))))))))) (by kernel_rfl) ?_
 dsimp only[uo]at hpre
 obtain⟨ic0,in0,ic1,in1,ic2,in2,ib0,il2⟩:=hpre
 have im2:=congrArg List.length il2
 have hb10:p.l0++p.l1.drop p.l0.length=p.l1:=(by exact ib0)
 have hb20:p.l0++p.l2.drop p.l0.length=p.l2:=(by rw[il2];exact ib0)
 have hb21:p.l1++p.l2.drop p.l1.length=p.l2:=(by rw[il2];simp)
 refine ei fun r1 hi1=> ?_
 dsimp only[aP]at hi1 ⊢
 obtain⟨eahi1,elhi1⟩:=hi1
 refine aH (aH ?_)
 refine ac fun h1=> ?_
 refine iX fun hc2=> ?_
 refine ei fun r2 hi3=> ?_
 dsimp only[aP]at hi3 ⊢
 obtain⟨eahi3,elhi3⟩:=hi3
 refine aH (aH ?_)
 refine ac fun h2=> ?_
 refine iX fun hc4=> ?_
 refine oe (⟨p.l0⟩:cj) rfl (by(try dsimp only[aW]);first|omega|(simp only[apL,apW];omega)) fun r3 hi5=> ?_
 dsimp only[aP]at hi5
 obtain⟨eahi5,elhi5⟩:=hi5
 refine aH (aH ?_)
 refine ac fun h3=> ?_
 refine iD (iD (aH (iD ?_)))
 refine aV (by(try dsimp only[da]);apply No<;>first|assumption|omega) ?_
 refine ei fun r4 hi6=> ?_
 dsimp only[aP]at hi6 ⊢
 obtain⟨eahi6,elhi6⟩:=hi6
 refine aH (aH ?_)
 refine ac fun h4=> ?_
 refine iX fun hc7=> ?_
 refine oe (⟨p.l0⟩:cj) rfl (by(try dsimp only[aW]);first|omega|(simp only[apL,apW];omega)) fun r5 hi8=> ?_
 dsimp only[aP]at hi8
 obtain⟨eahi8,elhi8⟩:=hi8
 refine aH (aH ?_)
 refine ac fun h5=> ?_
 refine iD (iD (aH (iD ?_)))
 refine aV (by(try dsimp only[da]);apply No<;>first|assumption|omega) ?_
 refine oe (⟨p.l1⟩:cj) rfl (by(try dsimp only[aW]);first|omega|(simp only[apL,apW];omega)) fun r6 hi9=> ?_
 dsimp only[aP]at hi9
 obtain⟨eahi9,elhi9⟩:=hi9
 refine aH (aH ?_)
 refine ac fun h6=> ?_
 refine iD (iD (aH (iD ?_)))
 refine aV (by(try dsimp only[da]);apply No<;>first|assumption|omega) ?_
 exact hK
noncomputable def nc_right3:EE 11 1:=bA (fun us M=>Nat.beq (jm M 1) 3) (nE EL acN) eS
noncomputable def MC:NN:=ck Sc nc_right3.2 [(0,4)]
abbrev Mf:=nF
noncomputable def WW (p:Mf):IE:=([.ptr 0 0],(dv p.l0 p.com0 p.g0 p.g1 p.g2 p.g3 p.l1 p.com1 p.b1 p.u p.c0 p.c1 p.c2 p.l2 p.com2 p.b2 p.u2 p.d2_0 p.d2_1 p.d2_2 p.l3 p.com3 p.b3 p.u3 p.d3_0 p.d3_1 p.d3_2 p.L p.a p.o p.cp p.now p.cnt),50)
noncomputable def abr (p:Mf) (K:KE):Bool:=K (.bool true) (dv p.l0 p.com0 p.g0 p.g1 p.g2 p.g3 p.l1 p.com1 p.b1 p.u p.c0 p.c1 p.c2 p.l2 p.com2 p.b2 p.u2 p.d2_0 p.d2_1 p.d2_2 p.l3 p.com3 p.b3 p.u3 p.d3_0 p.d3_1 p.d3_2 p.L p.a p.o p.cp p.now p.cnt) 50
def um (p:Mf):Prop:=p.com0=(p.l0.length:Int)∧p.l0.length≤400∧p.com1=(p.l1.length:Int)∧p.l1.length≤400∧p.com2=(p.l2.length:Int)∧p.l2.length≤400∧p.com3=(p.l3.length:Int)∧p.l3.length≤400∧p.l0++p.l1.drop p.l0.length=p.l1∧p.l2=p.l1∧p.l3=p.l1
theorem acM:Vf um abr 1 MC aJ EM WW:=by
 intro p K hpre hK
 refine Eq.trans (b:=(ay bS aW aP ⟨p.l0⟩ fun p1 r1=>mP (r1.o.length=r1.o.length) (mP (r1.o.length=r1.o.length) (ae fun h1:Value=>iP ((r1.o.length:Int)<p.com0) (K (.bool false) (Hd p1.l p.com0 p.g0 p.g1 p.g2 p.g3 p.l1 p.com1 p.b1 p.u p.c0 p.c1 p.c2 p.l2 p.com2 p.b2 p.u2 p.d2_0 p.d2_1 p.d2_2 p.l3 p.com3 p.b3 p.u3 p.d3_0 p.d3_1 p.d3_2 p.L p.a p.o p.cp p.now p.cnt (p.L.length - p.a) p.l0.length p.l1.length p.l2.length p.l3.length) 50) (ay bS aW aP ⟨p.l1⟩ fun p2 r2=>mP (r2.o.length=r2.o.length) (mP (r2.o.length=r2.o.length) (ae fun h2:Value=>iP ((r2.o.length:Int)<p.com1) (K (.bool false) (Hd p1.l p.com0 p.g0 p.g1 p.g2 p.g3 p2.l p.com1 p.b1 p.u p.c0 p.c1 p.c2 p.l2 p.com2 p.b2 p.u2 p.d2_0 p.d2_1 p.d2_2 p.l3 p.com3 p.b3 p.u3 p.d3_0 p.d3_1 p.d3_2 p.L p.a p.o p.cp p.now p.cnt (p.L.length - p.a) p.l0.length p.l1.length p.l2.length p.l3.length) 50) (wt (([.sy (.prow 0 p.l0.length)],(n0 (aO p1.l)),1)) bS aW aP fun p3 r3=>mP (r3.o.length=r3.o.length) (mP (r3.o.length=r3.o.length) (ae fun h3:Value=>mP (0≤(0:Int)∧(0:Int)≤p.com1∧p.com1≤(r2.o.length:Int)) (mP (0≤(0:Int)∧(0:Int)≤p.com1∧p.com1≤(r2.o.length:Int)) (mE (.imm (fp h2 18 0 p.com1.toNat) 18 Ke ((r2.o.drop 0).take (p.com1.toNat - 0)) au) (mP (0≤(0:Int)∧(0:Int)≤p.com0∧p.com0≤(r3.o.length:Int)) (aL lK da ⟨fp h2 18 0 p.com1.toNat,(r2.o.drop 0).take (p.com1.toNat - 0),fp h3 18 0 p.com0.toNat,(r3.o.drop 0).take (p.com0.toNat - 0)⟩ fun p4=>ay bS aW aP ⟨p.l2⟩ fun p5 r4=>mP (r4.o.length=r4.o.length) (mP (r4.o.length=r4.o.length) (ae fun h4:Value=>iP ((r4.o.length:Int)<p.com2) (K (.bool false) (Hd p3.l p.com0 p.g0 p.g1 p.g2 p.g3 p2.l p.com1 p.b1 p.u p.c0 p.c1 p.c2 p5.l p.com2 p.b2 p.u2 p.d2_0 p.d2_1 p.d2_2 p.l3 p.com3 p.b3 p.u3 p.d3_0 p.d3_1 p.d3_2 p.L p.a p.o p.cp p.now p.cnt (p.L.length - p.a) p.l0.length p.l1.length p.l2.length p.l3.length) 50) (wt (([.sy (.prow 0 p.l0.length)],(n0 (aO p3.l)),1)) bS aW aP fun p6 r5=>mP (r5.o.length=r5.o.length) (mP (r5.o.length=r5.o.length) (ae fun h5:Value=>mP (0≤(0:Int)∧(0:Int)≤p.com2∧p.com2≤(r4.o.length:Int)) (mP (0≤(0:Int)∧(0:Int)≤p.com2∧p.com2≤(r4.o.length:Int)) (mE (.imm (fp h4 18 0 p.com2.toNat) 18 Ke ((r4.o.drop 0).take (p.com2.toNat - 0)) au) (mP (0≤(0:Int)∧(0:Int)≤p.com0∧p.com0≤(r5.o.length:Int)) (aL lK da ⟨fp h4 18 0 p.com2.toNat,(r4.o.drop 0).take (p.com2.toNat - 0),fp h5 18 0 p.com0.toNat,(r5.o.drop 0).take (p.com0.toNat - 0)⟩ fun p7=>wt (([.sy (.prow 0 p.l1.length)],(n0 (aO p2.l)),1)) bS aW aP fun p8 r6=>mP (r6.o.length=r6.o.length) (mP (r6.o.length=r6.o.length) (ae fun h6:Value=>mP (0≤(0:Int)∧(0:Int)≤p.com2∧p.com2≤(r4.o.length:Int)) (mP (0≤(0:Int)∧(0:Int)≤p.com2∧p.com2≤(r4.o.length:Int)) (mE (.imm (fp h4 18 0 p.com2.toNat) 18 Ke ((r4.o.drop 0).take (p.com2.toNat - 0)) au) (mP (0≤(0:Int)∧(0:Int)≤p.com1∧p.com1≤(r6.o.length:Int)) (aL lK da ⟨fp h4 18 0 p.com2.toNat,(r4.o.drop 0).take (p.com2.toNat - 0),fp h6 18 0 p.com1.toNat,(r6.o.drop 0).take (p.com1.toNat - 0)⟩ fun p9=>ay bS aW aP ⟨p.l3⟩ fun p10 r7=>mP (r7.o.length=r7.o.length) (mP (r7.o.length=r7.o.length) (ae fun h7:Value=>iP ((r7.o.length:Int)<p.com3) (K (.bool false) (Hd p6.l p.com0 p.g0 p.g1 p.g2 p.g3 p8.l p.com1 p.b1 p.u p.c0 p.c1 p.c2 p5.l p.com2 p.b2 p.u2 p.d2_0 p.d2_1 p.d2_2 p10.l p.com3 p.b3 p.u3 p.d3_0 p.d3_1 p.d3_2 p.L p.a p.o p.cp p.now p.cnt (p.L.length - p.a) p.l0.length p.l1.length p.l2.length p.l3.length) 50) (wt (([.sy (.prow 0 p.l0.length)],(n0 (aO p6.l)),1)) bS aW aP fun p11 r8=>mP (r8.o.length=r8.o.length) (mP (r8.o.length=r8.o.length) (ae fun h8:Value=>mP (0≤(0:Int)∧(0:Int)≤p.com3∧p.com3≤(r7.o.length:Int)) (mP (0≤(0:Int)∧(0:Int)≤p.com3∧p.com3≤(r7.o.length:Int)) (mE (.imm (fp h7 18 0 p.com3.toNat) 18 Ke ((r7.o.drop 0).take (p.com3.toNat - 0)) au) (mP (0≤(0:Int)∧(0:Int)≤p.com0∧p.com0≤(r8.o.length:Int)) (aL lK da ⟨fp h7 18 0 p.com3.toNat,(r7.o.drop 0).take (p.com3.toNat - 0),fp h8 18 0 p.com0.toNat,(r8.o.drop 0).take (p.com0.toNat - 0)⟩ fun p12=>wt (([.sy (.prow 0 p.l1.length)],(n0 (aO p8.l)),1)) bS aW aP fun p13 r9=>mP (r9.o.length=r9.o.length) (mP (r9.o.length=r9.o.length) (ae fun h9:Value=>mP (0≤(0:Int)∧(0:Int)≤p.com3∧p.com3≤(r7.o.length:Int)) (mP (0≤(0:Int)∧(0:Int)≤p.com3∧p.com3≤(r7.o.length:Int)) (mE (.imm (fp h7 18 0 p.com3.toNat) 18 Ke ((r7.o.drop 0).take (p.com3.toNat - 0)) au) (mP (0≤(0:Int)∧(0:Int)≤p.com1∧p.com1≤(r9.o.length:Int)) (aL lK da ⟨fp h7 18 0 p.com3.toNat,(r7.o.drop 0).take (p.com3.toNat - 0),fp h9 18 0 p.com1.toNat,(r9.o.drop 0).take (p.com1.toNat - 0)⟩ fun p14=>wt (([.sy (.prow 0 p.l2.length)],(n0 (aO p5.l)),1)) bS aW aP fun p15 r10=>mP (r10.o.length=r10.o.length) (mP (r10.o.length=r10.o.length) (ae fun h10:Value=>mP (0≤(0:Int)∧(0:Int)≤p.com3∧p.com3≤(r7.o.length:Int)) (mP (0≤(0:Int)∧(0:Int)≤p.com3∧p.com3≤(r7.o.length:Int)) (mE (.imm (fp h7 18 0 p.com3.toNat) 18 Ke ((r7.o.drop 0).take (p.com3.toNat - 0)) au) (mP (0≤(0:Int)∧(0:Int)≤p.com2∧p.com2≤(r10.o.length:Int)) (aL lK da ⟨fp h7 18 0 p.com3.toNat,(r7.o.drop 0).take (p.com3.toNat - 0),fp h10 18 0 p.com2.toNat,(r10.o.drop 0).take (p.com2.toNat - 0)⟩ fun p16=>K (.bool true) (Hd p11.l p.com0 p.g0 p.g1 p.g2 p.g3 p13.l p.com1 p.b1 p.u p.c0 p.c1 p.c2 p15.l p.com2 p.b2 p.u2 p.d2_0 p.d2_1 p.d2_2 p10.l p.com3 p.b3 p.u3 p.d3_0 p.d3_1 p.d3_2 p.L p.a p.o p.cp p.now p.cnt (p.L.length - p.a) p.l0.length p.l1.length p.l2.length p.l3.length) 50)))))))))))))))))))))))))))))))))))))))))))))))))) (by kernel_rfl) ?_
 dsimp only[um]at hpre
 obtain⟨ic0,in0,ic1,in1,ic2,in2,ic3,in3,ib0,il2,il3⟩:=hpre
 have im2:=congrArg List.length il2
 have im3:=congrArg List.length il3
 have hb10:p.l0++p.l1.drop p.l0.length=p.l1:=(by exact ib0)
 have hb20:p.l0++p.l2.drop p.l0.length=p.l2:=(by rw[il2];exact ib0)
 have hb21:p.l1++p.l2.drop p.l1.length=p.l2:=(by rw[il2];simp)
 have hb30:p.l0++p.l3.drop p.l0.length=p.l3:=(by rw[il3];exact ib0)
 have hb31:p.l1++p.l3.drop p.l1.length=p.l3:=(by rw[il3];simp)
 have hb32:p.l2++p.l3.drop p.l2.length=p.l3:=(by rw[il3,il2];simp)
 refine ei fun r1 hi1=> ?_
 dsimp only[aP]at hi1 ⊢
 obtain⟨eahi1,elhi1⟩:=hi1
 refine aH (aH ?_)
 refine ac fun h1=> ?_
 refine iX fun hc2=> ?_
 refine ei fun r2 hi3=> ?_
 dsimp only[aP]at hi3 ⊢
 obtain⟨eahi3,elhi3⟩:=hi3
 refine aH (aH ?_)
 refine ac fun h2=> ?_
 refine iX fun hc4=> ?_
 refine oe (⟨p.l0⟩:cj) rfl (by(try dsimp only[aW]);first|omega|(simp only[apL,apW];omega)) fun r3 hi5=> ?_
 dsimp only[aP]at hi5
 obtain⟨eahi5,elhi5⟩:=hi5
 refine aH (aH ?_)
 refine ac fun h3=> ?_
 refine iD (iD (aH (iD ?_)))
 refine aV (by(try dsimp only[da]);apply No<;>first|assumption|omega) ?_
 refine ei fun r4 hi6=> ?_
 dsimp only[aP]at hi6 ⊢
 obtain⟨eahi6,elhi6⟩:=hi6
 refine aH (aH ?_)
 refine ac fun h4=> ?_
 refine iX fun hc7=> ?_
 refine oe (⟨p.l0⟩:cj) rfl (by(try dsimp only[aW]);first|omega|(simp only[apL,apW];omega)) fun r5 hi8=> ?_
 dsimp only[aP]at hi8
 obtain⟨eahi8,elhi8⟩:=hi8
 refine aH (aH ?_)
 refine ac fun h5=> ?_
 refine iD (iD (aH (iD ?_)))
 refine aV (by(try dsimp only[da]);apply No<;>first|assumption|omega) ?_
 refine oe (⟨p.l1⟩:cj) rfl (by(try dsimp only[aW]);first|omega|(simp only[apL,apW];omega)) fun r6 hi9=> ?_
 dsimp only[aP]at hi9
 obtain⟨eahi9,elhi9⟩:=hi9
 refine aH (aH ?_)
 refine ac fun h6=> ?_
 refine iD (iD (aH (iD ?_)))
 refine aV (by(try dsimp only[da]);apply No<;>first|assumption|omega) ?_
 refine ei fun r7 hi10=> ?_
 dsimp only[aP]at hi10 ⊢
 obtain⟨eahi10,elhi10⟩:=hi10
 refine aH (aH ?_)
 refine ac fun h7=> ?_
 refine iX fun hc11=> ?_
 refine oe (⟨p.l0⟩:cj) rfl (by(try dsimp only[aW]);first|omega|(simp only[apL,apW];omega)) fun r8 hi12=> ?_
 dsimp only[aP]at hi12
 obtain⟨eahi12,elhi12⟩:=hi12
 refine aH (aH ?_)
 refine ac fun h8=> ?_
 refine iD (iD (aH (iD ?_)))
 refine aV (by(try dsimp only[da]);apply No<;>first|assumption|omega) ?_
 refine oe (⟨p.l1⟩:cj) rfl (by(try dsimp only[aW]);first|omega|(simp only[apL,apW];omega)) fun r9 hi13=> ?_
 dsimp only[aP]at hi13
 obtain⟨eahi13,elhi13⟩:=hi13
 refine aH (aH ?_)
 refine ac fun h9=> ?_
 refine iD (iD (aH (iD ?_)))
 refine aV (by(try dsimp only[da]);apply No<;>first|assumption|omega) ?_
 refine oe (⟨p.l2⟩:cj) rfl (by(try dsimp only[aW]);first|omega|(simp only[apL,apW];omega)) fun r10 hi14=> ?_
 dsimp only[aP]at hi14
 obtain⟨eahi14,elhi14⟩:=hi14
 refine aH (aH ?_)
 refine ac fun h10=> ?_
 refine iD (iD (aH (iD ?_)))
 refine aV (by(try dsimp only[da]);apply No<;>first|assumption|omega) ?_
 exact hK
noncomputable def nc_right4:EE 11 1:=bA (fun us M=>Nat.beq (jm M 1) 4) (nE EL acM) nc_right3
noncomputable def nat_right4:NN:=ck MC nc_right4.2 [(0,4)]
end Go.Proofs.Tryz
namespace Go.Proofs.Tryz
open Go Go.RowKit Go.Sy
open Go.Eng hiding ae
set_option maxRecDepth 1000000
set_option linter.unusedVariables false
set_option maxHeartbeats 4000000
def GV:XC:=(.aft (.seq (.seq (g_ 3 [p_ 0 26 (m_ 9),p_ 1 27 (m_ 1),p_ 2 28 (.bin 3 0 (.t 26) (.t 27))]) (.cond (.t 28) .skip (.exit 2))) (.seq (.block 3 (g_ 3 [p_ 0 31 (m_ 8),p_ 1 32 (.bld [o_ 0,o_ 0,o_ 0,o_ 0] [(0,1)] [i_ 7]),c_ 2 33 10 [.t 31,.t 32]])) (g_ 3 [p_ 0 29 (m_ 9),p_ 1 30 (.bin 0 0 (.t 29) (i_ 1)),p_ 2 9 (m_ 30)]))) [(0,[.can 0 [1,2,7,8,9]]),(2,[.can 0 [1,2,7,8]])])
def GU:XC:=(.aft (.seq (.seq (g_ 3 [p_ 0 57 (m_ 11),p_ 1 58 (m_ 2),p_ 2 59 (.bin 3 0 (.t 57) (.t 58))]) (.cond (.t 59) .skip (.exit 6))) (.seq (.block 7 (g_ 3 [p_ 0 62 (m_ 8),p_ 1 63 (.bld [o_ 0,o_ 0,o_ 0,o_ 0] [(0,1),(1,1)] [i_ 7,i_ 1]),c_ 2 64 10 [.t 62,.t 63]])) (g_ 3 [p_ 0 60 (m_ 11),p_ 1 61 (.bin 0 0 (.t 60) (i_ 1)),p_ 2 11 (m_ 61)]))) [(0,[.can 0 [1,2,7,8,11]]),(6,[.can 0 [1,2,7,8]])])
def EK:XF:=.mk 122 (.one 6) (.seq (g_ 1 [p_ 0 6 (.mv F_)]) (.seq (.seq (g_ 2 [c_ 0 13 8 [],p_ 1 14 (.un 0 (.t 13))]) (.cond (.t 14) (.seq (g_ 1 [p_ 0 6 (.mv F_)]) .ret) .skip)) (.seq (g_ 1 [p_ 0 7 (.mv (i_ 3))]) (.seq (.seq (g_ 1 [p_ 0 15 (m_ 0)]) (.cond (.t 15) (g_ 1 [p_ 0 7 (.mv (i_ 4))]) .skip)) (.seq (g_ 3 [p_ 0 16 (m_ 7),c_ 1 17 9 [.t 16,i_ 0],p_ 2 8 (m_ 17)]) (.seq (g_ 5 [p_ 0 18 (m_ 1),p_ 1 19 (.bin 0 4 (.t 18) (i_ 15)),p_ 2 20 (.bin 0 0 (.t 19) (i_ 15)),p_ 3 21 (.bin 0 4 (.t 20) (i_ 15)),p_ 4 1 (m_ 21)]) (.seq (g_ 5 [p_ 0 22 (m_ 2),p_ 1 23 (.bin 0 4 (.t 22) (i_ 15)),p_ 2 24 (.bin 0 0 (.t 23) (i_ 15)),p_ 3 25 (.bin 0 4 (.t 24) (i_ 15)),p_ 4 2 (m_ 25)]) (.seq (.seq (g_ 1 [p_ 0 9 (.mv (i_ 0))]) (.block 2 (.pre [.can 0 [1,2,7,8,9],.up 9,.can 0 [1,2,7,8,9]] (.inv 0 GV)))) (.seq (g_ 2 [p_ 0 34 (m_ 8),c_ 1 35 15 [.t 34,i_ 5]]) (.seq (g_ 6 [p_ 0 36 (m_ 8),p_ 1 37 (n_ 36),p_ 2 38 (f_ 1 37),r_ 3 39 (l_ 38),p_ 4 40 (.ixs 1 (.t 39) (i_ 0)),aK 5 (.st 1 (.t 40) T_)]) (.seq (.seq (g_ 1 [p_ 0 10 (.mv (i_ 1))]) (.block 4 (.loop [1,2,6,7,8,10,11,12,41,42,43,44,45,46,47,48,49,50,51,52,53,55,57,58,59,60,61,62,63,65,67,68,69,70,71,72,73,74,75,76,77,78,79,80,81,82,83,84,85,86,87,88,89,90,91,92,93,94,95,96,97,98,99,100,101,102,103,104,105,106,107,108,109,110,111,112,113,114,115,116,117,118,119,120,121] (.seq (.seq (g_ 3 [p_ 0 41 (m_ 10),p_ 1 42 (m_ 7),p_ 2 43 (.bin 3 0 (.t 41) (.t 42))]) (.cond (.t 43) .skip (.exit 4))) (.seq (.block 5 (h_ 9 [p_ 0 46 (m_ 8),p_ 1 47 (n_ 46),p_ 2 48 (f_ 0 47),r_ 3 49 (l_ 48),p_ 4 50 (m_ 10),p_ 5 51 (.ixs 1 (.t 49) (.t 50)),r_ 6 52 (l_ 51),c_ 7 53 21 [i_ 0],a_ 3 49 (l_ 48),a_ 6 52 (l_ 51),c_ 8 54 20 [.t 52,.t 53]])) (g_ 3 [p_ 0 44 (m_ 10),p_ 1 45 (.bin 0 0 (.t 44) (i_ 1)),p_ 2 10 (m_ 45)])))))) (.seq (g_ 2 [p_ 0 55 (m_ 8),c_ 1 56 15 [.t 55,i_ 40]]) (.seq (.seq (g_ 1 [p_ 0 11 (.mv (i_ 0))]) (.block 6 (.pre [.can 0 [1,2,7,8,11],.up 11,.can 0 [1,2,7,8,11]] (.inv 1 GU)))) (.seq (g_ 2 [p_ 0 65 (m_ 8),c_ 1 66 15 [.t 65,i_ 10]]) (.seq (.seq (g_ 1 [p_ 0 12 (.mv (i_ 1))]) (.block 8 (.loop [1,2,6,7,8,12,67,68,69,70,71,72,73,74,75,76,77,78,79,80,81,82,83,84,85,86,87,88,89,90,91,92,93,94,95,96,97,98,99,100,101,102,103,104,105,106,107,108,109,110,111,112,113,114,115,116,117,118,119,120,121] (.seq (.seq (g_ 3 [p_ 0 67 (m_ 12),p_ 1 68 (m_ 7),p_ 2 69 (.bin 3 0 (.t 67) (.t 68))]) (.cond (.t 69) .skip (.exit 8))) (.seq (.block 9 (.seq (g_ 39 [p_ 0 72 (m_ 8),p_ 1 73 (n_ 72),p_ 2 74 (f_ 0 73),r_ 3 75 (l_ 74),p_ 4 76 (m_ 12),p_ 5 77 (.ixs 1 (.t 75) (.t 76)),r_ 6 78 (l_ 77),c_ 7 79 16 [.t 78],p_ 8 80 (.fld false 1 1 (.t 79)),p_ 9 81 (.bin 3 5 (.t 80) (v_ 3 2)),p_ 10 82 (m_ 81),ah 11 83 82 false (m_ 8),ah 12 84 82 false (n_ 83),ah 13 85 82 false (f_ 0 84),aT 14 86 82 false (l_ 85),ah 15 87 82 false (m_ 12),ah 16 88 82 false (.ixs 1 (.t 86) (.t 87)),aT 17 89 82 false (l_ 88),cG 18 90 82 false 16 [.t 89],ah 19 91 82 false (.fld false 2 1 (.t 90)),ah 20 92 82 false (k_ 91),ah 21 93 82 false (m_ 7),ah 22 94 82 false (.bin 0 1 (.t 93) (i_ 1)),ah 23 95 82 false (.bin 3 5 (.t 92) (.t 94)),p_ 24 96 (.pick (.t 82) T_ (.t 95)),p_ 25 97 (m_ 96),ah 26 98 97 false (m_ 8),ah 27 99 97 false (n_ 98),ah 28 100 97 false (f_ 0 99),aT 29 101 97 false (l_ 100),ah 30 102 97 false (m_ 12),ah 31 103 97 false (.ixs 1 (.t 101) (.t 102)),aT 32 104 97 false (l_ 103),cG 33 105 97 false 12 [.t 104],ah 34 106 97 false (m_ 1),ah 35 107 97 false (m_ 2),ah 36 108 97 false (.bin 0 0 (.t 106) (.t 107)),ah 37 109 97 false (.bin 3 5 (.t 105) (.t 108)),p_ 38 110 (.pick (.t 97) T_ (.t 109))]) (.cond (.t 110) (.seq (g_ 1 [p_ 0 6 (.mv F_)]) .ret) .skip))) (g_ 3 [p_ 0 70 (m_ 12),p_ 1 71 (.bin 0 0 (.t 70) (i_ 1)),p_ 2 12 (m_ 71)])))))) (.seq (g_ 12 [p_ 0 111 (m_ 8),c_ 1 112 11 [.t 111],p_ 2 113 (m_ 112),ah 3 114 113 true (m_ 8),ah 4 115 113 true (n_ 114),ah 5 116 113 true (f_ 0 115),aT 6 117 113 true (l_ 116),ah 7 118 113 true (.ixs 1 (.t 117) (i_ 1)),aT 8 119 113 true (l_ 118),cG 9 120 113 true 22 [.t 119],p_ 10 121 (.pick (.t 113) (.t 120) F_),p_ 11 6 (m_ 121)]) .ret))))))))))))))))
theorem MZ:bN Tryz.prog 7 EK=true:=by kernel_rfl
structure gu where (N Mo i:Int) (l0:List Ke) (com0 g0 g1 g2:Int) (l1:List Ke) (com1:Int) (l2:List Ke) (com2:Int) (L:List Fx) (a o cp:Nat) (now cnt:Int)
structure CQ where (l0:List Ke) (com0 g0 cnt:Int)
def tM (p:gu) (r:CQ):Prop:=bF r.l0∧(r.l0.length:Int)=p.N∧r.cnt=p.N∧0≤r.com0∧r.com0≤p.N
noncomputable def mC (p:gu):IL:=((.cons 9 (.sy (.int 0 p.i)) (.cons 8 (.ptr 0 0) (.cons 7 (.int 0 (.ofNat 3)) (.cons 2 (.sy (.int 0 p.Mo)) (.cons 1 (.sy (.int 0 p.N)) .nil))))),(mw p.l0 p.com0 p.g0 p.g1 p.g2 p.l1 p.com1 p.l2 p.com2 p.L p.a p.o p.cp p.now p.cnt),34)
noncomputable def EH (p:gu) (K:KC) (r:CQ):Bool:=K 2 (.cons 8 (.ptr 0 0) (.cons 7 (.int 0 (.ofNat 3)) (.cons 2 (.sy (.int 0 p.Mo)) (.cons 1 (.sy (.int 0 p.N)) .nil)))) (mw r.l0 r.com0 r.g0 p.g1 p.g2 p.l1 p.com1 p.l2 p.com2 p.L p.a p.o p.cp p.now r.cnt) 34
noncomputable def uu (p:gu) (K:KC):Bool:=ae fun r=>iP (tM p r) (EH p K r) true
def kg (p:gu):Prop:=0≤p.N∧p.N≤14∧0≤p.Mo∧p.Mo≤14∧0≤p.i∧p.i≤p.N∧bF p.l0∧(p.l0.length:Int)=p.i∧p.cnt=p.i∧0≤p.com0∧p.com0≤p.i∧p.L.length=0∧p.a=0∧p.now=0∧Zr p.l1 p.com1 p.g1∧Zr p.l2 p.com2 p.g2
theorem ab7 {p:gu} {K:KC} (hK:uu p K=true) {r:CQ} (h:tM p r):EH p K r=true:=ax h (aq hK r)
noncomputable def DG (p:gu) (K:KC):Bool:=aa (aN (kg p)) (uu p K)
def zB (p:gu):Nat:=(p.N - p.i).toNat
structure gq where (N Mo i:Int) (l0:List Ke) (com0 g0 g1 g2 g3:Int) (l1:List Ke) (com1:Int) (l2:List Ke) (com2:Int) (l3:List Ke) (com3:Int) (L:List Fx) (a o cp:Nat) (now cnt:Int)
abbrev LW:=CQ
def tL (p:gq) (r:LW):Prop:=bF r.l0∧(r.l0.length:Int)=p.N∧r.cnt=p.N∧0≤r.com0∧r.com0≤p.N
noncomputable def mB (p:gq):IL:=((.cons 9 (.sy (.int 0 p.i)) (.cons 8 (.ptr 0 0) (.cons 7 (.int 0 (.ofNat 4)) (.cons 2 (.sy (.int 0 p.Mo)) (.cons 1 (.sy (.int 0 p.N)) .nil))))),(iH p.l0 p.com0 p.g0 p.g1 p.g2 p.g3 p.l1 p.com1 p.l2 p.com2 p.l3 p.com3 p.L p.a p.o p.cp p.now p.cnt),44)
noncomputable def EG (p:gq) (K:KC) (r:LW):Bool:=K 2 (.cons 8 (.ptr 0 0) (.cons 7 (.int 0 (.ofNat 4)) (.cons 2 (.sy (.int 0 p.Mo)) (.cons 1 (.sy (.int 0 p.N)) .nil)))) (iH r.l0 r.com0 r.g0 p.g1 p.g2 p.g3 p.l1 p.com1 p.l2 p.com2 p.l3 p.com3 p.L p.a p.o p.cp p.now r.cnt) 44
noncomputable def ut (p:gq) (K:KC):Bool:=ae fun r=>iP (tL p r) (EG p K r) true
def ke (p:gq):Prop:=0≤p.N∧p.N≤14∧0≤p.Mo∧p.Mo≤14∧0≤p.i∧p.i≤p.N∧bF p.l0∧(p.l0.length:Int)=p.i∧p.cnt=p.i∧0≤p.com0∧p.com0≤p.i∧p.L.length=0∧p.a=0∧p.now=0∧Zr p.l1 p.com1 p.g1∧Zr p.l2 p.com2 p.g2∧Zr p.l3 p.com3 p.g3
theorem ab6 {p:gq} {K:KC} (hK:ut p K=true) {r:LW} (h:tL p r):EG p K r=true:=ax h (aq hK r)
noncomputable def DF (p:gq) (K:KC):Bool:=aa (aN (ke p)) (ut p K)
def zA (p:gq):Nat:=(p.N - p.i).toNat
noncomputable def KZ (S:SL) (M:T) (nx:Nat) (K:KC):Bool:=(Bool.rec (Bool.rec false (aM fun p:gq=>aa (aN ((S,M,nx)=mB p)) (DF p K)) (Nat.beq (jm M 1) 4)) (aM fun p:gu=>aa (aN ((S,M,nx)=mC p)) (DG p K)) (Nat.beq (jm M 1) 3))
inductive A_sub1 where
 |v3 (p:gu)
 |v4 (p:gq)
noncomputable def WV (q:A_sub1):IL:=A_sub1.casesOn q (fun p=>mC p) (fun p=>mB p)
def nm:A_sub1→Nat
 |.v3 p=>zB p
 |.v4 p=>zA p
noncomputable def Oa (q:A_sub1) (K:KC):Bool:=A_sub1.casesOn q (fun p=>DG p K) (fun p=>DF p K)
noncomputable def YZ (n:Nat) (K:KC):KC:=fun e S M nx=>Nat.casesOn e (aM fun q:A_sub1=>aa (aN ((S,M,nx)=WV q∧nm q<n)) (Oa q K)) (fun e2=>K (Nat.succ e2) S M nx)
noncomputable def GX (s:IL) (n:Nat) (K:KC):Bool:=aM fun q=>mP (s=WV q∧nm q<n) (Oa q K)
theorem aet {p q:gu} {K:KC} (hm:zB q<zB p:=by dsimp only[zB]<;>(omega)) (hp:kg q:=by dsimp only[kg]<;>((try simp only[apy,List.drop_zero,apD]);repeat(first|with_reducible assumption|apply And.intro|(apply dS;with_reducible assumption)|(apply bD<;>with_reducible assumption)|exact lQ|exact trivial|exact rfl|omega))) (hK:uu q K=true:=by exact hK):GX (mC q) (nm (.v3 p)) K=true:=aR (.v3 q) (bC ⟨rfl,hm⟩ (bC hp hK))
theorem aes {p q:gq} {K:KC} (hm:zA q<zA p:=by dsimp only[zA]<;>(omega)) (hp:ke q:=by dsimp only[ke]<;>((try simp only[apy,List.drop_zero,apD]);repeat(first|with_reducible assumption|apply And.intro|(apply dS;with_reducible assumption)|(apply bD<;>with_reducible assumption)|exact lQ|exact trivial|exact rfl|omega))) (hK:ut q K=true:=by exact hK):GX (mB q) (nm (.v4 p)) K=true:=aR (.v4 q) (bC ⟨rfl,hm⟩ (bC hp hK))
structure gp where (N Mo i:Int) (l0:List Ke) (com0 g0 g1 g2:Int) (l1:List Ke) (com1 b1 u c0 c1:Int) (l2:List Ke) (com2 b2 u2 d2_0 d2_1:Int) (L:List Fx) (a o cp:Nat) (now cnt:Int)
structure CP where (l1:List Ke) (com1 c0 cnt:Int)
def tK (p:gp) (r:CP):Prop:=bF r.l1∧(r.l1.length:Int)=p.N+p.Mo∧0≤r.com1∧r.com1≤(r.l1.length:Int)∧p.l0++r.l1.drop p.l0.length=r.l1∧p.l2++r.l1.drop p.l2.length=r.l1
noncomputable def mA (p:gp):IL:=((.cons 11 (.sy (.int 0 p.i)) (.cons 8 (.ptr 0 0) (.cons 7 (.int 0 (.ofNat 3)) (.cons 2 (.sy (.int 0 p.Mo)) (.cons 1 (.sy (.int 0 p.N)) .nil))))),(fi p.l0 p.com0 p.g0 p.g1 p.g2 p.l1 p.com1 p.b1 p.u p.c0 p.c1 p.l2 p.com2 p.b2 p.u2 p.d2_0 p.d2_1 p.L p.a p.o p.cp p.now p.cnt),38)
noncomputable def EF (p:gp) (K:KC) (r:CP):Bool:=K 6 (.cons 8 (.ptr 0 0) (.cons 7 (.int 0 (.ofNat 3)) (.cons 2 (.sy (.int 0 p.Mo)) (.cons 1 (.sy (.int 0 p.N)) .nil)))) (fi p.l0 p.com0 p.g0 p.g1 p.g2 r.l1 r.com1 p.b1 p.u r.c0 p.c1 p.l2 p.com2 p.b2 p.u2 p.d2_0 p.d2_1 p.L p.a p.o p.cp p.now r.cnt) 38
noncomputable def ur (p:gp) (K:KC):Bool:=ae fun r=>iP (tK p r) (EF p K r) true
def kc (p:gp):Prop:=0≤p.N∧p.N≤14∧0≤p.Mo∧p.Mo≤14∧0≤p.i∧p.i≤p.Mo∧bF p.l1∧(p.l1.length:Int)=p.N+p.i∧p.cnt=p.N+p.i∧0≤p.com1∧p.com1≤(p.l1.length:Int)∧Rst p.L p.a p.now∧Xa (p.l2.length:Int) p.com2 p.c1 p.b2 p.N∧Xa (p.l0.length:Int) p.com0 p.com0 p.com0 p.N∧p.b1=p.N∧p.l0++p.l1.drop p.l0.length=p.l1∧p.l2++p.l1.drop p.l2.length=p.l1
theorem ab5 {p:gp} {K:KC} (hK:ur p K=true) {r:CP} (h:tK p r):EF p K r=true:=ax h (aq hK r)
noncomputable def DE (p:gp) (K:KC):Bool:=aa (aN (kc p)) (ur p K)
def zy (p:gp):Nat:=(p.Mo - p.i).toNat
structure gn where (N Mo i:Int) (l0:List Ke) (com0 g0 g1 g2 g3:Int) (l1:List Ke) (com1 b1 u c0 c1 c2:Int) (l2:List Ke) (com2 b2 u2 d2_0 d2_1 d2_2:Int) (l3:List Ke) (com3 b3 u3 d3_0 d3_1 d3_2:Int) (L:List Fx) (a o cp:Nat) (now cnt:Int)
abbrev LV:=CP
def tJ (p:gn) (r:LV):Prop:=bF r.l1∧(r.l1.length:Int)=p.N+p.Mo∧0≤r.com1∧r.com1≤(r.l1.length:Int)∧p.l0++r.l1.drop p.l0.length=r.l1∧p.l2++r.l1.drop p.l2.length=r.l1∧p.l3++r.l1.drop p.l3.length=r.l1
noncomputable def mz (p:gn):IL:=((.cons 11 (.sy (.int 0 p.i)) (.cons 8 (.ptr 0 0) (.cons 7 (.int 0 (.ofNat 4)) (.cons 2 (.sy (.int 0 p.Mo)) (.cons 1 (.sy (.int 0 p.N)) .nil))))),(dv p.l0 p.com0 p.g0 p.g1 p.g2 p.g3 p.l1 p.com1 p.b1 p.u p.c0 p.c1 p.c2 p.l2 p.com2 p.b2 p.u2 p.d2_0 p.d2_1 p.d2_2 p.l3 p.com3 p.b3 p.u3 p.d3_0 p.d3_1 p.d3_2 p.L p.a p.o p.cp p.now p.cnt),50)
noncomputable def ED (p:gn) (K:KC) (r:LV):Bool:=K 6 (.cons 8 (.ptr 0 0) (.cons 7 (.int 0 (.ofNat 4)) (.cons 2 (.sy (.int 0 p.Mo)) (.cons 1 (.sy (.int 0 p.N)) .nil)))) (dv p.l0 p.com0 p.g0 p.g1 p.g2 p.g3 r.l1 r.com1 p.b1 p.u r.c0 p.c1 p.c2 p.l2 p.com2 p.b2 p.u2 p.d2_0 p.d2_1 p.d2_2 p.l3 p.com3 p.b3 p.u3 p.d3_0 p.d3_1 p.d3_2 p.L p.a p.o p.cp p.now r.cnt) 50
noncomputable def uq (p:gn) (K:KC):Bool:=ae fun r=>iP (tJ p r) (ED p K r) true
def ka (p:gn):Prop:=0≤p.N∧p.N≤14∧0≤p.Mo∧p.Mo≤14∧0≤p.i∧p.i≤p.Mo∧bF p.l1∧(p.l1.length:Int)=p.N+p.i∧p.cnt=p.N+p.i∧0≤p.com1∧p.com1≤(p.l1.length:Int)∧Rst p.L p.a p.now∧Xa (p.l2.length:Int) p.com2 p.c1 p.b2 p.N∧Xa (p.l3.length:Int) p.com3 p.c2 p.b3 p.N∧Xa (p.l0.length:Int) p.com0 p.com0 p.com0 p.N∧p.b1=p.N∧p.l0++p.l1.drop p.l0.length=p.l1∧p.l2++p.l1.drop p.l2.length=p.l1∧p.l3++p.l1.drop p.l3.length=p.l1
theorem ab4 {p:gn} {K:KC} (hK:uq p K=true) {r:LV} (h:tJ p r):ED p K r=true:=ax h (aq hK r)
noncomputable def DD (p:gn) (K:KC):Bool:=aa (aN (ka p)) (uq p K)
def zw (p:gn):Nat:=(p.Mo - p.i).toNat
noncomputable def KY (S:SL) (M:T) (nx:Nat) (K:KC):Bool:=(Bool.rec (Bool.rec false (aM fun p:gn=>aa (aN ((S,M,nx)=mz p)) (DD p K)) (Nat.beq (jm M 1) 4)) (aM fun p:gp=>aa (aN ((S,M,nx)=mA p)) (DE p K)) (Nat.beq (jm M 1) 3))
inductive A_sub2 where
 |v3 (p:gp)
 |v4 (p:gn)
noncomputable def WU (q:A_sub2):IL:=A_sub2.casesOn q (fun p=>mA p) (fun p=>mz p)
def ni:A_sub2→Nat
 |.v3 p=>zy p
 |.v4 p=>zw p
noncomputable def NZ (q:A_sub2) (K:KC):Bool:=A_sub2.casesOn q (fun p=>DE p K) (fun p=>DD p K)
noncomputable def YY (n:Nat) (K:KC):KC:=fun e S M nx=>Nat.casesOn e (aM fun q:A_sub2=>aa (aN ((S,M,nx)=WU q∧ni q<n)) (NZ q K)) (fun e2=>K (Nat.succ e2) S M nx)
noncomputable def GW (s:IL) (n:Nat) (K:KC):Bool:=aM fun q=>mP (s=WU q∧ni q<n) (NZ q K)
theorem aer {p q:gp} {K:KC} (hm:zy q<zy p:=by dsimp only[zy]<;>(omega)) (hp:kc q:=by dsimp only[kc]<;>((try simp only[apy,List.drop_zero,apD]);repeat(first|with_reducible assumption|apply And.intro|(apply dS;with_reducible assumption)|(apply bD<;>with_reducible assumption)|exact lQ|exact trivial|exact rfl|omega))) (hK:ur q K=true:=by exact hK):GW (mA q) (ni (.v3 p)) K=true:=aR (.v3 q) (bC ⟨rfl,hm⟩ (bC hp hK))
theorem aeq {p q:gn} {K:KC} (hm:zw q<zw p:=by dsimp only[zw]<;>(omega)) (hp:ka q:=by dsimp only[ka]<;>((try simp only[apy,List.drop_zero,apD]);repeat(first|with_reducible assumption|apply And.intro|(apply dS;with_reducible assumption)|(apply bD<;>with_reducible assumption)|exact lQ|exact trivial|exact rfl|omega))) (hK:uq q K=true:=by exact hK):GW (mz q) (ni (.v4 p)) K=true:=aR (.v4 q) (bC ⟨rfl,hm⟩ (bC hp hK))
noncomputable def fT:fx:=fun j S M nx K=>(Bool.rec ((Bool.rec (false) (KY S M nx K) (Nat.beq j 1))) (KZ S M nx K) (Nat.beq j 0))
theorem acY (p:gu) (K:KC) (hpre:kg p) (hK:uu p K=true):(dj (gN nat_right4.1) fT 600 GV (mC p).1 (mC p).2.1 (mC p).2.2 (YZ (nm (.v3 p)) K))=true:=by
 refine Eq.trans (b:=(iP (p.i<p.N) (ay PI tH xg ⟨p.l0,p.com0,p.g0,p.g1,p.g2,p.l1,p.com1,p.l2,p.com2,p.L,p.a,p.o,p.cp,p.now,p.cnt⟩ fun p1 r1=>mP (aI 0 (p.i+1)) (GX (mC ⟨p.N,p.Mo,p.i+1,r1.l0,r1.com0,r1.g0,p1.g1,p1.g2,p1.l1,p1.com1,p1.l2,p1.com2,p1.L,p1.a,p1.o,p1.cp,p1.now,p1.cnt+1⟩) (nm (.v3 p)) K)) (EH p K ⟨p.l0,p.com0,p.g0,p.cnt⟩))) (by kernel_rfl) ?_
 dsimp only[kg]at hpre
 obtain⟨a1,a2,a3,a4,a5,a6,ks,b1,b2,b3,b4,d1,d2,d3,e1,e2⟩:=hpre
 have z1:=e1.2.2
 have z2:=e2.2.2
 apply iI<;>intro hc1
 refine aF (by(try dsimp only[tH]);(try simp only[apy,List.drop_zero,apD]);repeat(first|with_reducible assumption|apply And.intro|(apply dS;with_reducible assumption)|(apply bD<;>with_reducible assumption)|exact lQ|exact trivial|exact rfl|omega)) fun r1 hi2=> ?_
 dsimp only[xg]at hi2 ⊢
 obtain⟨⟨ehi2,kehi2,eehi2⟩,elhi2,ebhi2,echi2⟩:=hi2
 have kshi2:=JL ks kehi2 eehi2
 have edhi2:=oO ⟨ebhi2,echi2⟩ (by omega)
 clear echi2
 refine dc ?_
 exact aet
 exact ab7 hK (by dsimp only[tM]<;>((try simp only[apy,List.drop_zero,apD]);repeat(first|with_reducible assumption|apply And.intro|(apply dS;with_reducible assumption)|(apply bD<;>with_reducible assumption)|exact lQ|exact trivial|exact rfl|omega)))
theorem acX (p:gq) (K:KC) (hpre:ke p) (hK:ut p K=true):(dj (gN nat_right4.1) fT 600 GV (mB p).1 (mB p).2.1 (mB p).2.2 (YZ (nm (.v4 p)) K))=true:=by
 refine Eq.trans (b:=(iP (p.i<p.N) (ay PG tF wZ ⟨p.l0,p.com0,p.g0,p.g1,p.g2,p.g3,p.l1,p.com1,p.l2,p.com2,p.l3,p.com3,p.L,p.a,p.o,p.cp,p.now,p.cnt⟩ fun p1 r1=>mP (aI 0 (p.i+1)) (GX (mB ⟨p.N,p.Mo,p.i+1,r1.l0,r1.com0,r1.g0,p1.g1,p1.g2,p1.g3,p1.l1,p1.com1,p1.l2,p1.com2,p1.l3,p1.com3,p1.L,p1.a,p1.o,p1.cp,p1.now,p1.cnt+1⟩) (nm (.v4 p)) K)) (EG p K ⟨p.l0,p.com0,p.g0,p.cnt⟩))) (by kernel_rfl) ?_
 dsimp only[ke]at hpre
 obtain⟨a1,a2,a3,a4,a5,a6,ks,b1,b2,b3,b4,d1,d2,d3,e1,e2,e3⟩:=hpre
 have z1:=e1.2.2
 have z2:=e2.2.2
 have z3:=e3.2.2
 apply iI<;>intro hc1
 refine aF (by(try dsimp only[tF]);(try simp only[apy,List.drop_zero,apD]);repeat(first|with_reducible assumption|apply And.intro|(apply dS;with_reducible assumption)|(apply bD<;>with_reducible assumption)|exact lQ|exact trivial|exact rfl|omega)) fun r1 hi2=> ?_
 dsimp only[wZ]at hi2 ⊢
 obtain⟨⟨ehi2,kehi2,eehi2⟩,elhi2,ebhi2,echi2⟩:=hi2
 have kshi2:=JL ks kehi2 eehi2
 have edhi2:=oO ⟨ebhi2,echi2⟩ (by omega)
 clear echi2
 refine dc ?_
 exact aes
 exact ab6 hK (by dsimp only[tL]<;>((try simp only[apy,List.drop_zero,apD]);repeat(first|with_reducible assumption|apply And.intro|(apply dS;with_reducible assumption)|(apply bD<;>with_reducible assumption)|exact lQ|exact trivial|exact rfl|omega)))
theorem ajT:eE Tryz.prog 122 0 fT true 0 GV:=by
 refine js (lf:=600) bK (bR nat_right4.2) (by rfl) WV nm Oa (fun b j x h=>by cases h) (fun S M nx K h=> ?_) (fun p K h=> ?_)
 ·have h:KZ S M nx K=true:=h
  unfold KZ at h
  rcases tz h with⟨_,h⟩|⟨_,h⟩
  ·obtain⟨p,h⟩:=cd h;exact⟨.v3 p,(ai h).1,(ai h).2⟩
  rcases tz h with⟨_,h⟩|⟨_,h⟩
  ·obtain⟨p,h⟩:=cd h;exact⟨.v4 p,(ai h).1,(ai h).2⟩
  cases h
 ·cases p with
  |v3 p=>have h:DG p K=true:=h;exact acY p K (ai h).1 (ai h).2
  |v4 p=>have h:DF p K=true:=h;exact acX p K (ai h).1 (ai h).2
theorem acW (p:gp) (K:KC) (hpre:kc p) (hK:ur p K=true):(dj (gN nat_right4.1) fT 600 GU (mA p).1 (mA p).2.1 (mA p).2.2 (YY (ni (.v3 p)) K))=true:=by
 refine Eq.trans (b:=(iP (p.i<p.Mo) (ay PH tG xe ⟨p.l0,p.com0,p.g0,p.g1,p.g2,p.l1,p.com1,p.b1,p.u,p.c0,p.c1,p.l2,p.com2,p.b2,p.u2,p.d2_0,p.d2_1,p.L,p.a,p.o,p.cp,p.now,p.cnt⟩ fun p1 r1=>mP (aI 0 (p.i+1)) (GW (mA ⟨p.N,p.Mo,p.i+1,p1.l0,p1.com0,p1.g0,p1.g1,p1.g2,r1.l1,r1.com1,p1.b1,p1.u,r1.c0,p1.c1,p1.l2,p1.com2,p1.b2,p1.u2,p1.d2_0,p1.d2_1,p1.L,p1.a,p1.o,p1.cp,p1.now,p1.cnt+1⟩) (ni (.v3 p)) K)) (EF p K ⟨p.l1,p.com1,p.c0,p.cnt⟩))) (by kernel_rfl) ?_
 dsimp only[kc]at hpre
 obtain⟨a1,a2,a3,a4,a5,a6,ks,b1,b2,b3,b4,dR,e2,e0,eb,pf0,pf2⟩:=hpre
 have z2:=e2.2.2.1
 apply iI<;>intro hc1
 refine aF (by(try dsimp only[tG]);(try simp only[apy,List.drop_zero,apD]);repeat(first|with_reducible assumption|apply And.intro|(apply dS;with_reducible assumption)|(apply bD<;>with_reducible assumption)|exact lQ|exact trivial|exact rfl|omega)) fun r1 hi2=> ?_
 dsimp only[xe]at hi2 ⊢
 obtain⟨⟨ehi2,kehi2,eehi2⟩,elhi2,ebhi2,echi2⟩:=hi2
 have kshi2:=JL ks kehi2 eehi2
 have edhi2:=oO ⟨ebhi2,echi2⟩ (by omega)
 clear echi2
 have pfhi20:=UA pf0 eehi2
 have pfhi22:=UA pf2 eehi2
 refine dc ?_
 exact aer
 exact ab5 hK (by dsimp only[tK]<;>((try simp only[apy,List.drop_zero,apD]);repeat(first|with_reducible assumption|apply And.intro|(apply dS;with_reducible assumption)|(apply bD<;>with_reducible assumption)|exact lQ|exact trivial|exact rfl|omega)))
theorem acV (p:gn) (K:KC) (hpre:ka p) (hK:uq p K=true):(dj (gN nat_right4.1) fT 600 GU (mz p).1 (mz p).2.1 (mz p).2.2 (YY (ni (.v4 p)) K))=true:=by
 refine Eq.trans (b:=(iP (p.i<p.Mo) (ay PF tE wY ⟨p.l0,p.com0,p.g0,p.g1,p.g2,p.g3,p.l1,p.com1,p.b1,p.u,p.c0,p.c1,p.c2,p.l2,p.com2,p.b2,p.u2,p.d2_0,p.d2_1,p.d2_2,p.l3,p.com3,p.b3,p.u3,p.d3_0,p.d3_1,p.d3_2,p.L,p.a,p.o,p.cp,p.now,p.cnt⟩ fun p1 r1=>mP (aI 0 (p.i+1)) (GW (mz ⟨p.N,p.Mo,p.i+1,p1.l0,p1.com0,p1.g0,p1.g1,p1.g2,p1.g3,r1.l1,r1.com1,p1.b1,p1.u,r1.c0,p1.c1,p1.c2,p1.l2,p1.com2,p1.b2,p1.u2,p1.d2_0,p1.d2_1,p1.d2_2,p1.l3,p1.com3,p1.b3,p1.u3,p1.d3_0,p1.d3_1,p1.d3_2,p1.L,p1.a,p1.o,p1.cp,p1.now,p1.cnt+1⟩) (ni (.v4 p)) K)) (ED p K ⟨p.l1,p.com1,p.c0,p.cnt⟩))) (by kernel_rfl) ?_
 dsimp only[ka]at hpre
 obtain⟨a1,a2,a3,a4,a5,a6,ks,b1,b2,b3,b4,dR,e2,e3,e0,eb,pf0,pf2,pf3⟩:=hpre
 have z2:=e2.2.2.1
 have z3:=e3.2.2.1
 apply iI<;>intro hc1
 refine aF (by(try dsimp only[tE]);(try simp only[apy,List.drop_zero,apD]);repeat(first|with_reducible assumption|apply And.intro|(apply dS;with_reducible assumption)|(apply bD<;>with_reducible assumption)|exact lQ|exact trivial|exact rfl|omega)) fun r1 hi2=> ?_
 dsimp only[wY]at hi2 ⊢
 obtain⟨⟨ehi2,kehi2,eehi2⟩,elhi2,ebhi2,echi2⟩:=hi2
 have kshi2:=JL ks kehi2 eehi2
 have edhi2:=oO ⟨ebhi2,echi2⟩ (by omega)
 clear echi2
 have pfhi20:=UA pf0 eehi2
 have pfhi22:=UA pf2 eehi2
 have pfhi23:=UA pf3 eehi2
 refine dc ?_
 exact aeq
 exact ab4 hK (by dsimp only[tJ]<;>((try simp only[apy,List.drop_zero,apD]);repeat(first|with_reducible assumption|apply And.intro|(apply dS;with_reducible assumption)|(apply bD<;>with_reducible assumption)|exact lQ|exact trivial|exact rfl|omega)))
theorem ajS:eE Tryz.prog 122 0 fT true 1 GU:=by
 refine js (lf:=600) bK (bR nat_right4.2) (by rfl) WU ni NZ (fun b j x h=>by cases h) (fun S M nx K h=> ?_) (fun p K h=> ?_)
 ·have h:KY S M nx K=true:=h
  unfold KY at h
  rcases tz h with⟨_,h⟩|⟨_,h⟩
  ·obtain⟨p,h⟩:=cd h;exact⟨.v3 p,(ai h).1,(ai h).2⟩
  rcases tz h with⟨_,h⟩|⟨_,h⟩
  ·obtain⟨p,h⟩:=cd h;exact⟨.v4 p,(ai h).1,(ai h).2⟩
  cases h
 ·cases p with
  |v3 p=>have h:DE p K=true:=h;exact acW p K (ai h).1 (ai h).2
  |v4 p=>have h:DD p K=true:=h;exact acV p K (ai h).1 (ai h).2
structure Kz where (four:Bool) (n m:Int)
noncomputable def Ku (p:Kz):IE:=([.sy (.bool (p.four=true)),.sy (.int 0 p.n),.sy (.int 0 p.m)],.leaf,0)
noncomputable def Dp (p:Kz) (K:KE):Bool:=K (.bool true) .leaf 0
theorem Uo:Vn Dp 0 nat_right4 fT EK Ku:=by
 intro p K hK
 refine Eq.trans (b:=(let z0:Bool:=(K (.bool false) .leaf 0);let y0:Int:=((Int.tmod p.n (15:Int))+15);let y1:Int:=((Int.tmod p.m (15:Int))+15);aM fun p1:PV=>mP (PE ⟨⟩=PE p1) (iP (p.four=true) (aM fun p2:vZ=>mP (Hy ⟨⟩=Hy p2) (ae fun r1:Hp=>iP (wW p2 r1) (mP ((15:Int)≠0) (mP (aI 0 y0) (mP ((15:Int)≠0) (mP ((15:Int)≠0) (mP (aI 0 y1) (mP ((15:Int)≠0) (ay mB ke tL ⟨Int.tmod y0 (15:Int),Int.tmod y1 (15:Int),0,([]:List Ke),0,0,0,0,0,([]:List Ke),0,([]:List Ke),0,([]:List Ke),0,r1.L,r1.a,r1.o,r1.cp,0,0⟩ fun p3 r2=>ay WY wu AQ ⟨r2.l0,r2.com0,r2.g0,p3.g1,p3.g2,p3.g3,p3.l1,p3.com1,p3.l2,p3.com2,p3.l3,p3.com3,p3.L,p3.a,p3.o,p3.cp,p3.now,r2.cnt⟩ fun p4 r3=>ay PA tA wS ⟨p4.l0,r3.com0,r3.g0,r3.g1,r3.g2,r3.g3,r3.l1,r3.com1,r3.l2,r3.com2,r3.l3,r3.com3,r3.L,r3.a,r3.o,r3.cp,r3.now,p4.cnt⟩ fun p5 r4=>ay mz ka tJ ⟨p3.N,p3.Mo,0,p5.l0,p5.com0,p5.g0,p5.g1,p5.g2,p5.g3,r4.l1,r4.com1,r4.b1,r4.u,r4.c0,r4.c1,r4.c2,r4.l2,r4.com2,r4.b2,r4.u2,r4.d2_0,r4.d2_1,r4.d2_2,r4.l3,r4.com3,r4.b3,r4.u3,r4.d3_0,r4.d3_1,r4.d3_2,r4.L,r4.a,r4.o,r4.cp,r4.now,p5.cnt⟩ fun p6 r5=>ay PC tC wU ⟨p6.l0,p6.com0,p6.g0,p6.g1,p6.g2,p6.g3,r5.l1,r5.com1,p6.b1,p6.u,r5.c0,p6.c1,p6.c2,p6.l2,p6.com2,p6.b2,p6.u2,p6.d2_0,p6.d2_1,p6.d2_2,p6.l3,p6.com3,p6.b3,p6.u3,p6.d3_0,p6.d3_1,p6.d3_2,p6.L,p6.a,p6.o,p6.cp,p6.now,r5.cnt⟩ fun p7 r6=>mP (aI 0 (p6.N+p6.Mo)) (iP (¬r6.com1=(p6.N+p6.Mo)) z0 (mP (aI 0 (p6.N+p6.Mo)) (iP (¬r6.com2=(p6.N+p6.Mo)) z0 (mP (aI 0 (p6.N+p6.Mo)) (iP (¬r6.com3=(p6.N+p6.Mo)) z0 (aL WW um ⟨p7.l0,p7.com0,p7.g0,p7.g1,p7.g2,p7.g3,p7.l1,r6.com1,p7.b1,p7.u,r6.c0,r6.c1,r6.c2,r6.l2,r6.com2,p7.b2,p7.u2,p7.d2_0,p7.d2_1,p7.d2_2,r6.l3,r6.com3,p7.b3,p7.u3,p7.d3_0,p7.d3_1,p7.d3_2,r6.L,r6.a,r6.o,r6.cp,r6.now,p7.cnt⟩ fun p8=>K (.bool true) .leaf 0))))))))))))) true)) (aM fun p9:wb=>mP (Hz ⟨⟩=Hz p9) (ae fun r7:Hq=>iP (wX p9 r7) (mP ((15:Int)≠0) (mP (aI 0 y0) (mP ((15:Int)≠0) (mP ((15:Int)≠0) (mP (aI 0 y1) (mP ((15:Int)≠0) (ay mC kg tM ⟨Int.tmod y0 (15:Int),Int.tmod y1 (15:Int),0,([]:List Ke),0,0,0,0,([]:List Ke),0,([]:List Ke),0,r7.L,r7.a,r7.o,r7.cp,0,0⟩ fun p10 r8=>ay WZ wv AR ⟨r8.l0,r8.com0,r8.g0,p10.g1,p10.g2,p10.l1,p10.com1,p10.l2,p10.com2,p10.L,p10.a,p10.o,p10.cp,p10.now,r8.cnt⟩ fun p11 r9=>ay PB tB wT ⟨p11.l0,r9.com0,r9.g0,r9.g1,r9.g2,r9.l1,r9.com1,r9.l2,r9.com2,r9.L,r9.a,r9.o,r9.cp,r9.now,p11.cnt⟩ fun p12 r10=>ay mA kc tK ⟨p10.N,p10.Mo,0,p12.l0,p12.com0,p12.g0,p12.g1,p12.g2,r10.l1,r10.com1,r10.b1,r10.u,r10.c0,r10.c1,r10.l2,r10.com2,r10.b2,r10.u2,r10.d2_0,r10.d2_1,r10.L,r10.a,r10.o,r10.cp,r10.now,p12.cnt⟩ fun p13 r11=>ay PD tD wV ⟨p13.l0,p13.com0,p13.g0,p13.g1,p13.g2,r11.l1,r11.com1,p13.b1,p13.u,r11.c0,p13.c1,p13.l2,p13.com2,p13.b2,p13.u2,p13.d2_0,p13.d2_1,p13.L,p13.a,p13.o,p13.cp,p13.now,r11.cnt⟩ fun p14 r12=>mP (aI 0 (p13.N+p13.Mo)) (iP (¬r12.com1=(p13.N+p13.Mo)) z0 (mP (aI 0 (p13.N+p13.Mo)) (iP (¬r12.com2=(p13.N+p13.Mo)) z0 (aL WX uo ⟨p14.l0,p14.com0,p14.g0,p14.g1,p14.g2,p14.l1,r12.com1,p14.b1,p14.u,r12.c0,r12.c1,r12.l2,r12.com2,p14.b2,p14.u2,p14.d2_0,p14.d2_1,r12.L,r12.a,r12.o,r12.cp,r12.now,p14.cnt⟩ fun p15=>K (.bool true) .leaf 0))))))))))) true))))) (by kernel_rfl) ?_
 have t1n:=tmb 15 (by decide) p.n
 have t2n:=tmp 15 (by decide) (p.n.tmod 15+15) (by omega)
 have t1m:=tmb 15 (by decide) p.m
 have t2m:=tmp 15 (by decide) (p.m.tmod 15+15) (by omega)
 dsimp only
 generalize Int.tmod p.n 15=u1 at t1n t2n ⊢
 generalize Int.tmod (u1+15) 15=u2 at t2n ⊢
 generalize Int.tmod p.m 15=w1 at t1m t2m ⊢
 generalize Int.tmod (w1+15) 15=w2 at t2m ⊢
 refine aR ⟨⟩ ?_
 refine aH ?_
 apply iI<;>intro hc1
 refine fu ⟨⟩ rfl fun r1 hi2=> ?_
 dsimp only[wW]at hi2
 refine ug (dc (ug (ug (dc (ug ?_)))))
 refine aF (by(try dsimp only[ke]);(try simp only[apy,List.drop_zero,apD]);repeat(first|with_reducible assumption|apply And.intro|(apply dS;with_reducible assumption)|(apply bD<;>with_reducible assumption)|exact lQ|exact trivial|exact rfl|omega)) fun r2 hi3=> ?_
 dsimp only[tL]at hi3 ⊢
 obtain⟨JL,s1,s2,s3,s4⟩:=hi3
 refine aF (by(try dsimp only[wu]);(try simp only[apy,List.drop_zero,apD]);repeat(first|with_reducible assumption|apply And.intro|(apply dS;with_reducible assumption)|(apply bD<;>with_reducible assumption)|exact lQ|exact trivial|exact rfl|omega)) fun r3 hi4=> ?_
 dsimp only[AQ]at hi4 ⊢
 obtain⟨ql1,ql2,ql3,qc0,qc1,qc2,qc3,qg1,qg2,qg3,qa,qL,qn0,qn⟩:=hi4
 have ks1:=bD ql1 JL
 have qm1:=congrArg List.length ql1
 have hN1:=nN qm1 s1
 have E0:=eq4 rfl qc0 qc0 qc0 s1
 have qx2:=ql2.trans ql1.symm
 have qx3:=ql3.trans ql1.symm
 (try clear ql2);(try clear ql3);(try clear qc0);(try clear qc1);(try clear qc2);(try clear qc3);(try clear qg1);(try clear qg2);(try clear qg3);(try clear s3);(try clear s4);(try clear JL);(try clear qm1);(try clear s1)
 refine aF (by(try dsimp only[tA]);(try simp only[apy,List.drop_zero,apD]);repeat(first|with_reducible assumption|apply And.intro|(apply dS;with_reducible assumption)|(apply bD<;>with_reducible assumption)|exact lQ|exact trivial|exact rfl|omega)) fun r4 hi5=> ?_
 dsimp only[wS]at hi5 ⊢
 obtain⟨wl1,wl2,wl3,wc1,wc2,wc3,wg2,wg3,wb1,wb2,wb3,wa,wL,wn0,wn⟩:=hi5
 have ks2:=bD wl1 ks1
 have wm1:=congrArg List.length wl1
 have wm2:=congrArg List.length wl2
 have wm3:=congrArg List.length wl3
 have E2:=eq4 wm2 wc2 wg2 wb2 hN1
 have E3:=eq4 wm3 wc3 wg3 wb3 hN1
 have wx2:=wl2.trans wl1.symm
 have wx3:=wl3.trans wl1.symm
 have wx0:=(wl1.trans ql1).symm
 have hl1:=nN wm1 hN1
 have hc1:=wc1.trans hN1
 have hb1:=wb1.trans hN1
 (try clear wl1);(try clear wl2);(try clear wl3);(try clear wc1);(try clear wc2);(try clear wc3);(try clear wg2);(try clear wg3);(try clear wb1);(try clear wb2);(try clear wb3);(try clear wm1);(try clear wm2);(try clear wm3);(try clear ql1);(try clear ks1);(try clear hN1);(try clear qa);(try clear qx2);(try clear qx3)
 refine aF (by(try dsimp only[ka]);(try simp only[apy,List.drop_zero,apD]);repeat(first|with_reducible assumption|apply And.intro|(apply dS;with_reducible assumption)|(apply bD<;>with_reducible assumption)|exact lQ|exact trivial|exact rfl|omega)) fun r5 hi6=> ?_
 dsimp only[tJ]at hi6 ⊢
 obtain⟨ks3,v1,v2,v3,pf0,pf2,pf3⟩:=hi6
 (try clear hl1);(try clear hc1);(try clear ks2);(try clear s2);(try clear wx0);(try clear wx2);(try clear wx3)
 obtain⟨F2,G2⟩:=agu E2 pf2 v1 (by omega)
 obtain⟨F3,G3⟩:=agu E3 pf3 v1 (by omega)
 (try clear E2);(try clear E3)
 refine aF (by(try dsimp only[tC]);(try simp only[apy,List.drop_zero,apD]);repeat(first|with_reducible assumption|apply And.intro|(apply dS;with_reducible assumption)|(apply bD<;>with_reducible assumption)|exact lQ|exact trivial|exact rfl|omega)) fun r6 hi7=> ?_
 dsimp only[wU]at hi7 ⊢
 obtain⟨yl2,yl3,yc1,yc2,yc3,yg2,yg3,ya,yL,yn0,yn⟩:=hi7
 have ym2:=congrArg List.length yl2
 have ym3:=congrArg List.length yl3
 obtain⟨z0,z1, -, -⟩:=E0
 (try clear F2);(try clear F3);(try clear G2);(try clear G3);(try clear yg2);(try clear yg3);(try clear ya);(try clear yL);(try clear yn0);(try clear yn);(try clear wa);(try clear wL);(try clear wn0);(try clear wn);(try clear qL);(try clear qn0);(try clear qn);(try clear ks3);(try clear hb1);(try clear v2);(try clear v3)
 refine dc ?_
 refine iX (p:=¬r6.com1=(u2+w2)) fun hc8=> ?_
 refine dc ?_
 refine iX (p:=¬r6.com2=(u2+w2)) fun hc9=> ?_
 refine dc ?_
 refine iX (p:=¬r6.com3=(u2+w2)) fun hc10=> ?_
 refine aV (by(try dsimp only[um]);(try simp only[apy,List.drop_zero,apD]);repeat(first|with_reducible assumption|apply And.intro|(apply dS;with_reducible assumption)|(apply bD<;>with_reducible assumption)|exact lQ|exact trivial|exact rfl|omega)) ?_
 exact hK
 refine fu ⟨⟩ rfl fun r7 hi11=> ?_
 dsimp only[wX]at hi11
 refine ug (dc (ug (ug (dc (ug ?_)))))
 refine aF (by(try dsimp only[kg]);(try simp only[apy,List.drop_zero,apD]);repeat(first|with_reducible assumption|apply And.intro|(apply dS;with_reducible assumption)|(apply bD<;>with_reducible assumption)|exact lQ|exact trivial|exact rfl|omega)) fun r8 hi12=> ?_
 dsimp only[tM]at hi12 ⊢
 obtain⟨JL,s1,s2,s3,s4⟩:=hi12
 refine aF (by(try dsimp only[wv]);(try simp only[apy,List.drop_zero,apD]);repeat(first|with_reducible assumption|apply And.intro|(apply dS;with_reducible assumption)|(apply bD<;>with_reducible assumption)|exact lQ|exact trivial|exact rfl|omega)) fun r9 hi13=> ?_
 dsimp only[AR]at hi13 ⊢
 obtain⟨ql1,ql2,qc0,qc1,qc2,qg1,qg2,qa,qL,qn0,qn⟩:=hi13
 have ks1:=bD ql1 JL
 have qm1:=congrArg List.length ql1
 have hN1:=nN qm1 s1
 have E0:=eq4 rfl qc0 qc0 qc0 s1
 have qx2:=ql2.trans ql1.symm
 (try clear ql2);(try clear qc0);(try clear qc1);(try clear qc2);(try clear qg1);(try clear qg2);(try clear s3);(try clear s4);(try clear JL);(try clear qm1);(try clear s1)
 refine aF (by(try dsimp only[tB]);(try simp only[apy,List.drop_zero,apD]);repeat(first|with_reducible assumption|apply And.intro|(apply dS;with_reducible assumption)|(apply bD<;>with_reducible assumption)|exact lQ|exact trivial|exact rfl|omega)) fun r10 hi14=> ?_
 dsimp only[wT]at hi14 ⊢
 obtain⟨wl1,wl2,wc1,wc2,wg2,wb1,wb2,wa,wL,wn0,wn⟩:=hi14
 have ks2:=bD wl1 ks1
 have wm1:=congrArg List.length wl1
 have wm2:=congrArg List.length wl2
 have E2:=eq4 wm2 wc2 wg2 wb2 hN1
 have wx2:=wl2.trans wl1.symm
 have wx0:=(wl1.trans ql1).symm
 have hl1:=nN wm1 hN1
 have hc1:=wc1.trans hN1
 have hb1:=wb1.trans hN1
 (try clear wl1);(try clear wl2);(try clear wc1);(try clear wc2);(try clear wg2);(try clear wb1);(try clear wb2);(try clear wm1);(try clear wm2);(try clear ql1);(try clear ks1);(try clear hN1);(try clear qa);(try clear qx2)
 refine aF (by(try dsimp only[kc]);(try simp only[apy,List.drop_zero,apD]);repeat(first|with_reducible assumption|apply And.intro|(apply dS;with_reducible assumption)|(apply bD<;>with_reducible assumption)|exact lQ|exact trivial|exact rfl|omega)) fun r11 hi15=> ?_
 dsimp only[tK]at hi15 ⊢
 obtain⟨ks3,v1,v2,v3,pf0,pf2⟩:=hi15
 (try clear hl1);(try clear hc1);(try clear ks2);(try clear s2);(try clear wx0);(try clear wx2)
 obtain⟨F2,G2⟩:=agu E2 pf2 v1 (by omega)
 (try clear E2)
 refine aF (by(try dsimp only[tD]);(try simp only[apy,List.drop_zero,apD]);repeat(first|with_reducible assumption|apply And.intro|(apply dS;with_reducible assumption)|(apply bD<;>with_reducible assumption)|exact lQ|exact trivial|exact rfl|omega)) fun r12 hi16=> ?_
 dsimp only[wV]at hi16 ⊢
 obtain⟨yl2,yc1,yc2,yg2,ya,yL,yn0,yn⟩:=hi16
 have ym2:=congrArg List.length yl2
 obtain⟨z0,z1, -, -⟩:=E0
 (try clear F2);(try clear G2);(try clear yg2);(try clear ya);(try clear yL);(try clear yn0);(try clear yn);(try clear wa);(try clear wL);(try clear wn0);(try clear wn);(try clear qL);(try clear qn0);(try clear qn);(try clear ks3);(try clear hb1);(try clear v2);(try clear v3)
 refine dc ?_
 refine iX (p:=¬r12.com1=(u2+w2)) fun hc17=> ?_
 refine dc ?_
 refine iX (p:=¬r12.com2=(u2+w2)) fun hc18=> ?_
 refine aV (by(try dsimp only[uo]);(try simp only[apy,List.drop_zero,apD]);repeat(first|with_reducible assumption|apply And.intro|(apply dS;with_reducible assumption)|(apply bD<;>with_reducible assumption)|exact lQ|exact trivial|exact rfl|omega)) ?_
 exact hK
theorem na_seatFails:dH Tryz.prog 7 0 (lM Ku Dp):=(cB (f:=7) (k:=0) (lp:=fT) (lf:=600) bK (bR nat_right4.2) MZ (by rfl) (fun b j x h=>(dh ajT (fun h=>(dh ajS (fun h=>(by cases h)) h)) h)) fun p K h=>Uo p K h)
end Go.Proofs.Tryz
namespace Go.Proofs.YtjhpjjbnojbikaaGreat.seatFails
open Go Go.RowKit Go.Eng Go.Sy Go.ChangeShapes Go.WideShapes Go.ChangeAt
set_option linter.unusedVariables false
set_option maxRecDepth 100000
theorem own:ownKnob Tryz.prog.godebug=none:=by kernel_rfl
theorem aoV (a0:Bool) (a1:Int) (a2:Int) (w:World):Calls Tryz.prog 7 #[.bool a0,.int .i64 a1,.int .i64 a2] w (Ret (GS.of w) [] fun _ v=>v= .bool true):=by
 let K:AV→T→Nat→Bool:=fun v _ _=>aN (v= .bool true)
 have hE:fV ⟨fun _=>.bool true,(GS.of w).M⟩:=⟨fun i=>rfl,trivial⟩
 have hd:aS ⟨fun _=>.bool true,(GS.of w).M⟩ (fun _=>none) [.sy (.bool (a0=true)),.sy (.int 0 a1),.sy (.int 0 a2)]=some [.bool a0,.int .i64 a1,.int .i64 a2]:=by
  simp[aS,den,bo,ji,bw,cR,wy]
 refine Tryz.na_seatFails [.sy (.bool (a0=true)),.sy (.int 0 a1),.sy (.int 0 a2)] [.bool a0,.int .i64 a1,.int .i64 a2] ⟨fun _=>.bool true,(GS.of w).M⟩ (fun _=>none) (GS.of w) [] .leaf 0 w K _ hE (Sim.start rfl (Holds.start w)) hd ?_ ?_
 ·exact aR ⟨a0,a1,a2⟩ (bC rfl (prB_true.2 rfl))
 ·intro v M' nx' E' ρ' w' z hk h1 h2 h3 h4 h5
  obtain⟨G',g1,g2,g3⟩:=h4.holds
  refine⟨z,G',rfl,g1,g2,?_⟩
  have:=prB_true.1 hk
  subst this
  simpa[den] using h5.symm
set_option maxRecDepth 100000 in
theorem an0 (os:Os) (started:os.Started) (H:Type) (enc:TypeId×Value→H):
  ReturnsInHanded {} Tryz.checked os 7 .any (Rows.seatFailsSpec.pre6 enc Tryz.prog Tryz.f7 Rows.seatFailsRow.domain false) (Rows.seatFailsSpec.post enc Tryz.prog Tryz.f7 false true false false):=by
 refine returnsInHanded_of_change (C:=Tryz.checked) own started (by kernel_rfl) Tryz.func7
  (ChangeSpec.witness6 (enc:=enc) (C:=Tryz.checked) false ⟨#[],#[.bool false,.int .i64 0,.int .i64 0],[]⟩ 8 (by kernel_rfl) (by kernel_rfl) (by kernel_rfl) (by kernel_rfl)) ?_
 intro W base args ds gs before hval0 hW hcnd _
 have hval:∀(j:Nat) t v,Tryz.f7.params[j]?=some t→args[j]?=some v→Value.okWide Tryz.prog W .any base t v:=hval0
 have hW':=hW
 obtain⟨p,q,hA0,hV,rfl,hfz,hnd⟩:=hW
 have hA:DataW.TrodAll enc Tryz.prog W 0 (fun _=>true) true Tryz.f7.params.toList args.toList ds p:=hA0
 rw[Tryz.params7]at hA hval
 obtain⟨v0,vs0,d0,ds0,p0,q0,hargs,rfl,rfl,h0,r0⟩:=trodAll_cons hA
 obtain⟨v1,vs1,d1,ds1,p1,q1,rfl,rfl,rfl,h1,r1⟩:=trodAll_cons r0
 obtain⟨v2,vs2,d2,ds2,p2,q2,rfl,rfl,rfl,h2,r2⟩:=trodAll_cons r1
 obtain⟨rfl,rfl,rfl⟩:=trodAll_nil r2
 obtain rfl:args= #[v0,v1,v2]:=by cases args;simp_all
 obtain⟨rfl,rfl⟩:=trodVars_none hV
 obtain⟨a0,rfl,rfl,rfl⟩:=open_bool Tryz.underlying4 (hval 0 4 v0 rfl rfl) h0
 obtain⟨a1,rfl,rfl,rfl,w1⟩:=open_int Tryz.underlying3 (hval 1 3 v1 rfl rfl) h1
 obtain⟨a2,rfl,rfl,rfl,w2⟩:=open_int Tryz.underlying3 (hval 2 3 v2 rfl rfl) h2
 clear hA0 hval0
 simp only[List.append_nil]at hW'
 refine(aoV a0 a1 a2 W).mono fun e W2 ⟨v,G2,he,hG,hh,hv⟩=> ?_
 subst he;subst hv
 have bel:Below W.heap.size W W2:=Holds.below hG hh
 exact⟨_,rfl,_,_,_,[],_,[],hW',trodAll_mk1 (shut_bool Tryz.underlying4 _),(trodAll_cons_mk (shut_bool Tryz.underlying4 _) (trodAll_cons_mk (shut_int Tryz.underlying3 w1) (trodAll_cons_mk (shut_int Tryz.underlying3 w2) trodAll_mk0))),rfl,bel.frame _,fun h=>by cases h⟩
theorem ao0:Rows.seatFailsRow.holds Tryz.pinned (OpenSpec.ofChange Rows.seatFailsSpec):=
 OpenClaim.holds_of_wide 7 Tryz.f7 rfl rfl rfl rfl rfl rfl rfl ⟨rfl,rfl,rfl,rfl,rfl⟩ rfl rfl rfl rfl rfl (by kernel_rfl) Tryz.func7 (by kernel_rfl)
  (of_decide_eq_true (by kernel_rfl)) (by unfold Func.isWrapper;first|(rw[if_pos (by decide+kernel)];kernel_rfl)|(rw[if_neg (by decide+kernel)];exact⟨rfl,rfl⟩))
  (fun os started H enc _=>an0 os started H enc)
theorem holds:Rows.SeatFailsSaid:=ao0
#print axioms holds
end Go.Proofs.YtjhpjjbnojbikaaGreat.seatFails
