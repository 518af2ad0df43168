/- Definitions and lemmas of the proof, without a condition of their own. -/
import Derived.Test.YtjhpjjbnojbikaaGreatM4
import Derived.KernelRfl
open List renaming cons_append→apC,eq_nil_of_length_eq_zero→apS,length_append→apv,length_cons→apw,length_drop→apW,length_nil→apy,length_take→apL,mem_cons→apF,nil_append→apD,not_mem_nil→apU
namespace Go.Proofs.Tryz
open Go Go.RowKit Go.Sy
open Go.Eng hiding ae
set_option maxRecDepth 1000000
set_option linter.unusedVariables false
set_option maxHeartbeats 4000000
def Fh:XC:=w_6 4 [0,0,1,2] [1,2,0,0] [3,3,4,4] [1,1,1,1] [0,0,0,0]
def Zc:XF:=.mk 54 .none (.seq (g_ 1 [p_ 0 4 (.mv (i_ 0))]) (.block 2 (.pre [.can 1 [0,1,4],.up 4,.can 1 [0,1,4]] (.inv 0 Fh))))
theorem abY:bN Tryz.prog 15 Zc=true:=by kernel_rfl
structure gy where (l0:List Ke) (com0 g0 g1 g2:Int) (l1:List Ke) (com1:Int) (l2:List Ke) (com2:Int) (L:List Fx) (a o cp:Nat) (now cnt t:Int)
structure CS where (com0 g0 g1 g2:Int) (l1:List Ke) (com1:Int) (l2:List Ke) (com2:Int) (L:List Fx) (a o cp:Nat) (now:Int)
def jQ (p:gy) (r:CS):Prop:=r.l1=p.l0∧r.l2=p.l0∧r.com0=(p.l0.length:Int)∧r.com1=(p.l0.length:Int)∧r.com2=(p.l0.length:Int)∧r.g1=(p.l0.length:Int)∧r.g2=(p.l0.length:Int)∧r.a=r.L.length∧(r.L.length:Int)≤p.L.length+16*(5 - p.t)∧0≤r.now∧r.now=p.now+3*(5 - p.t)
noncomputable def jl (p:gy):IL:=((.cons 4 (.sy (.int 0 p.t)) (.cons 1 (.int 0 (.ofNat 5)) (.cons 0 (.ptr 0 0) .nil))),(mw p.l0 p.com0 p.g0 p.g1 p.g2 p.l1 p.com1 p.l2 p.com2 p.L p.a p.o p.cp p.now p.cnt),34)
noncomputable def EJ (p:gy) (K:KC) (r:CS):Bool:=K 2 .nil (mw p.l0 r.com0 r.g0 r.g1 r.g2 r.l1 r.com1 r.l2 r.com2 r.L r.a r.o r.cp r.now p.cnt) 34
noncomputable def uw (p:gy) (K:KC):Bool:=ae fun r=>iP (jQ p r) (EJ p K r) true
def kp (p:gy):Prop:=(0≤p.t∧p.t≤5)∧(0≤p.now∧p.now+3*(5 - p.t)≤999000)∧(p.a=p.L.length∧(p.L.length:Int)+16*(5 - p.t)≤900000)∧(bF p.l0∧p.l0.length≤400∧0≤p.com0∧p.com0≤(p.l0.length:Int))∧(p.g1=(p.l1.length:Int)∧p.l1++p.l0.drop p.l1.length=p.l0∧p.l0.length≤p.l1.length+16∧0≤p.com1∧p.com1≤(p.l1.length:Int))∧(p.g2=(p.l2.length:Int)∧p.l2++p.l0.drop p.l2.length=p.l0∧p.l0.length≤p.l2.length+16∧0≤p.com2∧p.com2≤(p.l2.length:Int))∧((1≤p.t→p.com0=(p.l0.length:Int)∧p.l1.length=p.l0.length∧p.l2.length=p.l0.length))∧((2≤p.t→p.com1=(p.l0.length:Int)∧p.com2=(p.l0.length:Int)))
theorem ab9 {p:gy} {K:KC} (hK:uw p K=true) {r:CS} (h:jQ p r):EJ p K r=true:=ax h (aq hK r)
noncomputable def yr (p:gy) (K:KC):Bool:=aa (aN (kp p)) (uw p K)
noncomputable def GD:fx:=fun j S M nx K=>(Bool.rec (false) (aM fun p:gy=>aa (aN ((S,M,nx)=jl p)) (yr p K)) (Nat.beq j 0))
def iC (p:gy):Nat:=(5 - p.t).toNat
noncomputable def SB (s:IL) (n:Nat) (K:KC):Bool:=aM fun q=>mP (s=jl q∧iC q<n) (yr q K)
theorem aev {p q:gy} {K:KC} (hm:iC q<iC p:=by dsimp only[iC]<;>(omega)) (hp:kp q:=by dsimp only[kp]<;>(repeat(first|with_reducible assumption|apply And.intro|(apply dS;with_reducible assumption)|(apply bD<;>with_reducible assumption)|exact y_1 (by assumption)|exact y_2 (by assumption)|exact y_3 (by assumption)|intro _|omega))) (hK:uw q K=true:=by exact(by refine ac fun r=>iI (fun hz=> ?_) (fun _=>rfl);dsimp only[jQ]at hz;obtain⟨z0,z1,z2,z3,z4,z5,z6,z7,zL,zn0,zn⟩:=hz;exact ax (show jQ p r from(by dsimp only[jQ];exact⟨z0,z1,z2,z3,z4,z5,z6,z7,by omega,zn0,by omega⟩)) (aq hK r))):SB (jl q) (iC p) K=true:=aR q (bC ⟨rfl,hm⟩ (bC hp hK))
theorem ac0 (p:gy) (K:KC) (hpre:kp p) (hK:uw p K=true):(dj (gN nat_zk3_1_2.1) GD 600 Fh (jl p).1 (jl p).2.1 (jl p).2.2 (fun e S M nx=>Nat.casesOn e (aM fun q:gy=>aa (aN ((S,M,nx)=jl q∧iC q<iC p)) (yr q K)) (fun e2=>K (Nat.succ e2) S M nx)))=true:=by
 refine Eq.trans (b:=(iP (p.t<(5:Int)) (ay ZI yH oK ⟨p.l0,p.com0,p.g0,p.g1,p.g2,p.l1,p.com1,p.l2,p.com2,p.L,p.a,p.o,p.cp,p.now,p.cnt⟩ fun p1 r1=>ay SI sk qo ⟨p1.l0,p1.com0,p1.g0,p1.g1,p1.g2,p1.l1,p1.com1,p1.l2,p1.com2,r1.L,r1.a,r1.o,r1.cp,p1.now+1,p1.cnt⟩ fun p2 r2=>ay SH sj qm ⟨p2.l0,p2.com0,p2.g0,p2.g1,p2.g2,p2.l1,p2.com1,p2.l2,p2.com2,r2.L,r2.a,r2.o,r2.cp,p2.now+1,p2.cnt⟩ fun p3 r3=>rd r3.L r3.a (r3.L.length - r3.a) fun x1=>fR x1 0 1 3 1 0 0 (mL (r3.L.length - r3.a) (ay SV sD mW ⟨p3.l0,p3.com0,p3.g0,p3.g1,p3.g2,p3.l1,p3.com1,p3.l2,p3.com2,r3.L,r3.a+1,(if r3.cp=r3.a then r3.o else r3.a*33),r3.cp,p3.now+1,p3.cnt,x1.n,x1.c,x1.vh,x1.vl,x1.mh,x1.ml,x1.h,x1.l,x1.th,x1.tl⟩ fun p4 r4=>rd r4.L r4.a (r4.L.length - r4.a) fun x2=>fR x2 0 2 3 1 0 0 (mL (r4.L.length - r4.a) (ay SU sC mV ⟨p4.l0,p4.com0,p4.g0,p4.g1,p4.g2,r4.l1,r4.com1,p4.l2,p4.com2,r4.L,r4.a+1,(if r4.cp=r4.a then r4.o else r4.a*33),r4.cp,p4.now,p4.cnt,x2.n,x2.c,x2.vh,x2.vl,x2.mh,x2.ml,x2.h,x2.l,x2.th,x2.tl⟩ fun p5 r5=>rd r5.L r5.a (r5.L.length - r5.a) fun x3=>fR x3 1 0 4 1 0 0 (mL (r5.L.length - r5.a) (ay SO ss qv ⟨p5.l0,p5.com0,p5.g0,p5.g1,p5.g2,p5.l1,p5.com1,r5.l2,r5.com2,r5.L,r5.a+1,(if r5.cp=r5.a then r5.o else r5.a*33),r5.cp,p5.now,p5.cnt,x3.n,x3.c,x3.vh,x3.vl,x3.mh,x3.ml,x3.h,x3.l,x3.th,x3.tl⟩ fun p6 r6=>rd r6.L r6.a (r6.L.length - r6.a) fun x4=>fR x4 2 0 4 1 0 0 (mL (r6.L.length - r6.a) (ay SN sr qu ⟨p6.l0,r6.com0,r6.g0,r6.g1,p6.g2,p6.l1,p6.com1,p6.l2,p6.com2,r6.L,r6.a+1,(if r6.cp=r6.a then r6.o else r6.a*33),r6.cp,p6.now,p6.cnt,x4.n,x4.c,x4.vh,x4.vl,x4.mh,x4.ml,x4.h,x4.l,x4.th,x4.tl⟩ fun p7 r7=>mP (¬((0:Int)<((r7.L.length - r7.a:Nat):Int))) (mP (aI 0 (p.t+1)) (SB (jl ⟨p7.l0,r7.com0,r7.g0,p7.g1,r7.g2,p7.l1,p7.com1,p7.l2,p7.com2,r7.L,r7.a,r7.o,r7.cp,p7.now,p7.cnt,p.t+1⟩) (iC p) K))))))))))) (EJ p K ⟨p.com0,p.g0,p.g1,p.g2,p.l1,p.com1,p.l2,p.com2,p.L,p.a,p.o,p.cp,p.now⟩))) (by kernel_rfl) ?_
 dsimp only[kp]at hpre
 obtain⟨⟨i0_0,i0_1⟩,⟨i1_0,i1_1⟩,⟨i2_0,i2_1⟩,⟨i3_0,i3_1,i3_2,i3_3⟩,⟨i4_0,i4_1,i4_2,i4_3,i4_4⟩,⟨i5_0,i5_1,i5_2,i5_3,i5_4⟩,ip1,ip2⟩:=hpre
 have pl1:=jz i4_1
 have pl2:=jz i5_1
 have dq:p.L.drop p.a=[]:=List.drop_eq_nil_of_le (by omega)
 have ld:=congrArg List.length dq
 have lz:=Nat.le_refl p.L.length
 have la:=Nat.le_refl p.a
 apply iI<;>intro hc1
 refine aF (by(try dsimp only[yH]);repeat(first|with_reducible assumption|apply And.intro|(apply dM<;>with_reducible assumption)|(apply bD<;>with_reducible assumption)|omega)) fun r1 hi2=> ?_
 dsimp only[oK]at hi2 ⊢
 obtain⟨_,_,aphi2⟩:=hi2
 replace dq:=dP dq aphi2 lz
 clear aphi2 la lz ld
 obtain⟨dq,la,lz,ld⟩:=dq
 (try simp only[apC,apD,List.append_nil,apw,apy]at dq ld lz)
 refine aF (by(try dsimp only[sk]);repeat(first|with_reducible assumption|apply And.intro|(apply dM<;>with_reducible assumption)|(apply bD<;>with_reducible assumption)|omega)) fun r2 hi3=> ?_
 dsimp only[qo]at hi3 ⊢
 have aphi3:=hi3
 replace dq:=dP dq aphi3 lz
 clear aphi3 la lz ld
 obtain⟨dq,la,lz,ld⟩:=dq
 (try simp only[apC,apD,List.append_nil,apw,apy]at dq ld lz)
 refine aF (by(try dsimp only[sj]);repeat(first|with_reducible assumption|apply And.intro|(apply dM<;>with_reducible assumption)|(apply bD<;>with_reducible assumption)|omega)) fun r3 hi4=> ?_
 dsimp only[qm]at hi4 ⊢
 have aphi4:=hi4
 replace dq:=dP dq aphi4 lz
 clear aphi4 la lz ld
 obtain⟨dq,la,lz,ld⟩:=dq
 (try simp only[apC,apD,List.append_nil,apw,apy]at dq ld lz)
 refine cx (by omega) (by omega) fun x1 hi5=> ?_
 (try clear lx lc lq nl nt f_n f_vl f_ml f_tl)
 replace dq:=dl dq hi5
 clear hi5 ld
 obtain⟨f6,f_n,lc,f_vl,f_ml,lx,f_tl,dq,lq,ld,nl,nt⟩:=dq
 (try simp only[apW,apw,apy]at ld nl nt)
 refine cy f6 ?_
 clear f6
 refine cz ?_
 refine aF (by(try dsimp only[sD]);repeat(first|with_reducible assumption|apply And.intro|(apply dM<;>with_reducible assumption)|(apply bD<;>with_reducible assumption)|omega)) fun r4 hi6=> ?_
 dsimp only[mW]at hi6 ⊢
 obtain⟨ea,ec,ap⟩:=hi6
 replace dq:=dP dq ap lz
 clear ap la lz ld
 obtain⟨dq,la,lz,ld⟩:=dq
 (try simp only[apC,apD,List.append_nil,apw,apy]at dq ld lz)
 have ew_1:=wx ea lx i4_0 i4_1
 have en_1:=congrArg List.length ew_1
 clear ea
 have eo:=xy ec lc (by rw[en_1]) i3_3 (by omega:p.com1≤(p.l0.length:Int))
 clear ec
 obtain⟨u_1,v_1,w_1⟩:=Dz eo en_1 i4_3
 have y_1:=Dy ip1 eo
 clear eo
 (try clear ip2)
 clear i4_2 i4_3 i4_4
 refine cx (by omega) (by omega) fun x2 hi7=> ?_
 (try clear lx lc lq nl nt f_n f_vl f_ml f_tl)
 replace dq:=dl dq hi7
 clear hi7 ld
 obtain⟨f6,f_n,lc,f_vl,f_ml,lx,f_tl,dq,lq,ld,nl,nt⟩:=dq
 (try simp only[apW,apw,apy]at ld nl nt)
 refine cy f6 ?_
 clear f6
 refine cz ?_
 refine aF (by(try dsimp only[sC]);repeat(first|with_reducible assumption|apply And.intro|(apply dM<;>with_reducible assumption)|(apply bD<;>with_reducible assumption)|omega)) fun r5 hi8=> ?_
 dsimp only[mV]at hi8 ⊢
 obtain⟨ea,ec,ap⟩:=hi8
 replace dq:=dP dq ap lz
 clear ap la lz ld
 obtain⟨dq,la,lz,ld⟩:=dq
 (try simp only[apC,apD,List.append_nil,apw,apy]at dq ld lz)
 have ew_2:=wx ea lx i5_0 i5_1
 have en_2:=congrArg List.length ew_2
 clear ea
 have eo:=xy ec lc (by rw[en_2]) i3_3 (by omega:p.com2≤(p.l0.length:Int))
 clear ec
 obtain⟨u_2,v_2,Qb⟩:=Dz eo en_2 i5_3
 have y_2:=Dy ip1 eo
 clear eo
 (try clear ip2)
 clear i5_2 i5_3 i5_4
 refine cx (by omega) (by omega) fun x3 hi9=> ?_
 (try clear lx lc lq nl nt f_n f_vl f_ml f_tl)
 replace dq:=dl dq hi9
 clear hi9 ld
 obtain⟨f6,f_n,lc,f_vl,f_ml,lx,f_tl,dq,lq,ld,nl,nt⟩:=dq
 (try simp only[apW,apw,apy]at ld nl nt)
 refine cy f6 ?_
 clear f6
 refine cz ?_
 refine aF (by(try dsimp only[ss]);repeat(first|with_reducible assumption|apply And.intro|(apply dM<;>with_reducible assumption)|(apply bD<;>with_reducible assumption)|omega)) fun r6 hi10=> ?_
 dsimp only[qv]at hi10 ⊢
 obtain⟨eh,ej,er,ap⟩:=hi10
 replace dq:=dP dq ap lz
 clear ap la lz ld
 obtain⟨dq,la,lz,ld⟩:=dq
 (try simp only[apC,apD,List.append_nil,apw,apy]at dq ld lz)
 have ek_1:=mj (m:=(p.l0.length:Int)) ej (by omega) (by omega)
 clear ej
 have eb_1:=oO (gB (m:=(p.l0.length:Int)) er (by omega) (by intro x hx;simp only[apF,apU,or_false]at hx<;>omega)) (by omega)
 clear er
 have k_1:=Dx ek_1 en_1
 refine cx (by omega) (by omega) fun x4 hi11=> ?_
 (try clear lx lc lq nl nt f_n f_vl f_ml f_tl)
 replace dq:=dl dq hi11
 clear hi11 ld
 obtain⟨f6,f_n,lc,f_vl,f_ml,lx,f_tl,dq,lq,ld,nl,nt⟩:=dq
 (try simp only[apW,apw,apy]at ld nl nt)
 refine cy f6 ?_
 clear f6
 refine cz ?_
 refine aF (by(try dsimp only[sr]);repeat(first|with_reducible assumption|apply And.intro|(apply dM<;>with_reducible assumption)|(apply bD<;>with_reducible assumption)|omega)) fun r7 hi12=> ?_
 dsimp only[qu]at hi12 ⊢
 obtain⟨eh,ej,er,ap⟩:=hi12
 replace dq:=dP dq ap lz
 clear ap la lz ld
 obtain⟨dq,la,lz,ld⟩:=dq
 (try simp only[apC,apD,List.append_nil,apw,apy]at dq ld lz)
 have ek_2:=mj (m:=(p.l0.length:Int)) ej (by omega) (by omega)
 clear ej
 have eb_2:=oO (gB (m:=(p.l0.length:Int)) er (by omega) (by intro x hx;simp only[apF,apU,or_false]at hx<;>omega)) (by omega)
 have ee:=mj (BA (m:=(p.l0.length:Int)) er (by omega) (by simp only[apw,apy];omega) (by intro x hx;simp only[apF,apU,or_false]at hx<;>omega)) rfl (by omega)
 clear er
 have k_2:=Dx ek_2 en_2
 (try clear eb_1);(try clear ek_1);(try clear i4_0);(try clear i4_1);(try clear pl1);(try clear eb_2);(try clear ek_2);(try clear i5_0);(try clear i5_1);(try clear pl2);(try clear ip1)
 refine aX (dc ?_)
 exact aev
 exact ab9 hK (by dsimp only[jQ]<;>(first|(exfalso;omega)|(obtain⟨q1,q1_1,q1_2⟩:=ip1 (by omega);have q2:=ip2 (by omega);repeat(first|assumption|omega|(apply Oe<;>first|assumption|omega)|apply And.intro))))
theorem adB:eE Tryz.prog 54 1 GD true 0 Fh:=by
 exact js (lf:=600) bK (bR nat_zk3_1_2.2) (by rfl) jl iC yr (fun b j x h=>by cases h) (fun S M nx K h=>by obtain⟨p,h⟩:=cd h;exact⟨p,(ai h).1,(ai h).2⟩) (fun p K h=>ac0 p K (ai h).1 (ai h).2)
abbrev BJ:=nD
abbrev WS:=CS
def AR (p:BJ) (r:WS):Prop:=r.l1=p.l0∧r.l2=p.l0∧r.com0=(p.l0.length:Int)∧r.com1=(p.l0.length:Int)∧r.com2=(p.l0.length:Int)∧r.g1=(p.l0.length:Int)∧r.g2=(p.l0.length:Int)∧r.a=r.L.length∧(r.L.length:Int)≤p.L.length+16*(5 - 0)∧0≤r.now∧r.now=p.now+3*(5 - 0)
noncomputable def WZ (p:BJ):IE:=([.ptr 0 0,.int 0 (.ofNat 5)],(mw p.l0 p.com0 p.g0 p.g1 p.g2 p.l1 p.com1 p.l2 p.com2 p.L p.a p.o p.cp p.now p.cnt),34)
noncomputable def Ou (p:BJ) (K:KE) (r:WS):Bool:=K (.tup []) (mw p.l0 r.com0 r.g0 r.g1 r.g2 r.l1 r.com1 r.l2 r.com2 r.L r.a r.o r.cp r.now p.cnt) 34
noncomputable def KV (p:BJ) (K:KE):Bool:=ae fun r=>iP (AR p r) (Ou p K r) true
def wv (p:BJ):Prop:=(0≤(0:Int)∧(0:Int)≤5)∧(0≤p.now∧p.now+3*(5 - (0:Int))≤999000)∧(p.a=p.L.length∧(p.L.length:Int)+16*(5 - (0:Int))≤900000)∧(bF p.l0∧p.l0.length≤400∧0≤p.com0∧p.com0≤(p.l0.length:Int))∧(p.g1=(p.l1.length:Int)∧p.l1++p.l0.drop p.l1.length=p.l0∧p.l0.length≤p.l1.length+16∧0≤p.com1∧p.com1≤(p.l1.length:Int))∧(p.g2=(p.l2.length:Int)∧p.l2++p.l0.drop p.l2.length=p.l0∧p.l0.length≤p.l2.length+16∧0≤p.com2∧p.com2≤(p.l2.length:Int))
theorem agC {p:BJ} {K:KE} (hK:KV p K=true) {r:WS} (h:AR p r):Ou p K r=true:=ax h (aq hK r)
theorem aim:Vf wv KV 1 nat_zk3_1_2 GD Zc WZ:=by
 intro p K hpre hK
 refine Eq.trans (b:=(ay jl kp jQ ⟨p.l0,p.com0,p.g0,p.g1,p.g2,p.l1,p.com1,p.l2,p.com2,p.L,p.a,p.o,p.cp,p.now,p.cnt,0⟩ fun p1 r1=>Ou {p with l0:=p1.l0,cnt:=p1.cnt} K ⟨r1.com0,r1.g0,r1.g1,r1.g2,r1.l1,r1.com1,r1.l2,r1.com2,r1.L,r1.a,r1.o,r1.cp,r1.now⟩)) (by kernel_rfl) ?_
 dsimp only[wv]at hpre
 obtain⟨⟨i0_0,i0_1⟩,⟨i1_0,i1_1⟩,⟨i2_0,i2_1⟩,⟨i3_0,i3_1,i3_2,i3_3⟩,⟨i4_0,i4_1,i4_2,i4_3,i4_4⟩,⟨i5_0,i5_1,i5_2,i5_3,i5_4⟩⟩:=hpre
 have pl1:=jz i4_1
 have pl2:=jz i5_1
 refine aF (by(try dsimp only[kp]);repeat(first|with_reducible assumption|apply And.intro|(apply dS;with_reducible assumption)|(apply bD<;>with_reducible assumption)|exact y_1 (by assumption)|exact y_2 (by assumption)|exact y_3 (by assumption)|intro _|omega)) fun r1 hi1=> ?_
 dsimp only[jQ]at hi1 ⊢
 exact agC (p:=p) hK (by dsimp only[AR]<;>(obtain⟨z0,z1,z2,z3,z4,z5,z6,z7,zL,zn0,zn⟩:=hi1;exact⟨z0,z1,z2,z3,z4,z5,z6,z7,by omega,zn0,by omega⟩))
theorem YV:dH Tryz.prog 15 1 (lM WZ (Dn wv KV)):=(cB (f:=15) (k:=1) (lp:=GD) (lf:=600) bK (bR nat_zk3_1_2.2) abY (by rfl) (fun b j x h=>(dh adB (fun h=>(by cases h)) h)) fun p K h=>aim p K (ai h).1 (ai h).2)
noncomputable def UU:NN:=bB nat_zk3_1_2 YV [(0,4),(1,1)] (fun us=>Nat.beq (gi us 1) 5)
end Go.Proofs.Tryz
namespace Go.Proofs.Tryz
open Go.Proofs.YtjhpjjbnojbikaaGreat (dW fj eP fY fS kN)
open Go Go.RowKit Go.Sy
open Go.Eng hiding ae
set_option maxRecDepth 1000000
set_option linter.unusedVariables false
set_option maxHeartbeats 4000000
def xM:XF:=.mk 175 .none (.seq (g_ 1 [e_ 0 3 (.box 28 (.t 1))]) (.seq (g_ 6 [p_ 0 11 (m_ 0),p_ 1 12 (n_ 11),p_ 2 13 (f_ 0 12),r_ 3 14 (l_ 13),p_ 4 15 (k_ 14),p_ 5 4 (m_ 15)]) (.seq (g_ 9 [p_ 0 16 (f_ 1 3),r_ 1 17 (l_ 16),p_ 2 18 (m_ 4),p_ 3 19 (.bin 0 4 (.t 17) (.t 18)),p_ 4 20 (m_ 4),p_ 5 21 (.bin 0 0 (.t 19) (.t 20)),p_ 6 22 (m_ 4),p_ 7 23 (.bin 0 4 (.t 21) (.t 22)),p_ 8 5 (m_ 23)]) (.seq (g_ 9 [p_ 0 24 (f_ 2 3),r_ 1 25 (l_ 24),p_ 2 26 (m_ 4),p_ 3 27 (.bin 0 4 (.t 25) (.t 26)),p_ 4 28 (m_ 4),p_ 5 29 (.bin 0 0 (.t 27) (.t 28)),p_ 6 30 (m_ 4),p_ 7 31 (.bin 0 4 (.t 29) (.t 30)),p_ 8 6 (m_ 31)]) (.seq (g_ 6 [p_ 0 32 (m_ 0),p_ 1 33 (n_ 32),p_ 2 34 (f_ 2 33),r_ 3 35 (l_ 34),p_ 4 36 (k_ 35),p_ 5 7 (m_ 36)]) (.seq (g_ 2 [p_ 0 37 (f_ 0 3),r_ 1 38 (l_ 37)]) (.block 2 (.seq (g_ 2 [p_ 0 40 (.bin 3 4 (.t 38) (i_ 0)),p_ 1 39 (m_ 40)]) (.cond (.t 39) (g_ 3 [p_ 0 41 (m_ 0),p_ 1 42 (m_ 5),c_ 2 43 28 [.t 41,.t 42]]) (.seq (.seq (g_ 2 [p_ 0 45 (.bin 3 4 (.t 38) (i_ 1)),p_ 1 44 (m_ 45)]) (.cond (.t 44) .skip (.seq (g_ 2 [p_ 0 46 (.bin 3 4 (.t 38) (i_ 2)),p_ 1 44 (m_ 46)]) (.cond (.t 44) .skip (.seq (g_ 2 [p_ 0 47 (.bin 3 4 (.t 38) (i_ 3)),p_ 1 44 (m_ 47)]) (.cond (.t 44) .skip (.seq (g_ 2 [p_ 0 48 (.bin 3 4 (.t 38) (i_ 4)),p_ 1 44 (m_ 48)]) (.cond (.t 44) .skip (.seq (g_ 2 [p_ 0 49 (.bin 3 4 (.t 38) (i_ 5)),p_ 1 44 (m_ 49)]) (.cond (.t 44) .skip (g_ 2 [p_ 0 50 (.bin 3 4 (.t 38) (i_ 6)),p_ 1 44 (m_ 50)]))))))))))) (.cond (.t 44) (.seq (.seq (g_ 2 [p_ 0 51 (m_ 7),p_ 1 52 (.bin 3 4 (.t 51) (i_ 0))]) (.cond (.t 52) .ret .skip)) (.seq (g_ 9 [p_ 0 53 (f_ 3 3),r_ 1 54 (l_ 53),p_ 2 55 (m_ 7),p_ 3 56 (.bin 0 4 (.t 54) (.t 55)),p_ 4 57 (m_ 7),p_ 5 58 (.bin 0 0 (.t 56) (.t 57)),p_ 6 59 (m_ 7),p_ 7 60 (.bin 0 4 (.t 58) (.t 59)),p_ 8 8 (m_ 60)]) (.seq (g_ 9 [p_ 0 61 (m_ 0),p_ 1 62 (n_ 61),p_ 2 63 (f_ 2 62),r_ 3 64 (l_ 63),p_ 4 65 (m_ 8),p_ 5 66 (.ixs 33 (.t 64) (.t 65)),r_ 6 67 (.ld true 33 (.t 66)),e_ 7 9 (.al 76 [o_ 0,o_ 0,j_ 1 0,j_ 1 0,j_ 1 0,j_ 3 0,j_ 3 0,j_ 3 0,j_ 3 0,j_ 4 0,j_ 4 0,j_ 1 0,j_ 2 0,j_ 3 0,j_ 1 0,j_ 1 0,j_ 1 0,j_ 1 0,j_ 1 0,j_ 1 0,j_ 1 0,.nilS,j_ 1 0,.str [],j_ 1 0,j_ 3 0,.nilS,j_ 1 0,j_ 2 0,.bool false,.nilS,.nilS,.nilS]),aK 8 (.st 33 (.t 9) (.t 67))]) (.seq (.seq (g_ 3 [p_ 0 68 (f_ 0 3),r_ 1 69 (l_ 68),p_ 2 70 (.bin 3 5 (.t 69) (i_ 5))]) (.cond (.t 70) (h_ 20 [p_ 0 71 (m_ 0),p_ 2 73 (m_ 0),p_ 3 74 (n_ 73),p_ 4 75 (f_ 2 74),r_ 5 76 (l_ 75),p_ 6 77 (m_ 8),r_ 7 78 (.sls 33 (.t 76) none (some (.t 77)) none),p_ 9 80 (m_ 0),p_ 10 81 (n_ 80),p_ 11 82 (f_ 2 81),r_ 12 83 (l_ 82),p_ 13 84 (m_ 8),p_ 14 85 (.bin 0 0 (.t 84) (i_ 1)),r_ 15 86 (.sls 33 (.t 83) (some (.t 85)) none none),e_ 1 72 (.bsl 76 33 0 [] [] []),a_ 5 76 (l_ 75),a_ 7 78 (.sls 33 (.t 76) none (some (.t 77)) none),a_ 12 83 (l_ 82),a_ 15 86 (.sls 33 (.t 83) (some (.t 85)) none none),e_ 8 79 (.app 76 33 232 (.t 72) (.t 78)),a_ 12 83 (l_ 82),a_ 15 86 (.sls 33 (.t 83) (some (.t 85)) none none),e_ 16 87 (.app 76 33 232 (.t 79) (.t 86)),p_ 17 88 (n_ 71),p_ 18 89 (f_ 2 88),aK 19 (.st 1 (.t 89) (.t 87))]) .skip)) (.seq (g_ 3 [p_ 0 90 (f_ 0 3),r_ 1 91 (l_ 90),p_ 2 92 (.bin 3 5 (.t 91) (i_ 6))]) (.cond (.t 92) (g_ 3 [p_ 0 93 (m_ 0),r_ 1 94 (.ld true 33 (.t 9)),c_ 2 95 29 [.t 93,.t 94]]) .skip)))))) (.seq (g_ 2 [p_ 0 97 (.bin 3 4 (.t 38) (i_ 7)),p_ 1 96 (m_ 97)]) (.cond (.t 96) (.seq (g_ 8 [p_ 0 98 (m_ 0),p_ 1 99 (n_ 98),p_ 2 100 (f_ 1 99),r_ 3 101 (l_ 100),p_ 4 102 (m_ 5),p_ 5 103 (.ixs 1 (.t 101) (.t 102)),r_ 6 104 (l_ 103),p_ 7 105 (.un 0 (.t 104))]) (.cond (.t 105) (.seq (g_ 8 [p_ 0 106 (m_ 0),p_ 1 107 (n_ 106),p_ 2 108 (f_ 4 107),r_ 3 109 (l_ 108),p_ 4 110 (.bin 0 0 (.t 109) (i_ 1)),p_ 5 111 (n_ 106),p_ 6 112 (f_ 4 111),aK 7 (.st 1 (.t 112) (.t 110))]) (h_ 13 [p_ 0 113 (m_ 0),p_ 1 114 (n_ 113),p_ 2 115 (f_ 0 114),r_ 3 116 (l_ 115),p_ 4 117 (m_ 5),p_ 5 118 (.ixs 1 (.t 116) (.t 117)),r_ 6 119 (l_ 118),p_ 7 120 (m_ 0),p_ 8 121 (n_ 120),p_ 9 122 (f_ 4 121),r_ 10 123 (l_ 122),c_ 11 124 25 [.t 123],a_ 3 116 (l_ 115),a_ 6 119 (l_ 118),c_ 12 125 24 [.t 119,.t 124]])) .skip)) (.seq (g_ 2 [p_ 0 127 (.bin 3 4 (.t 38) (i_ 8)),p_ 1 126 (m_ 127)]) (.cond (.t 126) (h_ 10 [p_ 0 128 (m_ 0),p_ 1 129 (n_ 128),p_ 2 130 (f_ 0 129),r_ 3 131 (l_ 130),p_ 4 132 (m_ 5),p_ 5 133 (.ixs 1 (.t 131) (.t 132)),r_ 6 134 (l_ 133),p_ 7 135 (m_ 6),c_ 8 136 21 [.t 135],a_ 3 131 (l_ 130),a_ 6 134 (l_ 133),c_ 9 137 20 [.t 134,.t 136]]) (.seq (g_ 2 [p_ 0 139 (.bin 3 4 (.t 38) (i_ 9)),p_ 1 138 (m_ 139)]) (.cond (.t 138) (g_ 8 [p_ 0 140 (m_ 0),p_ 1 141 (n_ 140),p_ 2 142 (f_ 0 141),r_ 3 143 (l_ 142),p_ 4 144 (m_ 5),p_ 5 145 (.ixs 1 (.t 143) (.t 144)),r_ 6 146 (l_ 145),c_ 7 147 17 [.t 146]]) (.seq (g_ 2 [p_ 0 149 (.bin 3 4 (.t 38) (i_ 10)),p_ 1 148 (m_ 149)]) (.cond (.t 148) (g_ 8 [p_ 0 150 (m_ 0),p_ 1 151 (n_ 150),p_ 2 152 (f_ 0 151),r_ 3 153 (l_ 152),p_ 4 154 (m_ 5),p_ 5 155 (.ixs 1 (.t 153) (.t 154)),r_ 6 156 (l_ 155),c_ 7 157 18 [.t 156]]) (.seq (g_ 2 [p_ 0 159 (.bin 3 4 (.t 38) (i_ 11)),p_ 1 158 (m_ 159)]) (.cond (.t 158) (g_ 7 [p_ 0 160 (m_ 0),p_ 1 161 (n_ 160),p_ 2 162 (f_ 1 161),r_ 3 163 (l_ 162),p_ 4 164 (m_ 5),p_ 5 165 (.ixs 1 (.t 163) (.t 164)),aK 6 (.st 1 (.t 165) T_)]) (.seq (g_ 2 [p_ 0 167 (.bin 3 4 (.t 38) (i_ 12)),p_ 1 166 (m_ 167)]) (.cond (.t 166) (.seq (g_ 1 [p_ 0 10 (.mv (i_ 0))]) (.block 3 (.loop [0,5,10,168,169,170,171,172,173] (.seq (.seq (g_ 2 [p_ 0 168 (m_ 10),p_ 1 169 (.bin 3 0 (.t 168) (i_ 10))]) (.cond (.t 169) .skip (.exit 3))) (.seq (.block 4 (g_ 3 [p_ 0 172 (m_ 0),p_ 1 173 (m_ 5),c_ 2 174 28 [.t 172,.t 173]])) (g_ 3 [p_ 0 170 (m_ 10),p_ 1 171 (.bin 0 0 (.t 170) (i_ 1)),p_ 2 10 (m_ 171)])))))) .skip)))))))))))))))))))))))
theorem tm:bN Tryz.prog 10 xM=true:=by kernel_rfl
abbrev wh:=nD
structure Hs where (l0:List Ke) (com0 g0:Int)
def xg (p:wh) (r:Hs):Prop:=(∃e,yi e∧r.l0=p.l0++[e])∧r.l0.length=p.l0.length+1∧p.com0≤r.com0∧r.com0≤max p.com0 (r.l0.length:Int)
noncomputable def PI (p:wh):IE:=([.ptr 0 0,o_Y 0],(mw p.l0 p.com0 p.g0 p.g1 p.g2 p.l1 p.com1 p.l2 p.com2 p.L p.a p.o p.cp p.now p.cnt),34)
noncomputable def Cz (p:wh) (K:KE) (r:Hs):Bool:=K (.tup []) (mw r.l0 r.com0 r.g0 p.g1 p.g2 p.l1 p.com1 p.l2 p.com2 p.L p.a p.o p.cp p.now (p.cnt+1)) 34
noncomputable def Ei (p:wh) (K:KE):Bool:=ae fun r=>iP (xg p r) (Cz p K r) true
def tH (p:wh):Prop:=0≤p.cnt∧p.cnt≤100∧p.l0.length≤300∧0≤p.com0∧p.com0≤400∧p.g1≤(p.l0.length:Int)∧p.g2≤(p.l0.length:Int)
theorem zN {p:wh} {K:KE} (hK:Ei p K=true) {r:Hs} (h:xg p r:=by dsimp only[xg]<;>(first|(exfalso;omega)|(have hb:=gB (m:=(p.l0.length+1:Int)) (by assumption) (by omega) (by intro x hx;simp only[apF,apU,or_false,apv,apw,apy]at hx<;>omega);refine⟨⟨_,?_,rfl⟩,by simp,hb.1,?_⟩;(unfold yi;dsimp only;omega);(rw[apv];simp only[List.length_singleton];omega)))):Cz p K r=true:=ax h (aq hK r)
theorem afD:Vf tH Ei 1 UU aJ xM PI:=by
 intro p K hpre hK
 refine Eq.trans (b:=(let z0:Bool:=(Cz p K ⟨p.l0,p.com0,p.g0⟩);let y0:Int:=(Int.tmod (p.cnt+1) (16:Int));mP (aI 0 (p.cnt+1)) (mP ((16:Int)≠0) (mP (aI 1 y0) (mP ((16:Int)≠0) (mP (aI 0 (Int.tdiv (p.cnt+1) (16:Int))) (mP (aI 0 ((1:Int)+(Int.tdiv (p.cnt+1) (16:Int)))) (mP (aI 2 ((1:Int)+(Int.tdiv (p.cnt+1) (16:Int)))) (iP (y0<(16:Int)) (iP ((0:Int)<((1:Int)+(Int.tdiv (p.cnt+1) (16:Int)))) (iP (400≤(p.l0.length:Int)) z0 (mE (.prow 23 p.l0.length) (mE (.prow 23 p.l0.length) (mP (p.l0.length=p.l0.length) (aM fun m1:List Ke=>mP (bg (m1.map au) (rq [] y0 ((1:Int)+(Int.tdiv (p.cnt+1) (16:Int))))) (mP (bQ 104 (p.l0.length+m1.length)) (aM fun p1:jT=>mP (mD ⟨p.l0++m1,p.com0,p.g0,p.g1,p.g2⟩=mD p1) (ae fun r1:iK=>iP (gD p1 r1) (Cz {p with g1:=p1.c1,g2:=p1.c2} K ⟨p1.l,r1.com,(p1.l.length:Int)⟩) true)))))))) z0) z0))))))))) (by kernel_rfl) ?_
 dsimp only[tH]at hpre
 obtain⟨g1,g2,g3,g4,g5,g_1,g_2⟩:=hpre
 have t5:=tmp 16 (by decide) (p.cnt+1) (by omega)
 have t6:=tdp (p.cnt+1) (by omega)
 refine be (ug (be (ug (be (be (be ?_))))))
 apply iI<;>intro hc1
 apply iI<;>intro hc2
 apply iI<;>intro hc3
 exact zN hK
 refine aH (aH (mI (by first|rfl|omega) ?_))
 refine aR ([⟨Int.tmod (p.cnt+(1:Int)) (16:Int),(1:Int)+(Int.tdiv (p.cnt+(1:Int)) (16:Int))⟩]:List Ke) ?_
 refine mI (show bg (([⟨Int.tmod (p.cnt+(1:Int)) (16:Int),(1:Int)+(Int.tdiv (p.cnt+(1:Int)) (16:Int))⟩]:List Ke).map au) (rq [] (Int.tmod (p.cnt+(1:Int)) (16:Int)) ((1:Int)+(Int.tdiv (p.cnt+(1:Int)) (16:Int)))) from cF _) ?_
 refine eU ?_
 refine fu (.mk ..) rfl fun r1 hi4=> ?_
 dsimp only[gD]at hi4
 exact zN (p:=p) hK
 exact zN hK
 exact zN hK
theorem Vg:dH Tryz.prog 10 1 (lM PI (Dn tH Ei)):=(nE tm afD)
noncomputable def RT:NN:=bB UU Vg [(0,4),(1,15)] (fun us=>Nat.beq (aC us 1 1) 0)
abbrev wg:=nG
structure Hr where (l1:List Ke) (com1 c0:Int)
def xe (p:wg) (r:Hr):Prop:=(∃e,yi e∧r.l1=p.l1++[e])∧r.l1.length=p.l1.length+1∧p.com1≤r.com1∧r.com1≤max p.com1 (r.l1.length:Int)
noncomputable def PH (p:wg):IE:=([.ptr 0 0,o_Y 1],(fi p.l0 p.com0 p.g0 p.g1 p.g2 p.l1 p.com1 p.b1 p.u p.c0 p.c1 p.l2 p.com2 p.b2 p.u2 p.d2_0 p.d2_1 p.L p.a p.o p.cp p.now p.cnt),38)
noncomputable def Cy (p:wg) (K:KE) (r:Hr):Bool:=K (.tup []) (fi p.l0 p.com0 p.g0 p.g1 p.g2 r.l1 r.com1 p.b1 p.u r.c0 p.c1 p.l2 p.com2 p.b2 p.u2 p.d2_0 p.d2_1 p.L p.a p.o p.cp p.now (p.cnt+1)) 38
noncomputable def Eh (p:wg) (K:KE):Bool:=ae fun r=>iP (xe p r) (Cy p K r) true
def tG (p:wg):Prop:=0≤p.cnt∧p.cnt≤100∧p.l1.length≤300∧0≤p.com1∧p.com1≤400∧p.c1≤(p.l1.length:Int)
theorem zM {p:wg} {K:KE} (hK:Eh p K=true) {r:Hr} (h:xe p r:=by dsimp only[xe]<;>(first|(exfalso;omega)|(have hb:=gB (m:=(p.l1.length+1:Int)) (by assumption) (by omega) (by intro x hx;simp only[apF,apU,or_false,apv,apw,apy]at hx<;>omega);refine⟨⟨_,?_,rfl⟩,by simp,hb.1,?_⟩;(unfold yi;dsimp only;omega);(rw[apv];simp only[List.length_singleton];omega)))):Cy p K r=true:=ax h (aq hK r)
theorem afC:Vf tG Eh 1 RT aJ xM PH:=by
 intro p K hpre hK
 refine Eq.trans (b:=(let z0:Bool:=(Cy p K ⟨p.l1,p.com1,p.c0⟩);let y0:Int:=(Int.tmod (p.cnt+1) (16:Int));mP (aI 0 (p.cnt+1)) (mP ((16:Int)≠0) (mP (aI 1 y0) (mP ((16:Int)≠0) (mP (aI 0 (Int.tdiv (p.cnt+1) (16:Int))) (mP (aI 0 ((1:Int)+(Int.tdiv (p.cnt+1) (16:Int)))) (mP (aI 2 ((1:Int)+(Int.tdiv (p.cnt+1) (16:Int)))) (iP (y0<(16:Int)) (iP ((0:Int)<((1:Int)+(Int.tdiv (p.cnt+1) (16:Int)))) (iP (400≤(p.l1.length:Int)) z0 (mE (.prow 29 p.l1.length) (mE (.prow 29 p.l1.length) (mP (p.l1.length=p.l1.length) (aM fun m1:List Ke=>mP (bg (m1.map au) (rq [] y0 ((1:Int)+(Int.tdiv (p.cnt+1) (16:Int))))) (mP (bQ 104 (p.l1.length+m1.length)) (aM fun p1:kL=>mP (rf ⟨p.l1++m1,p.com1,p.b1,p.c0,p.c1⟩=rf p1) (ae fun r1:qZ=>iP (jb p1 r1) (Cy {p with b1:=p1.b,c1:=p1.c1} K ⟨p1.l,r1.com,(p1.l.length:Int)⟩) true)))))))) z0) z0))))))))) (by kernel_rfl) ?_
 dsimp only[tG]at hpre
 obtain⟨g1,g2,g3,g4,g5,g_2⟩:=hpre
 have t5:=tmp 16 (by decide) (p.cnt+1) (by omega)
 have t6:=tdp (p.cnt+1) (by omega)
 refine be (ug (be (ug (be (be (be ?_))))))
 apply iI<;>intro hc1
 apply iI<;>intro hc2
 apply iI<;>intro hc3
 exact zM hK
 refine aH (aH (mI (by first|rfl|omega) ?_))
 refine aR ([⟨Int.tmod (p.cnt+(1:Int)) (16:Int),(1:Int)+(Int.tdiv (p.cnt+(1:Int)) (16:Int))⟩]:List Ke) ?_
 refine mI (show bg (([⟨Int.tmod (p.cnt+(1:Int)) (16:Int),(1:Int)+(Int.tdiv (p.cnt+(1:Int)) (16:Int))⟩]:List Ke).map au) (rq [] (Int.tmod (p.cnt+(1:Int)) (16:Int)) ((1:Int)+(Int.tdiv (p.cnt+(1:Int)) (16:Int)))) from cF _) ?_
 refine eU ?_
 refine fu (.mk ..) rfl fun r1 hi4=> ?_
 dsimp only[jb]at hi4
 exact zM (p:=p) hK
 exact zM hK
 exact zM hK
theorem Ve:dH Tryz.prog 10 1 (lM PH (Dn tG Eh)):=(nE tm afC)
noncomputable def RS:NN:=bB RT Ve [(0,4),(1,15)] (fun us=>Nat.beq (aC us 1 1) 1)
def jS:XF:=.mk 35 (.one 6) (.aft (.seq (g_ 2 [e_ 0 4 (.box 52 (.t 1)),p_ 1 6 (.mv (.c .nilP))]) (.seq (g_ 9 [p_ 0 11 (m_ 0),p_ 1 12 (m_ 2),c_ 2 13 43 [.t 11,.t 12],p_ 3 10 (m_ 13),p_ 4 14 (.ext 0 (.t 10)),p_ 5 15 (.ext 1 (.t 10)),e_ 6 7 rn,aK 7 (.st 3 (.t 7) (.t 14)),p_ 8 8 (m_ 15)]) (.seq (.seq (g_ 7 [p_ 0 16 (m_ 8),p_ 1 17 (.bin 3 5 (.t 16) (i_ 0)),p_ 2 18 (m_ 17),aT 3 19 18 false (.ld true 2 (.t 4)),cG 4 20 18 false 44 [.t 19],ah 5 21 18 false (.un 0 (.t 20)),p_ 6 22 (.pick (.t 18) T_ (.t 21))]) (.cond (.t 22) (.seq (g_ 1 [p_ 0 6 (.mv (.c .nilP))]) .ret) .skip)) (.seq (g_ 5 [p_ 0 23 (m_ 0),r_ 1 24 (.ld true 2 (.t 4)),p_ 2 25 (.bld [j_ 1 0,j_ 3 0,.nilS,.nilP,.nilP,.nilP,o_ 0,j_ 1 0,j_ 1 0,j_ 2 0,.nilS,.nilS,.nilS,.nilS,.bool false,j_ 3 0,j_ 3 0,o_ 0,.nilS,.nilS,o_ 0] [(7,1),(8,2)] [.t 23,.t 24]),e_ 3 26 (.box 86 (.t 25)),p_ 4 9 (m_ 26)]) (.seq (.seq (g_ 4 [r_ 0 27 (.ld true 3 (.t 7)),r_ 1 28 (.ld true 2 (.t 4)),c_ 2 29 45 [.t 27,.t 28],p_ 3 30 (.bin 3 3 (.t 29) (i_ 0))]) (.cond (.t 30) (g_ 3 [p_ 0 31 (m_ 9),r_ 1 32 (.ld true 3 (.t 7)),c_ 2 33 46 [.t 31,i_ 0,.t 32,N_]]) .skip)) (.seq (g_ 2 [p_ 0 34 (m_ 9),p_ 1 6 (m_ 34)]) .ret)))))) [(1,[.can 1 [6],.cell 3 0 5 68 18 Ke au,.upc 3 0 7,.can 1 [6],.upm 8])])
theorem ia:bN Tryz.prog 23 jS=true:=by kernel_rfl
abbrev Mp:=Unit
noncomputable def Me (p:Mp):IE:=([.int 1 (.ofNat 0),dL 0,.sl 0 0 3 (.rest 0)],(n0 (aE 0 1 2)),1)
noncomputable def abA (p:Mp) (K:KE):Bool:=K (.ptr 1 0) (n2 (n2 (n2 (n0 (aO ([]:List Ke))) (bj 6 3 0 7 (([]:List Ke).length) 0 false 8) .leaf) (zp 3 0) (n2 (n0 (aE 0 1 2)) (bm true 9 3) .leaf)) (aE 0 1 2) (n2 (n2 (n0 (cP 0 0 1 0 2 0)) (bu 0) .leaf) (aE 0 1 2) (n0 (aE 0 1 2)))) 10
theorem acU:Vn abA 1 RS aJ jS Me:=by
 intro p K hK
 refine Eq.trans (b:=(let z0:Bool:=(K (.ptr 1 0) (n2 (n2 (n2 (n0 (aO ([]:List Ke))) (bj 6 3 0 7 0 0 false 8) .leaf) (zp 3 0) (n2 (n0 (aE 0 1 2)) (bm true 9 3) .leaf)) (aE 0 1 2) (n2 (n2 (n0 (cP 0 0 1 0 2 0)) (bu 0) .leaf) (aE 0 1 2) (n0 (aE 0 1 2)))) 10);aa (cu (mP ((.sl 7 0 0 (.ex 0):AV)=(.sl 7 0 0 (.ex 0):AV)) z0)) (mP ((.sl 7 0 0 (.ex 0):AV)=(.sl 7 0 0 (.ex 0):AV)) z0))) (by kernel_rfl) ?_
 repeat' (first|exact hK|refine mI rfl ?_|refine bI ?_ ?_)
noncomputable def nc_new3_0:EE 23 1:=bA (fun us M=>aA (Nat.beq (jm M 0) 3) (Nat.beq (aC us 1 0) 0)) (zt ia acU) eS
noncomputable def MH:NN:=ck RS nc_new3_0.2 [(0,1),(1,15),(2,5)]
abbrev Mn:=Unit
noncomputable def Md (p:Mn):IE:=([.int 1 (.ofNat 0),dL 1,.sl 0 0 3 (.rest 0)],(n0 (aE 0 1 2)),1)
noncomputable def abz (p:Mn) (K:KE):Bool:=K (.ptr 1 0) (n2 (n2 (n2 (n0 (aO ([]:List Ke))) (bj 6 3 1 7 (([]:List Ke).length) 0 false 8) .leaf) (zp 3 1) (n2 (n0 (aE 0 1 2)) (bm true 9 3) .leaf)) (aE 0 1 2) (n2 (n2 (n0 (cP 0 0 1 0 2 0)) (bu 0) .leaf) (aE 0 1 2) (n0 (aE 0 1 2)))) 10
theorem acT:Vn abz 1 MH aJ jS Md:=by
 intro p K hK
 refine Eq.trans (b:=(let z0:Bool:=(K (.ptr 1 0) (n2 (n2 (n2 (n0 (aO ([]:List Ke))) (bj 6 3 1 7 0 0 false 8) .leaf) (zp 3 1) (n2 (n0 (aE 0 1 2)) (bm true 9 3) .leaf)) (aE 0 1 2) (n2 (n2 (n0 (cP 0 0 1 0 2 0)) (bu 0) .leaf) (aE 0 1 2) (n0 (aE 0 1 2)))) 10);aa (cu (mP ((.sl 7 0 0 (.ex 0):AV)=(.sl 7 0 0 (.ex 0):AV)) z0)) (mP ((.sl 7 0 0 (.ex 0):AV)=(.sl 7 0 0 (.ex 0):AV)) z0))) (by kernel_rfl) ?_
 repeat' (first|exact hK|refine mI rfl ?_|refine bI ?_ ?_)
noncomputable def nc_new3_1:EE 23 1:=bA (fun us M=>aA (Nat.beq (jm M 0) 3) (Nat.beq (aC us 1 0) 1)) (zt ia acT) nc_new3_0
noncomputable def MG:NN:=ck MH nc_new3_1.2 [(0,1),(1,15),(2,5)]
abbrev Mm:=Unit
noncomputable def Mc (p:Mm):IE:=([.int 1 (.ofNat 0),dL 2,.sl 0 0 3 (.rest 0)],(n0 (aE 0 1 2)),1)
noncomputable def aby (p:Mm) (K:KE):Bool:=K (.ptr 1 0) (n2 (n2 (n2 (n0 (aO ([]:List Ke))) (bj 6 3 2 7 (([]:List Ke).length) 0 false 8) .leaf) (zp 3 2) (n2 (n0 (aE 0 1 2)) (bm true 9 3) .leaf)) (aE 0 1 2) (n2 (n2 (n0 (cP 0 0 1 0 2 0)) (bu 0) .leaf) (aE 0 1 2) (n0 (aE 0 1 2)))) 10
theorem acS:Vn aby 1 MG aJ jS Mc:=by
 intro p K hK
 refine Eq.trans (b:=(let z0:Bool:=(K (.ptr 1 0) (n2 (n2 (n2 (n0 (aO ([]:List Ke))) (bj 6 3 2 7 0 0 false 8) .leaf) (zp 3 2) (n2 (n0 (aE 0 1 2)) (bm true 9 3) .leaf)) (aE 0 1 2) (n2 (n2 (n0 (cP 0 0 1 0 2 0)) (bu 0) .leaf) (aE 0 1 2) (n0 (aE 0 1 2)))) 10);aa (cu (mP ((.sl 7 0 0 (.ex 0):AV)=(.sl 7 0 0 (.ex 0):AV)) z0)) (mP ((.sl 7 0 0 (.ex 0):AV)=(.sl 7 0 0 (.ex 0):AV)) z0))) (by kernel_rfl) ?_
 repeat' (first|exact hK|refine mI rfl ?_|refine bI ?_ ?_)
noncomputable def nc_new3_2:EE 23 1:=bA (fun us M=>aA (Nat.beq (jm M 0) 3) (Nat.beq (aC us 1 0) 2)) (zt ia acS) nc_new3_1
noncomputable def abP:NN:=ck MG nc_new3_2.2 [(0,1),(1,15),(2,5)]
end Go.Proofs.Tryz
namespace Go.Proofs.Tryz
open Go Go.RowKit Go.Sy
open Go.Eng hiding ae
set_option maxRecDepth 1000000
set_option linter.unusedVariables false
set_option maxHeartbeats 4000000
def Lu:XF:=.mk 67 (.one 4) (.aft (.seq (g_ 1 [p_ 0 4 (.mv (.c .nilP))]) (.seq (g_ 3 [p_ 0 11 (.bld [.nilS,.nilS,.nilS,o_ 0,o_ 0] [] []),e_ 1 12 (.box 34 (.t 11)),p_ 2 5 (m_ 12)]) (.seq (g_ 1 [p_ 0 6 (.mv N_)]) (.seq (g_ 1 [p_ 0 7 (.mv N_)]) (.seq (.seq (g_ 1 [p_ 0 8 (.mv (i_ 0))]) (.block 2 (.loop [0,1,4,5,6,7,8,9,10,13,14,15,16,17,18,19,20,21,22,23,24,25,26,27,28,29,30,31,32,33,34,35,36,37,38,39,40,41,42,43,44,45,47,48,49,50,51,52,53,54,55,56,57,58,59,60,61,62,63,64,65,66] (.seq (.seq (g_ 5 [p_ 0 13 (m_ 8),p_ 1 14 (m_ 0),p_ 2 15 (m_ 1),p_ 3 16 (.bin 0 0 (.t 14) (.t 15)),p_ 4 17 (.bin 3 0 (.t 13) (.t 16))]) (.cond (.t 17) .skip (.exit 2))) (.seq (.block 3 (.seq (.seq (g_ 3 [p_ 0 20 (m_ 8),p_ 1 21 (m_ 0),p_ 2 22 (.bin 3 0 (.t 20) (.t 21))]) (.cond (.t 22) (g_ 6 [p_ 0 23 (m_ 6),p_ 1 24 (m_ 8),c_ 2 25 21 [.t 24],e_ 3 26 (.bsl 52 2 1 [j_ 1 0,j_ 2 0] [(0,2)] [.t 25]),e_ 4 27 (.app 52 2 4 (.t 23) (.t 26)),p_ 5 6 (m_ 27)]) .skip)) (g_ 6 [p_ 0 28 (m_ 7),p_ 1 29 (m_ 8),c_ 2 30 21 [.t 29],e_ 3 31 (.bsl 52 2 1 [j_ 1 0,j_ 2 0] [(0,2)] [.t 30]),e_ 4 32 (.app 52 2 4 (.t 28) (.t 31)),p_ 5 7 (m_ 32)]))) (g_ 3 [p_ 0 18 (m_ 8),p_ 1 19 (.bin 0 0 (.t 18) (i_ 1)),p_ 2 8 (m_ 19)])))))) (.seq (.seq (g_ 1 [p_ 0 9 (.mv (i_ 0))]) (.block 4 (.loop [0,1,4,5,6,7,9,10,33,34,35,36,37,38,39,40,41,42,43,44,45,47,48,49,50,51,52,53,54,55,56,57,58,59,60,61,62,63,64,65,66] (.seq (.seq (g_ 5 [p_ 0 33 (m_ 9),p_ 1 34 (m_ 0),p_ 2 35 (m_ 1),p_ 3 36 (.bin 0 0 (.t 34) (.t 35)),p_ 4 37 (.bin 3 0 (.t 33) (.t 36))]) (.cond (.t 37) .skip (.exit 4))) (.seq (.block 5 (.seq (g_ 5 [p_ 0 40 (m_ 9),c_ 1 41 21 [.t 40],p_ 2 42 (m_ 6),c_ 3 43 23 [v_ 1 0,.t 41,.t 42],p_ 4 10 (m_ 43)]) (.seq (g_ 3 [p_ 0 44 (m_ 10),p_ 1 45 (m_ 7),c_ 2 46 27 [.t 44,.t 45]]) (.seq (g_ 11 [p_ 0 47 (m_ 5),p_ 1 48 (m_ 5),p_ 2 49 (n_ 48),p_ 3 50 (f_ 0 49),r_ 4 51 (l_ 50),p_ 5 52 (m_ 10),e_ 6 53 (.bsl 36 1 1 [.nilP] [(0,1)] [.t 52]),e_ 7 54 (.app 36 1 8 (.t 51) (.t 53)),p_ 8 55 (n_ 47),p_ 9 56 (f_ 0 55),aK 10 (.st 1 (.t 56) (.t 54))]) (g_ 10 [p_ 0 57 (m_ 5),p_ 1 58 (m_ 5),p_ 2 59 (n_ 58),p_ 3 60 (f_ 1 59),r_ 4 61 (l_ 60),e_ 5 62 (.bsl 4 1 1 [.bool false] [(0,1)] [F_]),e_ 6 63 (.app 4 1 1 (.t 61) (.t 62)),p_ 7 64 (n_ 57),p_ 8 65 (f_ 1 64),aK 9 (.st 1 (.t 65) (.t 63))]))))) (g_ 3 [p_ 0 38 (m_ 9),p_ 1 39 (.bin 0 0 (.t 38) (i_ 1)),p_ 2 9 (m_ 39)])))))) (.seq (g_ 2 [p_ 0 66 (m_ 5),p_ 1 4 (m_ 66)]) .ret))))))) [(1,[.can 0 [4],.cell 0 0 2 76 33 Fx dA,.tail 0 0 2,.upc 0 0 3,.upc 0 0 4,.can 0 [4]])])
theorem JS:bN Tryz.prog 9 Lu=true:=by kernel_rfl
abbrev wb:=Unit
abbrev Hq:=eJ
def wX (p:wb) (r:Hq):Prop:=r.L.length=0∧r.a=0
noncomputable def Hz (p:wb):IE:=([.int 0 (.ofNat 3),.int 0 (.ofNat 0)],.leaf,0)
noncomputable def Ln (p:wb) (K:KE) (r:Hq):Bool:=K (.ptr 0 0) (mw ([]:List Ke) 0 0 0 0 ([]:List Ke) 0 ([]:List Ke) 0 r.L r.a r.o r.cp 0 0) 34
noncomputable def DZ (p:wb) (K:KE):Bool:=ae fun r=>iP (wX p r) (Ln p K r) true
theorem aee {p:wb} {K:KE} (hK:DZ p K=true) {r:Hq} (h:wX p r):Ln p K r=true:=ax h (aq hK r)
theorem afy:Vn DZ 0 abP aJ Lu Hz:=by
 intro p K hK
 refine Eq.trans (b:=(aM fun p1:Mp=>mP (Me ⟨⟩=Me p1) (aM fun p2:Mn=>mP (Md ⟨⟩=Md p2) (aM fun p3:Mm=>mP (Mc ⟨⟩=Mc p3) (mP ((.nilS:AV)=(.nilS:AV)) (mP (0=([]:List Fx).length) (ae fun u1:Nat=>Ln p K ⟨([]:List Fx),(0:Nat),(0:Nat),u1⟩))))))) (by kernel_rfl) ?_
 refine aR ⟨⟩ ?_
 refine aH ?_
 refine aR ⟨⟩ ?_
 refine aH ?_
 refine aR ⟨⟩ ?_
 refine aH (aH (aH ?_))
 refine ac fun u1=> ?_
 exact aee hK (by dsimp only[wX]<;>exact⟨rfl,rfl⟩)
theorem age:dH Tryz.prog 9 0 (lM Hz DZ):=(zt JS afy)
end Go.Proofs.Tryz
namespace Go.Proofs.Tryz
open Go.Proofs.YtjhpjjbnojbikaaGreat (dW fj eP fY fS kN)
open Go Go.RowKit Go.Sy
open Go.Eng hiding ae
set_option maxRecDepth 1000000
set_option linter.unusedVariables false
set_option maxHeartbeats 4000000
def Nc:XF:=.mk 8 (.one 2) (.aft (.seq (g_ 1 [p_ 0 2 (.mv N_)]) (.seq (.seq (g_ 2 [p_ 0 3 (m_ 0),p_ 1 4 (.isn false 2 (.t 3))]) (.cond (.t 4) (.seq (g_ 1 [p_ 0 2 (.mv N_)]) .ret) .skip)) (.seq (g_ 4 [e_ 0 5 (.bsl 52 2 0 [] [] []),p_ 1 6 (m_ 0),e_ 2 7 (.app 52 2 4 (.t 5) (.t 6)),p_ 3 2 (m_ 7)]) .ret))) [(1,[.lit 2 [[(1,.ofNat 1),(2,.ofNat 1)],[(1,.ofNat 2),(2,.ofNat 1)],[(1,.ofNat 3),(2,.ofNat 1)]]])])
theorem TP:bN Tryz.prog 48 Nc=true:=by kernel_rfl
abbrev tW:=dC
noncomputable def dk (p:tW):IE:=([.sy (.imm p.h 2 Int p.l aG)],.leaf,0)
noncomputable def Xz (p:tW) (K:KE):Bool:=K (.sl 0 0 3 (.rest 0)) (n0 (aE 1 2 3)) 1
def cb (p:tW):Prop:=p.l=[(1:Int),(2:Int),(3:Int)]
theorem di {w:tW} {k:tW→Bool} (h3:k w=true) (h2:cb w:=by(try dsimp only[cb]);assumption):aL dk cb w k=true:=aV h2 h3
theorem aaM:Vf cb Xz 0 tN aJ Nc dk:=by
 intro p K hpre hK
 refine Eq.trans (b:=(iP (nM p.h→p.l=[]) (iP (nM p.h) (K .nilS .leaf 0) (iP (p.l=[]) (K (.sl 0 0 0 (.ex 0)) (n0 (.blk false 52 2 [])) 1) (mP (bQ 4 p.l.length) (mP (p.l.length=3∧p.l.length=p.l.length) (mP (p.l.map (fun x=>(aG x).map bw)=[[((1:Nat),(.ofNat 1:Int)),((2:Nat),(.ofNat 1:Int))],[((1:Nat),(.ofNat 2:Int)),((2:Nat),(.ofNat 1:Int))],[((1:Nat),(.ofNat 3:Int)),((2:Nat),(.ofNat 1:Int))]].map (fun e=>e.map fun p=>Value.int (cR p.1) p.2)) (K (.sl 0 0 3 (.rest 0)) (n0 (aE 1 2 3)) 1)))))) true)) (by kernel_rfl) ?_
 dsimp only[cb]at hpre
 have hvl:=hpre
 have hvn:=congrArg List.length hvl
 simp only[apw,apy]at hvn
 refine iJ fun hi1=> ?_
 apply iI<;>intro hc2
 exfalso;simp_all
 apply iI<;>intro hc3
 have hc3l:(p.l).length=0:=(by rw[hc3];rfl)
 exfalso;simp_all
 have hc3l:0<(p.l).length:=List.length_pos_iff.2 hc3
 refine cz (mI (by rw[hvl];exact⟨rfl,rfl⟩) (mI (by first|(rw[hvl];rfl)|(subst hvl;rfl)) ?_))
 exact hK
noncomputable def Jk:NN:=ck tN (nE TP aaM) [(0,23)]
def xJ:XF:=Qb 3 [1,2,3]
theorem zD:bN Tryz.prog 58 xJ=true:=by kernel_rfl
abbrev AF:=dC
noncomputable def Kv (p:AF):IE:=([MA 1 p.h p.l],.leaf,0)
noncomputable def TH (p:AF) (K:KE):Bool:=K (.bool true) .leaf 0
def oq (p:AF):Prop:=p.l=[(1:Int),(2:Int),(3:Int)]
theorem Uq:Vf oq TH 0 Jk aJ xJ Kv:=by
 intro p K hpre hK
 refine Eq.trans (b:=(iP ((p.l.length:Int)=0) (K (.bool false) .leaf 0) (iP (8<(p.l.length:Int)) (K (.bool false) .leaf 0) (mP (0<(p.l.length:Int)) (mP (0≤(0:Int)∧(0:Int)<(p.l.length:Int)) (ae fun x1:Int=>iP (p.l[0]?=some x1) (iP (x1=1) (mP (1<(p.l.length:Int)) (mP (0≤(1:Int)∧(1:Int)<(p.l.length:Int)) (ae fun x2:Int=>iP (p.l[1]?=some x2) (iP (x2=2) (mP (2<(p.l.length:Int)) (mP (0≤(2:Int)∧(2:Int)<(p.l.length:Int)) (ae fun x3:Int=>iP (p.l[2]?=some x3) (iP (x3=3) (mP (¬(3<(p.l.length:Int))) (K (.bool true) .leaf 0)) mF) true))) mF) true))) mF) true)))))) (by kernel_rfl) ?_
 dsimp only[oq]at hpre
 have hvl:=hpre
 have hvn:=congrArg List.length hvl
 simp only[apw,apy]at hvn
 refine iX fun hc1=> ?_
 refine iX fun hc2=> ?_
 refine aX (bE ?_)
 refine ac fun x1=> ?_
 refine iJ fun hi3=> ?_
 have e_x1:=hi3
 rw[hvl]at e_x1
 simp at e_x1
 apply iI<;>intro hc4
 refine aX (bE ?_)
 refine ac fun x2=> ?_
 refine iJ fun hi5=> ?_
 have e_x2:=hi5
 rw[hvl]at e_x2
 simp at e_x2
 apply iI<;>intro hc6
 refine aX (bE ?_)
 refine ac fun x3=> ?_
 refine iJ fun hi7=> ?_
 have e_x3:=hi7
 rw[hvl]at e_x3
 simp at e_x3
 apply iI<;>intro hc8
 refine aX ?_
 exact hK
 refine aX ?_
 rfl
 refine aX ?_
 rfl
 refine aX ?_
 rfl
noncomputable def nc_rightV4_1:EE 58 0:=bA (fun us M=>aA (ua us 0 2) (Nat.beq (aC us 0 1) 1)) (nE zD Uq) eS
noncomputable def Ds:NN:=bB Jk nc_rightV4_1.2 [(0,15)] (fun us=>ua us 0 2)
abbrev AE:=dC
noncomputable def oh (p:AE):IE:=([MA 2 p.h p.l],.leaf,0)
noncomputable def TG (p:AE) (K:KE):Bool:=K (.bool true) .leaf 0
def dY (p:AE):Prop:=p.l=[(1:Int),(2:Int),(3:Int)]
theorem Up:Vf dY TG 0 Ds aJ xJ oh:=by
 intro p K hpre hK
 refine Eq.trans (b:=(iP ((p.l.length:Int)=0) (K (.bool false) .leaf 0) (iP (8<(p.l.length:Int)) (K (.bool false) .leaf 0) (mP (0<(p.l.length:Int)) (mP (0≤(0:Int)∧(0:Int)<(p.l.length:Int)) (ae fun x1:Int=>iP (p.l[0]?=some x1) (iP (x1=1) (mP (1<(p.l.length:Int)) (mP (0≤(1:Int)∧(1:Int)<(p.l.length:Int)) (ae fun x2:Int=>iP (p.l[1]?=some x2) (iP (x2=2) (mP (2<(p.l.length:Int)) (mP (0≤(2:Int)∧(2:Int)<(p.l.length:Int)) (ae fun x3:Int=>iP (p.l[2]?=some x3) (iP (x3=3) (mP (¬(3<(p.l.length:Int))) (K (.bool true) .leaf 0)) mF) true))) mF) true))) mF) true)))))) (by kernel_rfl) ?_
 dsimp only[dY]at hpre
 have hvl:=hpre
 have hvn:=congrArg List.length hvl
 simp only[apw,apy]at hvn
 refine iX fun hc1=> ?_
 refine iX fun hc2=> ?_
 refine aX (bE ?_)
 refine ac fun x1=> ?_
 refine iJ fun hi3=> ?_
 have e_x1:=hi3
 rw[hvl]at e_x1
 simp at e_x1
 apply iI<;>intro hc4
 refine aX (bE ?_)
 refine ac fun x2=> ?_
 refine iJ fun hi5=> ?_
 have e_x2:=hi5
 rw[hvl]at e_x2
 simp at e_x2
 apply iI<;>intro hc6
 refine aX (bE ?_)
 refine ac fun x3=> ?_
 refine iJ fun hi7=> ?_
 have e_x3:=hi7
 rw[hvl]at e_x3
 simp at e_x3
 apply iI<;>intro hc8
 refine aX ?_
 exact hK
 refine aX ?_
 rfl
 refine aX ?_
 rfl
 refine aX ?_
 rfl
noncomputable def nc_rightV4_2:EE 58 0:=bA (fun us M=>aA (ua us 0 2) (Nat.beq (aC us 0 1) 2)) (nE zD Up) nc_rightV4_1
noncomputable def Dr:NN:=bB Ds nc_rightV4_2.2 [(0,15)] (fun us=>ua us 0 2)
abbrev Gh:=gT
noncomputable def FZ (p:Gh):IE:=([eR 9 1 p.x_n p.x_c 257 [] 0 p.x_vh p.x_vl p.x_mh p.x_ml p.x_h p.x_l p.x_th p.x_tl],.leaf,0)
noncomputable def Xx (p:Gh) (K:KE):Bool:=K (.bool true) .leaf 0
def lh (p:Gh):Prop:=p.x_vl=[]∧p.x_l=[]∧p.x_ml=[(1:Int),(2:Int),(3:Int)]∧bF p.x_tl∧p.x_tl.length≤400∧p.x_n=0∧p.x_c=0
theorem aaI:Vf lh Xx 0 Dr aJ gj FZ:=by
 intro p K hpre hK
 refine Eq.trans (b:=(let z0:Bool:=(K (.bool false) .leaf 0);aL Kv oq ⟨p.x_mh,p.x_ml⟩ fun p1=>iP ((p.x_tl.length:Int)≤400) (aL vj ij ⟨p.x_th,p.x_tl⟩ fun p2=>mE (.imm p.x_th 18 Ke p.x_tl au) (aa (qL [qI 3 p.x_n,qI 3 p.x_c,qY ((.imm p.x_vh 2 Int p.x_vl aG)),qY ((.imm p.x_mh 2 Int p.x_ml aG)),qY ((.imm p.x_h 18 Ke p.x_l au)),qY ((.imm p.x_th 18 Ke p.x_tl au))]) (iP (¬(p.x_vl.length:Int)=0) (iP (p.x_n=(0:Int)) (iP (p.x_c=(0:Int)) z0 z0) z0) (iP (0<(p.x_vl.length:Int)) (mP (0≤(0:Int)∧(0:Int)<(p.x_vl.length:Int)) (ae fun x1:Int=>iP (p.x_vl[0]?=some x1) (false) true)) (aL HA mR ⟨p.x_mh,p.x_ml,p.x_mh,p.x_ml⟩ fun p3=>iP (¬(p.x_l.length:Int)=0) (iP (p.x_n=(0:Int)) (iP (p.x_c=(0:Int)) z0 z0) z0) (iP (0<(p.x_l.length:Int)) (mP (0≤(0:Int)∧(0:Int)<(p.x_l.length:Int)) (ae fun x2:Ke=>iP (p.x_l[0]?=some x2) (false) true)) (aL tu fX ⟨p.x_th,p.x_tl,p.x_th,p.x_tl⟩ fun p4=>iP (p.x_n=(0:Int)) (iP (p.x_c=(0:Int)) (K (.bool true) .leaf 0) z0) z0))))))) z0)) (by kernel_rfl) ?_
 dsimp only[lh]at hpre
 obtain⟨h_vl,h_l,h_ml,k_tl,u_tl,m0,m1⟩:=hpre
 have e_vl:=congrArg List.length h_vl
 have e_l:=congrArg List.length h_l
 have e_ml:=congrArg List.length h_ml
 simp only[apy,apw]at e_vl e_l e_ml
 refine aV (by(try dsimp only[oq]);assumption) ?_
 refine iY fun hc1=> ?_
 refine xU ?_
 refine aH ?_
 refine cq ?_
 apply iI<;>intro hc2
 refine iY fun hc3=> ?_
 refine iX fun hc4=> ?_
 exfalso;omega
 apply iI<;>intro hc5
 refine bE ?_
 refine ac fun x1=> ?_
 refine iJ fun hi6=> ?_
 exfalso;omega
 refine Nm ?_
 apply iI<;>intro hc7
 refine iY fun hc8=> ?_
 refine iX fun hc9=> ?_
 exfalso;omega
 apply iI<;>intro hc10
 refine bE ?_
 refine ac fun x2=> ?_
 refine iJ fun hi11=> ?_
 exfalso;omega
 refine xT ?_
 refine iY fun hc12=> ?_
 refine iY fun hc13=> ?_
 exact hK
noncomputable def nc_mr9_1_4:EE 108 0:=bA (fun us M=>aA (Nat.beq (aC us 0 0) 9) (Nat.beq (aC us 0 3) 1)) (nE eQ aaI) nc_mr4_2
noncomputable def Jg:NN:=ck Dr nc_mr9_1_4.2 [(0,15)]
abbrev Dc:=gT
noncomputable def CY (p:Dc):IE:=([eR 10 0 p.x_n p.x_c 0 [] 2 p.x_vh p.x_vl p.x_mh p.x_ml p.x_h p.x_l p.x_th p.x_tl],.leaf,0)
noncomputable def UD (p:Dc) (K:KE):Bool:=K (.bool true) .leaf 0
def jv (p:Dc):Prop:=p.x_ml=[]∧p.x_tl=[]∧p.x_vl=[(1:Int),(2:Int),(3:Int)]∧bF p.x_l∧p.x_l.length≤400∧p.x_n=0∧p.x_c=0
theorem Xg:Vf jv UD 0 Jg aJ gj CY:=by
 intro p K hpre hK
 refine Eq.trans (b:=(let z0:Bool:=(K (.bool false) .leaf 0);aL oh dY ⟨p.x_vh,p.x_vl⟩ fun p1=>iP ((p.x_l.length:Int)≤400) (aL vj ij ⟨p.x_h,p.x_l⟩ fun p2=>aa (qL [qI 3 p.x_n,qI 3 p.x_c,qY ((.imm p.x_vh 2 Int p.x_vl aG)),qY ((.imm p.x_mh 2 Int p.x_ml aG)),qY ((.imm p.x_h 18 Ke p.x_l au)),qY ((.imm p.x_th 18 Ke p.x_tl au))]) (aL HA mR ⟨p.x_vh,p.x_vl,p.x_vh,p.x_vl⟩ fun p3=>iP (¬(p.x_ml.length:Int)=0) (iP (p.x_n=(0:Int)) (iP (p.x_c=(0:Int)) z0 z0) z0) (iP (0<(p.x_ml.length:Int)) (mP (0≤(0:Int)∧(0:Int)<(p.x_ml.length:Int)) (ae fun x1:Int=>iP (p.x_ml[0]?=some x1) (false) true)) (aL tu fX ⟨p.x_h,p.x_l,p.x_h,p.x_l⟩ fun p4=>iP (¬(p.x_tl.length:Int)=0) (iP (p.x_n=(0:Int)) (iP (p.x_c=(0:Int)) z0 z0) z0) (iP (0<(p.x_tl.length:Int)) (mP (0≤(0:Int)∧(0:Int)<(p.x_tl.length:Int)) (ae fun x2:Ke=>iP (p.x_tl[0]?=some x2) (false) true)) (iP (p.x_n=(0:Int)) (iP (p.x_c=(0:Int)) (K (.bool true) .leaf 0) z0) z0)))))) z0)) (by kernel_rfl) ?_
 dsimp only[jv]at hpre
 obtain⟨h_ml,h_tl,h_vl,k_l,u_l,m0,m1⟩:=hpre
 have e_ml:=congrArg List.length h_ml
 have e_tl:=congrArg List.length h_tl
 have e_vl:=congrArg List.length h_vl
 simp only[apy,apw]at e_ml e_tl e_vl
 refine aV (by(try dsimp only[dY]);assumption) ?_
 refine iY fun hc1=> ?_
 refine xU ?_
 refine cq ?_
 refine Nm ?_
 apply iI<;>intro hc2
 refine iY fun hc3=> ?_
 refine iX fun hc4=> ?_
 exfalso;omega
 apply iI<;>intro hc5
 refine bE ?_
 refine ac fun x1=> ?_
 refine iJ fun hi6=> ?_
 exfalso;omega
 refine xT ?_
 apply iI<;>intro hc7
 refine iY fun hc8=> ?_
 refine iX fun hc9=> ?_
 exfalso;omega
 apply iI<;>intro hc10
 refine bE ?_
 refine ac fun x2=> ?_
 refine iJ fun hi11=> ?_
 exfalso;omega
 refine iY fun hc12=> ?_
 refine iY fun hc13=> ?_
 exact hK
noncomputable def nc_mr10_0_4:EE 108 0:=bA (fun us M=>aA (Nat.beq (aC us 0 0) 10) (Nat.beq (aC us 0 3) 0)) (nE eQ Xg) nc_mr9_1_4
noncomputable def Ep:NN:=ck Jg nc_mr10_0_4.2 [(0,15)]
def nZ:XF:=w_3 3
theorem nw:bN Tryz.prog 59 nZ=true:=by kernel_rfl
abbrev Dh:=dC
noncomputable def rj (p:Dh):IE:=([.sy (.imm p.h 2 Int p.l aG),dL 0],.leaf,0)
noncomputable def UI (p:Dh) (K:KE):Bool:=K (.int 0 (.negSucc 0)) .leaf 0
def eK (p:Dh):Prop:=p.l=[(1:Int),(2:Int),(3:Int)]
theorem Xl:Vf eK UI 0 Ep aJ nZ rj:=by
 intro p K hpre hK
 refine Eq.trans (b:=(mP (0<(p.l.length:Int)) (mP (0≤(0:Int)∧(0:Int)<(p.l.length:Int)) (ae fun x1:Int=>iP (p.l[0]?=some x1) (iP ((0:Int)=x1) (K (.int 0 (.ofNat 0)) .leaf 0) (mP (1<(p.l.length:Int)) (mP (0≤(1:Int)∧(1:Int)<(p.l.length:Int)) (ae fun x2:Int=>iP (p.l[1]?=some x2) (iP ((0:Int)=x2) (K (.int 0 (.ofNat 1)) .leaf 0) (mP (2<(p.l.length:Int)) (mP (0≤(2:Int)∧(2:Int)<(p.l.length:Int)) (ae fun x3:Int=>iP (p.l[2]?=some x3) (iP ((0:Int)=x3) (K (.int 0 (.ofNat 2)) .leaf 0) (mP (¬(3<(p.l.length:Int))) (K (.int 0 (.negSucc 0)) .leaf 0))) true)))) true)))) true)))) (by kernel_rfl) ?_
 dsimp only[eK]at hpre
 have hvl:=hpre
 have hvn:=congrArg List.length hvl
 simp only[apw,apy]at hvn
 refine aX (bE ?_)
 refine ac fun x1=> ?_
 refine iJ fun hi1=> ?_
 have e_x1:=hi1
 rw[hvl]at e_x1
 simp at e_x1
 refine iX fun hc2=> ?_
 refine aX (bE ?_)
 refine ac fun x2=> ?_
 refine iJ fun hi3=> ?_
 have e_x2:=hi3
 rw[hvl]at e_x2
 simp at e_x2
 refine iX fun hc4=> ?_
 refine aX (bE ?_)
 refine ac fun x3=> ?_
 refine iJ fun hi5=> ?_
 have e_x3:=hi5
 rw[hvl]at e_x3
 simp at e_x3
 refine iX fun hc6=> ?_
 refine aX ?_
 exact hK
noncomputable def nc_index4_0:EE 59 0:=bA (fun us M=>Nat.beq (aC us 1 0) 0) (nE nw Xl) eS
noncomputable def Ev:NN:=ck Ep nc_index4_0.2 [(0,23),(1,15)]
abbrev Dg:=dC
noncomputable def ve (p:Dg):IE:=([.sy (.imm p.h 2 Int p.l aG),dL 1],.leaf,0)
noncomputable def UH (p:Dg) (K:KE):Bool:=K (.int 0 (.ofNat 0)) .leaf 0
def fM (p:Dg):Prop:=p.l=[(1:Int),(2:Int),(3:Int)]
theorem Xk:Vf fM UH 0 Ev aJ nZ ve:=by
 intro p K hpre hK
 refine Eq.trans (b:=(mP (0<(p.l.length:Int)) (mP (0≤(0:Int)∧(0:Int)<(p.l.length:Int)) (ae fun x1:Int=>iP (p.l[0]?=some x1) (iP ((1:Int)=x1) (K (.int 0 (.ofNat 0)) .leaf 0) (mP (1<(p.l.length:Int)) (mP (0≤(1:Int)∧(1:Int)<(p.l.length:Int)) (ae fun x2:Int=>iP (p.l[1]?=some x2) (iP ((1:Int)=x2) (K (.int 0 (.ofNat 1)) .leaf 0) (mP (2<(p.l.length:Int)) (mP (0≤(2:Int)∧(2:Int)<(p.l.length:Int)) (ae fun x3:Int=>iP (p.l[2]?=some x3) (iP ((1:Int)=x3) (K (.int 0 (.ofNat 2)) .leaf 0) (mP (¬(3<(p.l.length:Int))) (K (.int 0 (.negSucc 0)) .leaf 0))) true)))) true)))) true)))) (by kernel_rfl) ?_
 dsimp only[fM]at hpre
 have hvl:=hpre
 have hvn:=congrArg List.length hvl
 simp only[apw,apy]at hvn
 refine aX (bE ?_)
 refine ac fun x1=> ?_
 refine iJ fun hi1=> ?_
 have e_x1:=hi1
 rw[hvl]at e_x1
 simp at e_x1
 apply iI<;>intro hc2
 exact hK
 refine aX (bE ?_)
 refine ac fun x2=> ?_
 refine iJ fun hi3=> ?_
 have e_x2:=hi3
 rw[hvl]at e_x2
 simp at e_x2
 refine iX fun hc4=> ?_
 refine aX (bE ?_)
 refine ac fun x3=> ?_
 refine iJ fun hi5=> ?_
 have e_x3:=hi5
 rw[hvl]at e_x3
 simp at e_x3
 refine iX fun hc6=> ?_
 refine aX ?_
 exfalso;omega
noncomputable def nc_index4_1:EE 59 0:=bA (fun us M=>Nat.beq (aC us 1 0) 1) (nE nw Xk) nc_index4_0
noncomputable def Eu:NN:=ck Ev nc_index4_1.2 [(0,23),(1,15)]
abbrev Df:=dC
noncomputable def Da (p:Df):IE:=([.sy (.imm p.h 2 Int p.l aG),dL 2],.leaf,0)
noncomputable def UG (p:Df) (K:KE):Bool:=K (.int 0 (.ofNat 1)) .leaf 0
def jx (p:Df):Prop:=p.l=[(1:Int),(2:Int),(3:Int)]
theorem Xj:Vf jx UG 0 Eu aJ nZ Da:=by
 intro p K hpre hK
 refine Eq.trans (b:=(mP (0<(p.l.length:Int)) (mP (0≤(0:Int)∧(0:Int)<(p.l.length:Int)) (ae fun x1:Int=>iP (p.l[0]?=some x1) (iP ((2:Int)=x1) (K (.int 0 (.ofNat 0)) .leaf 0) (mP (1<(p.l.length:Int)) (mP (0≤(1:Int)∧(1:Int)<(p.l.length:Int)) (ae fun x2:Int=>iP (p.l[1]?=some x2) (iP ((2:Int)=x2) (K (.int 0 (.ofNat 1)) .leaf 0) (mP (2<(p.l.length:Int)) (mP (0≤(2:Int)∧(2:Int)<(p.l.length:Int)) (ae fun x3:Int=>iP (p.l[2]?=some x3) (iP ((2:Int)=x3) (K (.int 0 (.ofNat 2)) .leaf 0) (mP (¬(3<(p.l.length:Int))) (K (.int 0 (.negSucc 0)) .leaf 0))) true)))) true)))) true)))) (by kernel_rfl) ?_
 dsimp only[jx]at hpre
 have hvl:=hpre
 have hvn:=congrArg List.length hvl
 simp only[apw,apy]at hvn
 refine aX (bE ?_)
 refine ac fun x1=> ?_
 refine iJ fun hi1=> ?_
 have e_x1:=hi1
 rw[hvl]at e_x1
 simp at e_x1
 refine iX fun hc2=> ?_
 refine aX (bE ?_)
 refine ac fun x2=> ?_
 refine iJ fun hi3=> ?_
 have e_x2:=hi3
 rw[hvl]at e_x2
 simp at e_x2
 apply iI<;>intro hc4
 exact hK
 refine aX (bE ?_)
 refine ac fun x3=> ?_
 refine iJ fun hi5=> ?_
 have e_x3:=hi5
 rw[hvl]at e_x3
 simp at e_x3
 refine iX fun hc6=> ?_
 refine aX ?_
 exfalso;omega
noncomputable def nc_index4_2:EE 59 0:=bA (fun us M=>Nat.beq (aC us 1 0) 2) (nE nw Xj) nc_index4_1
noncomputable def Et:NN:=ck Eu nc_index4_2.2 [(0,23),(1,15)]
abbrev De:=dC
noncomputable def CZ (p:De):IE:=([.sy (.imm p.h 2 Int p.l aG),dL 3],.leaf,0)
noncomputable def UF (p:De) (K:KE):Bool:=K (.int 0 (.ofNat 2)) .leaf 0
def jw (p:De):Prop:=p.l=[(1:Int),(2:Int),(3:Int)]
theorem Xi:Vf jw UF 0 Et aJ nZ CZ:=by
 intro p K hpre hK
 refine Eq.trans (b:=(mP (0<(p.l.length:Int)) (mP (0≤(0:Int)∧(0:Int)<(p.l.length:Int)) (ae fun x1:Int=>iP (p.l[0]?=some x1) (iP ((3:Int)=x1) (K (.int 0 (.ofNat 0)) .leaf 0) (mP (1<(p.l.length:Int)) (mP (0≤(1:Int)∧(1:Int)<(p.l.length:Int)) (ae fun x2:Int=>iP (p.l[1]?=some x2) (iP ((3:Int)=x2) (K (.int 0 (.ofNat 1)) .leaf 0) (mP (2<(p.l.length:Int)) (mP (0≤(2:Int)∧(2:Int)<(p.l.length:Int)) (ae fun x3:Int=>iP (p.l[2]?=some x3) (iP ((3:Int)=x3) (K (.int 0 (.ofNat 2)) .leaf 0) (mP (¬(3<(p.l.length:Int))) (K (.int 0 (.negSucc 0)) .leaf 0))) true)))) true)))) true)))) (by kernel_rfl) ?_
 dsimp only[jw]at hpre
 have hvl:=hpre
 have hvn:=congrArg List.length hvl
 simp only[apw,apy]at hvn
 refine aX (bE ?_)
 refine ac fun x1=> ?_
 refine iJ fun hi1=> ?_
 have e_x1:=hi1
 rw[hvl]at e_x1
 simp at e_x1
 refine iX fun hc2=> ?_
 refine aX (bE ?_)
 refine ac fun x2=> ?_
 refine iJ fun hi3=> ?_
 have e_x2:=hi3
 rw[hvl]at e_x2
 simp at e_x2
 refine iX fun hc4=> ?_
 refine aX (bE ?_)
 refine ac fun x3=> ?_
 refine iJ fun hi5=> ?_
 have e_x3:=hi5
 rw[hvl]at e_x3
 simp at e_x3
 apply iI<;>intro hc6
 exact hK
 refine aX ?_
 exfalso;omega
noncomputable def nc_index4_3:EE 59 0:=bA (fun us M=>Nat.beq (aC us 1 0) 3) (nE nw Xi) nc_index4_2
noncomputable def Es:NN:=ck Et nc_index4_3.2 [(0,23),(1,15)]
def oD:XF:=w_4 3 [1,2,3]
theorem oU:bN Tryz.prog 60 oD=true:=by kernel_rfl
abbrev jI:=dJ
abbrev ye:=ch
def fZ (p:jI) (r:ye):Prop:=r.o=p.e∧r.o.length=p.e.length
noncomputable def yj (p:jI):IE:=([(MA 2 p.h p.l),dL 1,.sy (.imm p.g 18 Ke p.e au)],.leaf,0)
noncomputable def ox (p:jI) (K:KE) (r:ye):Bool:=K (.ptr 0 0) (Uc r.o (p.e.length:Int) (p.e.length:Int) (p.e.length:Int) (p.e.length:Int) (p.e.length:Int)) 4
noncomputable def AU (p:jI) (K:KE):Bool:=ae fun r=>iP (fZ p r) (ox p K r) true
def gQ (p:jI):Prop:=p.l=[(1:Int),(2:Int),(3:Int)]∧p.e.length≤400
theorem Bt {p:jI} {K:KE} (hK:AU p K=true) {r:ye} (h:fZ p r:=by dsimp only[fZ]<;>assumption):ox p K r=true:=ax h (aq hK r)
theorem TD:Vf gQ AU 0 Es aJ oD yj:=by
 intro p K hpre hK
 refine Eq.trans (b:=(aL oh dY ⟨p.h,p.l⟩ fun p1=>aL ve fM ⟨p.h,p.l⟩ fun p2=>iP (400<(p.e.length:Int)) (K .nilP .leaf 0) (aa (cu (aL dk cb ⟨p.h,p.l⟩ fun p3=>ay bT bp aQ ⟨p.g,p.e⟩ fun p4 r1=>mP (0<(p.l.length:Int)) (mP (0≤(0:Int)∧(0:Int)<(p.l.length:Int)) (ae fun x1:Int=>iP (p.l[0]?=some x1) (iP (x1=1) (mP (1<(p.l.length:Int)) (mP (0≤(1:Int)∧(1:Int)<(p.l.length:Int)) (ae fun x2:Int=>iP (p.l[1]?=some x2) (iP (x2=2) (mP (2<(p.l.length:Int)) (mP (0≤(2:Int)∧(2:Int)<(p.l.length:Int)) (ae fun x3:Int=>iP (p.l[2]?=some x3) (iP (x3=3) (mP (¬(3<(p.l.length:Int))) (ox p K ⟨r1.o⟩)) mF) true))) mF) true))) mF) true)))) (aa (qL [qY ((.imm p.h 2 Int p.l aG))]) (aL dk cb ⟨p.h,p.l⟩ fun p7=>ay bT bp aQ ⟨p.g,p.e⟩ fun p8 r3=>mP (0<(p.l.length:Int)) (mP (0≤(0:Int)∧(0:Int)<(p.l.length:Int)) (ae fun x7:Int=>iP (p.l[0]?=some x7) (iP (x7=1) (mP (1<(p.l.length:Int)) (mP (0≤(1:Int)∧(1:Int)<(p.l.length:Int)) (ae fun x8:Int=>iP (p.l[1]?=some x8) (iP (x8=2) (mP (2<(p.l.length:Int)) (mP (0≤(2:Int)∧(2:Int)<(p.l.length:Int)) (ae fun x9:Int=>iP (p.l[2]?=some x9) (iP (x9=3) (mP (¬(3<(p.l.length:Int))) (ox p K ⟨r3.o⟩)) mF) true))) mF) true))) mF) true))))))) (by kernel_rfl) ?_
 dsimp only[gQ]at hpre
 obtain⟨hpre,hlen⟩:=hpre
 have hvl:=hpre
 have hvn:=congrArg List.length hvl
 simp only[apw,apy]at hvn
 refine aV (by(try dsimp only[dY]);assumption) ?_
 refine aV (by(try dsimp only[fM]);assumption) ?_
 refine iX fun hc1=> ?_
 refine bI ?_ ?_
 refine bk ?_
 refine di ?_
 refine bW fun r1 hi2=> ?_
 dsimp only[aQ]at hi2
 refine aX (bE ?_)
 refine ac fun x1=> ?_
 refine iJ fun hi3=> ?_
 have e_x1:=hi3
 rw[hvl]at e_x1
 simp at e_x1
 apply iI<;>intro hc4
 refine aX (bE ?_)
 refine ac fun x2=> ?_
 refine iJ fun hi5=> ?_
 have e_x2:=hi5
 rw[hvl]at e_x2
 simp at e_x2
 apply iI<;>intro hc6
 refine aX (bE ?_)
 refine ac fun x3=> ?_
 refine iJ fun hi7=> ?_
 have e_x3:=hi7
 rw[hvl]at e_x3
 simp at e_x3
 apply iI<;>intro hc8
 refine aX ?_
 exact Bt hK
 refine aX ?_
 rfl
 refine aX ?_
 rfl
 refine aX ?_
 rfl
 refine cq ?_
 refine di ?_
 refine bW fun r3 hi9=> ?_
 dsimp only[aQ]at hi9
 refine aX (bE ?_)
 refine ac fun x7=> ?_
 refine iJ fun hi10=> ?_
 have e_x7:=hi10
 rw[hvl]at e_x7
 simp at e_x7
 apply iI<;>intro hc11
 refine aX (bE ?_)
 refine ac fun x8=> ?_
 refine iJ fun hi12=> ?_
 have e_x8:=hi12
 rw[hvl]at e_x8
 simp at e_x8
 apply iI<;>intro hc13
 refine aX (bE ?_)
 refine ac fun x9=> ?_
 refine iJ fun hi14=> ?_
 have e_x9:=hi14
 rw[hvl]at e_x9
 simp at e_x9
 apply iI<;>intro hc15
 refine aX ?_
 exact Bt hK
 refine aX ?_
 rfl
 refine aX ?_
 rfl
 refine aX ?_
 rfl
noncomputable def nc_newroll4_1:EE 60 0:=bA (fun us M=>Nat.beq (aC us 1 0) 1) (nE oU TD) eS
noncomputable def Bf:NN:=ck Es nc_newroll4_1.2 [(0,15),(1,15),(2,23)]
abbrev jH:=dJ
abbrev yd:=ch
def kP (p:jH) (r:yd):Prop:=r.o=p.e∧r.o.length=p.e.length
noncomputable def FX (p:jH):IE:=([(MA 2 p.h p.l),dL 2,.sy (.imm p.g 18 Ke p.e au)],.leaf,0)
noncomputable def ow (p:jH) (K:KE) (r:yd):Bool:=K (.ptr 0 0) (.node (.node (.node .leaf (some (cP 1 (p.e.length:Int) 2 (p.e.length:Int) 3 (p.e.length:Int))) .leaf) (some (aE 1 2 3)) .leaf) (some (ig 1 3 2 2 r.o.length (p.e.length:Int) (p.e.length:Int) 3)) (.node .leaf (some (aO r.o)) .leaf)) 4
noncomputable def AT (p:jH) (K:KE):Bool:=ae fun r=>iP (kP p r) (ow p K r) true
def mO (p:jH):Prop:=p.l=[(1:Int),(2:Int),(3:Int)]∧p.e.length≤400
theorem Br {p:jH} {K:KE} (hK:AT p K=true) {r:yd} (h:kP p r:=by dsimp only[kP]<;>assumption):ow p K r=true:=ax h (aq hK r)
theorem TC:Vf mO AT 0 Bf aJ oD FX:=by
 intro p K hpre hK
 refine Eq.trans (b:=(aL oh dY ⟨p.h,p.l⟩ fun p1=>aL Da jx ⟨p.h,p.l⟩ fun p2=>iP (400<(p.e.length:Int)) (K .nilP .leaf 0) (aa (cu (aL dk cb ⟨p.h,p.l⟩ fun p3=>ay bT bp aQ ⟨p.g,p.e⟩ fun p4 r1=>mP (0<(p.l.length:Int)) (mP (0≤(0:Int)∧(0:Int)<(p.l.length:Int)) (ae fun x1:Int=>iP (p.l[0]?=some x1) (iP (x1=1) (mP (1<(p.l.length:Int)) (mP (0≤(1:Int)∧(1:Int)<(p.l.length:Int)) (ae fun x2:Int=>iP (p.l[1]?=some x2) (iP (x2=2) (mP (2<(p.l.length:Int)) (mP (0≤(2:Int)∧(2:Int)<(p.l.length:Int)) (ae fun x3:Int=>iP (p.l[2]?=some x3) (iP (x3=3) (mP (¬(3<(p.l.length:Int))) (ow p K ⟨r1.o⟩)) mF) true))) mF) true))) mF) true)))) (aa (qL [qY ((.imm p.h 2 Int p.l aG))]) (aL dk cb ⟨p.h,p.l⟩ fun p7=>ay bT bp aQ ⟨p.g,p.e⟩ fun p8 r3=>mP (0<(p.l.length:Int)) (mP (0≤(0:Int)∧(0:Int)<(p.l.length:Int)) (ae fun x7:Int=>iP (p.l[0]?=some x7) (iP (x7=1) (mP (1<(p.l.length:Int)) (mP (0≤(1:Int)∧(1:Int)<(p.l.length:Int)) (ae fun x8:Int=>iP (p.l[1]?=some x8) (iP (x8=2) (mP (2<(p.l.length:Int)) (mP (0≤(2:Int)∧(2:Int)<(p.l.length:Int)) (ae fun x9:Int=>iP (p.l[2]?=some x9) (iP (x9=3) (mP (¬(3<(p.l.length:Int))) (ow p K ⟨r3.o⟩)) mF) true))) mF) true))) mF) true))))))) (by kernel_rfl) ?_
 dsimp only[mO]at hpre
 obtain⟨hpre,hlen⟩:=hpre
 have hvl:=hpre
 have hvn:=congrArg List.length hvl
 simp only[apw,apy]at hvn
 refine aV (by(try dsimp only[dY]);assumption) ?_
 refine aV (by(try dsimp only[jx]);assumption) ?_
 refine iX fun hc1=> ?_
 refine bI ?_ ?_
 refine bk ?_
 refine di ?_
 refine bW fun r1 hi2=> ?_
 dsimp only[aQ]at hi2
 refine aX (bE ?_)
 refine ac fun x1=> ?_
 refine iJ fun hi3=> ?_
 have e_x1:=hi3
 rw[hvl]at e_x1
 simp at e_x1
 apply iI<;>intro hc4
 refine aX (bE ?_)
 refine ac fun x2=> ?_
 refine iJ fun hi5=> ?_
 have e_x2:=hi5
 rw[hvl]at e_x2
 simp at e_x2
 apply iI<;>intro hc6
 refine aX (bE ?_)
 refine ac fun x3=> ?_
 refine iJ fun hi7=> ?_
 have e_x3:=hi7
 rw[hvl]at e_x3
 simp at e_x3
 apply iI<;>intro hc8
 refine aX ?_
 exact Br hK
 refine aX ?_
 rfl
 refine aX ?_
 rfl
 refine aX ?_
 rfl
 refine cq ?_
 refine di ?_
 refine bW fun r3 hi9=> ?_
 dsimp only[aQ]at hi9
 refine aX (bE ?_)
 refine ac fun x7=> ?_
 refine iJ fun hi10=> ?_
 have e_x7:=hi10
 rw[hvl]at e_x7
 simp at e_x7
 apply iI<;>intro hc11
 refine aX (bE ?_)
 refine ac fun x8=> ?_
 refine iJ fun hi12=> ?_
 have e_x8:=hi12
 rw[hvl]at e_x8
 simp at e_x8
 apply iI<;>intro hc13
 refine aX (bE ?_)
 refine ac fun x9=> ?_
 refine iJ fun hi14=> ?_
 have e_x9:=hi14
 rw[hvl]at e_x9
 simp at e_x9
 apply iI<;>intro hc15
 refine aX ?_
 exact Br hK
 refine aX ?_
 rfl
 refine aX ?_
 rfl
 refine aX ?_
 rfl
noncomputable def nc_newroll4_2:EE 60 0:=bA (fun us M=>Nat.beq (aC us 1 0) 2) (nE oU TC) nc_newroll4_1
noncomputable def Be:NN:=ck Bf nc_newroll4_2.2 [(0,15),(1,15),(2,23)]
abbrev jG:=dJ
abbrev yc:=ch
def kO (p:jG) (r:yc):Prop:=r.o=p.e∧r.o.length=p.e.length
noncomputable def FW (p:jG):IE:=([(MA 2 p.h p.l),dL 3,.sy (.imm p.g 18 Ke p.e au)],.leaf,0)
noncomputable def ov (p:jG) (K:KE) (r:yc):Bool:=K (.ptr 0 0) (.node (.node (.node .leaf (some (cP 1 (p.e.length:Int) 2 (p.e.length:Int) 3 (p.e.length:Int))) .leaf) (some (aE 1 2 3)) .leaf) (some (ig 1 3 3 2 r.o.length (p.e.length:Int) (p.e.length:Int) 3)) (.node .leaf (some (aO r.o)) .leaf)) 4
noncomputable def AS (p:jG) (K:KE):Bool:=ae fun r=>iP (kO p r) (ov p K r) true
def mN (p:jG):Prop:=p.l=[(1:Int),(2:Int),(3:Int)]∧p.e.length≤400
theorem Bq {p:jG} {K:KE} (hK:AS p K=true) {r:yc} (h:kO p r:=by dsimp only[kO]<;>assumption):ov p K r=true:=ax h (aq hK r)
theorem TB:Vf mN AS 0 Be aJ oD FW:=by
 intro p K hpre hK
 refine Eq.trans (b:=(aL oh dY ⟨p.h,p.l⟩ fun p1=>aL CZ jw ⟨p.h,p.l⟩ fun p2=>iP (400<(p.e.length:Int)) (K .nilP .leaf 0) (aa (cu (aL dk cb ⟨p.h,p.l⟩ fun p3=>ay bT bp aQ ⟨p.g,p.e⟩ fun p4 r1=>mP (0<(p.l.length:Int)) (mP (0≤(0:Int)∧(0:Int)<(p.l.length:Int)) (ae fun x1:Int=>iP (p.l[0]?=some x1) (iP (x1=1) (mP (1<(p.l.length:Int)) (mP (0≤(1:Int)∧(1:Int)<(p.l.length:Int)) (ae fun x2:Int=>iP (p.l[1]?=some x2) (iP (x2=2) (mP (2<(p.l.length:Int)) (mP (0≤(2:Int)∧(2:Int)<(p.l.length:Int)) (ae fun x3:Int=>iP (p.l[2]?=some x3) (iP (x3=3) (mP (¬(3<(p.l.length:Int))) (ov p K ⟨r1.o⟩)) mF) true))) mF) true))) mF) true)))) (aa (qL [qY ((.imm p.h 2 Int p.l aG))]) (aL dk cb ⟨p.h,p.l⟩ fun p7=>ay bT bp aQ ⟨p.g,p.e⟩ fun p8 r3=>mP (0<(p.l.length:Int)) (mP (0≤(0:Int)∧(0:Int)<(p.l.length:Int)) (ae fun x7:Int=>iP (p.l[0]?=some x7) (iP (x7=1) (mP (1<(p.l.length:Int)) (mP (0≤(1:Int)∧(1:Int)<(p.l.length:Int)) (ae fun x8:Int=>iP (p.l[1]?=some x8) (iP (x8=2) (mP (2<(p.l.length:Int)) (mP (0≤(2:Int)∧(2:Int)<(p.l.length:Int)) (ae fun x9:Int=>iP (p.l[2]?=some x9) (iP (x9=3) (mP (¬(3<(p.l.length:Int))) (ov p K ⟨r3.o⟩)) mF) true))) mF) true))) mF) true))))))) (by kernel_rfl) ?_
 dsimp only[mN]at hpre
 obtain⟨hpre,hlen⟩:=hpre
 have hvl:=hpre
 have hvn:=congrArg List.length hvl
 simp only[apw,apy]at hvn
 refine aV (by(try dsimp only[dY]);assumption) ?_
 refine aV (by(try dsimp only[jw]);assumption) ?_
 refine iX fun hc1=> ?_
 refine bI ?_ ?_
 refine bk ?_
 refine di ?_
 refine bW fun r1 hi2=> ?_
 dsimp only[aQ]at hi2
 refine aX (bE ?_)
 refine ac fun x1=> ?_
 refine iJ fun hi3=> ?_
 have e_x1:=hi3
 rw[hvl]at e_x1
 simp at e_x1
 apply iI<;>intro hc4
 refine aX (bE ?_)
 refine ac fun x2=> ?_
 refine iJ fun hi5=> ?_
 have e_x2:=hi5
 rw[hvl]at e_x2
 simp at e_x2
 apply iI<;>intro hc6
 refine aX (bE ?_)
 refine ac fun x3=> ?_
 refine iJ fun hi7=> ?_
 have e_x3:=hi7
 rw[hvl]at e_x3
 simp at e_x3
 apply iI<;>intro hc8
 refine aX ?_
 exact Bq hK
 refine aX ?_
 rfl
 refine aX ?_
 rfl
 refine aX ?_
 rfl
 refine cq ?_
 refine di ?_
 refine bW fun r3 hi9=> ?_
 dsimp only[aQ]at hi9
 refine aX (bE ?_)
 refine ac fun x7=> ?_
 refine iJ fun hi10=> ?_
 have e_x7:=hi10
 rw[hvl]at e_x7
 simp at e_x7
 apply iI<;>intro hc11
 refine aX (bE ?_)
 refine ac fun x8=> ?_
 refine iJ fun hi12=> ?_
 have e_x8:=hi12
 rw[hvl]at e_x8
 simp at e_x8
 apply iI<;>intro hc13
 refine aX (bE ?_)
 refine ac fun x9=> ?_
 refine iJ fun hi14=> ?_
 have e_x9:=hi14
 rw[hvl]at e_x9
 simp at e_x9
 apply iI<;>intro hc15
 refine aX ?_
 exact Bq hK
 refine aX ?_
 rfl
 refine aX ?_
 rfl
 refine aX ?_
 rfl
noncomputable def nc_newroll4_3:EE 60 0:=bA (fun us M=>Nat.beq (aC us 1 0) 3) (nE oU TB) nc_newroll4_2
noncomputable def Bd:NN:=ck Be nc_newroll4_3.2 [(0,15),(1,15),(2,23)]
def w_8:=fun v0 v1=>(.mk 10 (.cell 2 true 2) (.aft (.seq (g_ 2 [e_ 0 1 (.box 130 (.t 0)),e_ 1 2 rp]) (.seq (h_ 8 [p_ 0 3 (f_ 0 1),r_ 1 4 (l_ 3),p_ 3 6 (f_ 1 1),r_ 4 7 (l_ 6),c_ 2 5 48 [.t 4],a_ 4 7 (l_ 6),c_ 5 8 132 [.t 7],p_ 6 9 (.bld [.nilS,.nilS] [(0,1),(1,1)] [.t 5,.t 8]),aK 7 (.st 2 (.t 2) (.t 9))]) .ret)) [(1,[.can v0 [2],.upc v1 0 0,.upc v1 1 0,.upc v1 2 0,.cell v0 0 0 52 2 Int aG,.frzc v0 0 0,.can v0 [2]])]):XF)
def JT:XF:=w_8 1 2
theorem OA:bN Tryz.prog 123 JT=true:=by kernel_rfl
abbrev nL:=kM
abbrev CX:=iL
def eN (p:nL) (r:CX):Prop:=r.ml=[(1:Int),(2:Int),(3:Int)]∧r.tl=p.e∧r.tl.length=p.e.length
noncomputable def rk (p:nL):IE:=([.agg [.sl 0 0 3 (.rest 0),.sy (.imm p.g 18 Ke p.e au)]],(n0 (aE 1 2 3)),1)
noncomputable def Ay (p:nL) (K:KE) (r:CX):Bool:=K (YN r.hm r.ml r.ht r.tl) (.node .leaf (some (aE 1 2 3)) .leaf) 1
noncomputable def Ej (p:nL) (K:KE):Bool:=ae fun r=>iP (eN p r) (Ay p K r) true
def eL (p:nL):Prop:=p.e.length≤1000000
theorem Wg {p:nL} {K:KE} (hK:Ej p K=true) {r:CX} (h:eN p r):Ay p K r=true:=ax h (aq hK r)
theorem Xp:Vf eL Ej 1 Bd aJ JT rk:=by
 intro p K hpre hK
 refine Eq.trans (b:=(mE (.imm p.g 18 Ke p.e au) (ay dI co bx ⟨p.g,p.e⟩ fun p1 r1=>aM fun l1:List Int=>mP (l1.map aG=[[.sint 1 1,.int 2 (.ofNat 1)],[.sint 1 2,.int 2 (.ofNat 1)],[.sint 1 3,.int 2 (.ofNat 1)]]) (mP ((.sl 2 0 3 (.rest 0):AV)=(.sl 2 0 3 (.rest 0):AV)) (mP (l1.length=l1.length) (ae fun h1:Value=>mP ((.sy (.prow 3 l1.length):AV)=(.sy (.prow 3 l1.length):AV)) (Ay p K ⟨h1,l1,r1.h,r1.o⟩))))))) (by kernel_rfl) ?_
 dsimp only[eL]at hpre
 have hlen:=hpre
 refine aH ?_
 refine eg fun r1 hi1=> ?_
 dsimp only[bx]at hi1
 refine aR [1,2,3] ?_
 refine aH (aH (aH ?_))
 refine ac fun h1=> ?_
 refine aH ?_
 exact Wg hK (by dsimp only[eN]<;>(first|exact⟨rfl,by assumption⟩|(exact⟨by assumption,by assumption⟩)))
noncomputable def Ez:NN:=bB Bd (nE OA Xp) [(0,15)] (fun us=>kx (ua us 0 0))
def JU:XF:=w_8 0 1
theorem OB:bN Tryz.prog 123 JU=true:=by kernel_rfl
abbrev iU:=dJ
abbrev uZ:=iL
def aY (p:iU) (r:uZ):Prop:=r.ml=[(1:Int),(2:Int),(3:Int)]∧r.tl=p.e∧r.tl.length=p.e.length
noncomputable def cH (p:iU):IE:=([YN p.h p.l p.g p.e],.leaf,0)
noncomputable def Az (p:iU) (K:KE) (r:uZ):Bool:=K (YN r.hm r.ml r.ht r.tl) .leaf 0
noncomputable def Ek (p:iU) (K:KE):Bool:=ae fun r=>iP (aY p r) (Az p K r) true
def bH (p:iU):Prop:=p.l=[(1:Int),(2:Int),(3:Int)]∧p.e.length≤1000000
theorem cK {w:iU} {k:iU→uZ→Bool} (h3:∀r,aY w r→k w r=true) (h2:bH w:=by(try dsimp only[bH]);exact⟨by assumption,by omega⟩):ay cH bH aY w k=true:=aF h2 h3
theorem Wh {p:iU} {K:KE} (hK:Ek p K=true) {r:uZ} (h:aY p r):Az p K r=true:=ax h (aq hK r)
theorem Xq:Vf bH Ek 0 Ez aJ JU cH:=by
 intro p K hpre hK
 refine Eq.trans (b:=(aL dk cb ⟨p.h,p.l⟩ fun p1=>mE (.imm p.g 18 Ke p.e au) (ay dI co bx ⟨p.g,p.e⟩ fun p2 r1=>aM fun l1:List Int=>mP (l1.map aG=[[.sint 1 1,.int 2 (.ofNat 1)],[.sint 1 2,.int 2 (.ofNat 1)],[.sint 1 3,.int 2 (.ofNat 1)]]) (mP ((.sl 1 0 3 (.rest 0):AV)=(.sl 1 0 3 (.rest 0):AV)) (mP (l1.length=l1.length) (ae fun h1:Value=>mP ((.sy (.prow 2 l1.length):AV)=(.sy (.prow 2 l1.length):AV)) (Az p K ⟨h1,l1,r1.h,r1.o⟩))))))) (by kernel_rfl) ?_
 dsimp only[bH]at hpre
 obtain⟨hpre,hlen⟩:=hpre
 have hvl:=hpre
 have hvn:=congrArg List.length hvl
 simp only[apw,apy]at hvn
 refine di ?_
 refine aH ?_
 refine eg fun r1 hi1=> ?_
 dsimp only[bx]at hi1
 refine aR [1,2,3] ?_
 refine aH (aH (aH ?_))
 refine ac fun h1=> ?_
 refine aH ?_
 exact Wh hK (by dsimp only[aY]<;>(first|exact⟨rfl,by assumption⟩|(exact⟨by assumption,by assumption⟩)))
noncomputable def nat_clonev4i:NN:=bB Ez (nE OB Xq) [(0,15)] (fun us=>ua us 0 0)
noncomputable def Dp4 (l1:List Ke) (com1 t u:Int) (hq:Value) (tq:List Ke) (hcm:Value) (cm:List Int) (hct:Value) (ct:List Ke) (ham:Value) (aw:List Int) (hat:Value) (av:List Ke):T:=(n2 (n2 (n2 (n0 (bm true 13 4)) (hQ ham aw hat av) (n0 am)) am (n2 (n0 (aO l1)) am (n0 am))) (jR 1 4 2 3 4 t 5 6 u 7) (n2 (n2 (n0 am) (xw 11 4 2 12 hq tq hcm cm hct ct) (n0 o_X)) (bj 8 4 1 9 l1.length com1 true 10) (n2 (n0 (ca 0 0 0 0)) (bL 1) .leaf)))
noncomputable def Dn4 (l1:List Ke) (com1 b1 u c0 c1 c2:Int) (hm:Value) (ml:List Int) (h:Value) (e:List Ke):T:=(n2 (n2 (n2 (n0 (nX 11 4 12 3)) (ig 8 3 1 9 l1.length b1 com1 10) (n0 am)) (o_z [] hm ml h e) (n2 (n0 (aO l1)) am .leaf)) (nU 2 3 3 4 1 5 4 6 u 7) (n2 (n2 (n0 (aE 1 2 3)) (bu 0) (n0 (aE 1 2 3))) (aE 1 2 3) (n2 (n0 (cP 1 c0 2 c1 3 c2)) (bL 0) .leaf)))
noncomputable def Dq4 (l1:List Ke) (com1 t u:Int) (hq:Value) (tq:List Ke) (hcm:Value) (cm:List Int) (hct:Value) (ct:List Ke) (ham:Value) (aw:List Int) (hat:Value) (av:List Ke) (hm:Value) (ml:List Int) (ht:Value) (tl:List Ke):T:=(n2 (n2 (n2 (n2 (n0 am) am .leaf) am (n0 (aO l1))) (.blk false 130 2 [[.sy (.imm hm 2 Int ml aG),.sy (.imm ht 18 Ke tl au)]]) (n2 (n0 (bm true 15 4)) (hQ ham aw hat av) (n0 am))) (jR 3 4 4 5 6 t 7 8 u 9) (n2 (n2 (n0 (bL 1)) (bj 10 4 1 11 l1.length com1 true 12) (n0 (ca 0 0 0 0))) (bm false 3 4) (n2 (n0 am) (xw 13 4 2 14 hq tq hcm cm hct ct) (n0 o_X))))
def Wz:XC:=Np
def Na:XF:=.mk 70 (.one 4) (.seq (g_ 1 [p_ 0 4 (.mv N_)]) (.seq (.pre [.can 1 [0,1]] (.spc 0 Wz)) (.seq (h_ 12 [p_ 0 22 (m_ 0),p_ 1 23 (n_ 22),p_ 2 24 (f_ 7 23),r_ 3 25 (l_ 24),p_ 4 26 (f_ 1 6),r_ 5 27 (l_ 26),p_ 6 28 (.bin 0 0 (.t 27) (v_ 3 1)),p_ 7 29 (f_ 0 5),r_ 8 30 (l_ 29),p_ 9 31 (.bld [j_ 1 0,j_ 3 0,.nilS] [(0,1),(1,1),(2,1)] [.t 25,.t 28,.t 30]),e_ 10 7 rn,a_ 3 25 (l_ 24),a_ 5 27 (l_ 26),a_ 8 30 (l_ 29),aK 11 (.st 3 (.t 7) (.t 31))]) (.seq (.aft (h_ 17 [p_ 0 32 (m_ 0),p_ 1 33 (n_ 32),p_ 2 34 (f_ 0 33),p_ 3 35 (f_ 3 34),r_ 4 36 (l_ 35),p_ 6 38 (m_ 0),p_ 7 39 (n_ 38),p_ 8 40 (f_ 0 39),p_ 9 41 (f_ 3 40),r_ 10 42 (l_ 41),p_ 13 45 (f_ 1 5),r_ 14 46 (l_ 45),c_ 5 37 34 [.t 36],a_ 10 42 (l_ 41),a_ 14 46 (l_ 45),c_ 11 43 111 [.t 42],a_ 14 46 (l_ 45),r_ 12 44 (.sls 18 (.t 37) none (some (.t 43)) none),e_ 15 47 (.app 68 18 104 (.t 44) (.t 46)),p_ 16 8 (m_ 47)]) [(0,[.frz 8])]) (.seq (g_ 5 [r_ 0 48 (.ld true 3 (.t 7)),p_ 1 49 (m_ 8),p_ 2 50 (.bld [j_ 1 0,j_ 1 0,j_ 1 0,j_ 3 0,j_ 3 0,j_ 3 0,j_ 3 0,j_ 4 0,j_ 4 0,j_ 1 0,j_ 2 0,j_ 3 0,j_ 1 0,j_ 1 0,j_ 1 0,j_ 1 0,j_ 1 0,j_ 1 0,j_ 1 0,.nilS,j_ 1 0,.str [],j_ 1 0,j_ 3 0,.nilS,j_ 1 0,j_ 2 0,.bool false,.nilS,.nilS,.nilS] [(0,1),(22,3),(29,1)] [v_ 1 10,.t 48,.t 49]),e_ 3 9 Do,aK 4 (.st 31 (.t 9) (.t 50))]) (.seq (g_ 5 [p_ 0 51 (f_ 2 7),r_ 1 52 (l_ 51),p_ 2 53 (.mkf 164 [.t 6]),c_ 3 54 63 [.t 52,.t 53],p_ 4 10 (m_ 54)]) (.seq (g_ 5 [p_ 0 55 (m_ 0),p_ 1 56 (m_ 1),r_ 2 57 (.ld true 3 (.t 7)),p_ 3 58 (m_ 8),c_ 4 59 46 [.t 55,.t 56,.t 57,.t 58]]) (.seq (h_ 11 [p_ 0 60 (m_ 0),r_ 1 61 (.ld true 31 (.t 9)),p_ 2 62 (f_ 2 6),r_ 3 63 (l_ 62),p_ 5 65 (m_ 0),r_ 6 66 (.ld true 31 (.t 9)),p_ 7 67 (m_ 10),c_ 4 64 69 [.t 60,.t 61,.t 63],a_ 6 66 (.ld true 31 (.t 9)),c_ 8 68 69 [.t 65,.t 66,.t 67],e_ 9 69 (.app 118 33 224 (.t 64) (.t 68)),p_ 10 4 (m_ 69)]) .ret))))))))
theorem TN:bN Tryz.prog 135 Na=true:=by kernel_rfl
abbrev vm:=oH
abbrev acH:=iL
def DQ (p:vm) (r:acH):Prop:=r.ml=[(1:Int),(2:Int),(3:Int)]∧r.tl=p.l1∧r.tl.length=p.l1.length
noncomputable def Ah (p:vm):IL:=((.cons 1 (.sy (.int 0 p.now)) (.cons 0 (.ptr 0 0) .nil)),(Dp4 p.l1 p.com1 p.t p.u p.hq p.tq p.hcm p.cm p.hct p.ct p.ham p.aw p.hat p.av),14)
noncomputable def Bj (p:vm) (K:KC) (r:acH):Bool:=K 0 (.cons 6 (.ptr 2 0) (.cons 5 (.ptr 1 0) (.cons 1 (.sy (.int 0 p.now)) (.cons 0 (.ptr 0 0) .nil)))) (Dq4 p.l1 p.com1 p.t p.u p.hq p.tq p.hcm p.cm p.hct p.ct p.ham p.aw p.hat p.av r.hm r.ml r.ht r.tl) 16
noncomputable def Ok (p:vm) (K:KC):Bool:=ae fun r=>iP (DQ p r) (Bj p K r) true
def AM (p:vm):Prop:=p.l1.length≤400∧p.ct=p.l1∧p.cm=[(1:Int),(2:Int),(3:Int)]
theorem GM {p:vm} {K:KC} (hK:Ok p K=true) {r:acH} (h:DQ p r:=by dsimp only[DQ]<;>(exact⟨by assumption,by rw[←hct];assumption⟩)):Bj p K r=true:=ax h (aq hK r)
noncomputable def anc (p:vm) (K:KC):Bool:=aa (aN (AM p)) (Ok p K)
noncomputable def uz:fx:=fun j S M nx K=>(Bool.rec (false) (aM fun p:vm=>aa (aN ((S,M,nx)=Ah p)) (anc p K)) (Nat.beq j 0))
theorem akI (p:vm) (K:KC) (hpre:AM p) (hK:Ok p K=true):(dj (gN nat_clonev4i.1) uz 600 Wz (Ah p).1 (Ah p).2.1 (Ah p).2.2 K)=true:=by
 refine Eq.trans (b:=(aa (aa (cu (ay cH bH aY ⟨p.hcm,p.cm,p.hct,p.ct⟩ fun p1 r1=>Bj p K ⟨r1.hm,r1.ml,r1.ht,r1.tl⟩)) (ay cH bH aY ⟨p.hcm,p.cm,p.hct,p.ct⟩ fun p3 r3=>Bj p K ⟨r3.hm,r3.ml,r3.ht,r3.tl⟩)) (aa (ay cH bH aY ⟨p.hcm,p.cm,p.hct,p.ct⟩ fun p4 r4=>Bj p K ⟨r4.hm,r4.ml,r4.ht,r4.tl⟩) (cu (ay cH bH aY ⟨p.hcm,p.cm,p.hct,p.ct⟩ fun p5 r5=>Bj p K ⟨r5.hm,r5.ml,r5.ht,r5.tl⟩))))) (by kernel_rfl) ?_
 dsimp only[AM]at hpre
 obtain⟨hlen,hct,hpre⟩:=hpre
 have hcl:=congrArg List.length hct
 refine bI ?_ ?_
 refine bI ?_ ?_
 refine bk ?_
 refine cK fun r1 hi1=> ?_
 dsimp only[aY]at hi1
 obtain⟨hi1,hs1⟩:=hi1
 exact GM hK
 refine cK fun r3 hi2=> ?_
 dsimp only[aY]at hi2
 obtain⟨hi2,hs2⟩:=hi2
 exact GM hK
 refine bI ?_ ?_
 refine cK fun r4 hi3=> ?_
 dsimp only[aY]at hi3
 obtain⟨hi3,hs3⟩:=hi3
 exact GM hK
 refine bk ?_
 refine cK fun r5 hi4=> ?_
 dsimp only[aY]at hi4
 obtain⟨hi4,hs4⟩:=hi4
 exact GM hK
theorem anV:eE Tryz.prog 70 1 uz false 0 Wz:=by
 refine Gt (lf:=600) bK (bR nat_clonev4i.2) (by rfl) (fun b j x h=>by cases h) (fun S M nx K h=> ?_)
 obtain⟨p,h⟩:=cd h
 obtain⟨e,h9⟩:=ai h
 clear h
 have e1:S=(Ah p).1:=congrArg Prod.fst e
 have e2:M=(Ah p).2.1:=congrArg (fun x=>x.2.1) e
 have e3:nx=(Ah p).2.2:=congrArg (fun x=>x.2.2) e
 subst e1;subst e2;subst e3
 exact akI p K (ai h9).1 (ai h9).2
abbrev pN:=oH
abbrev FF:=Aa
def iw (p:pN) (r:FF):Prop:=r.o=p.l1∧r.z=(p.l1.length:Int)∧r.ml=[(1:Int),(2:Int),(3:Int)]∧r.e=p.l1
noncomputable def Gc (p:pN):IE:=([.ptr 0 0,.sy (.int 0 p.now)],(Dp4 p.l1 p.com1 p.t p.u p.hq p.tq p.hcm p.cm p.hct p.ct p.ham p.aw p.hat p.av),14)
noncomputable def MS (p:pN) (K:KE) (r:FF):Bool:=K (.sl 1 0 3 (.rest 0)) (Dn4 r.o r.z r.z (p.now+2) r.z r.z r.z r.hm r.ml r.h r.e) 13
noncomputable def It (p:pN) (K:KE):Bool:=ae fun r=>iP (iw p r) (MS p K r) true
def li (p:pN):Prop:=p.l1.length≤400∧p.ct=p.l1∧p.cm=[(1:Int),(2:Int),(3:Int)]∧0≤p.now∧p.now≤1000000
theorem Kh {p:pN} {K:KE} (hK:It p K=true) {r:FF} (h:iw p r):MS p K r=true:=ax h (aq hK r)
theorem aaK:Vf li It 1 nat_clonev4i uz Na Gc:=by
 intro p K hpre hK
 refine Eq.trans (b:=(ay Ah AM DQ ⟨p.l1,p.com1,p.t,p.u,p.hq,p.tq,p.hcm,p.cm,p.hct,p.ct,p.ham,p.aw,p.hat,p.av,p.now⟩ fun p1 r1=>mE (.imm r1.hm 2 Int r1.ml aG) (ay bS aW aP ⟨p1.l1⟩ fun p2 r2=>mE (.imm r1.ht 18 Ke r1.tl au) (mE (.imm r1.ht 18 Ke r1.tl au) (mP ((0:Int)=0∧0≤(0:Int)∧(0:Int)≤(r2.o.length:Int)∧r2.o.length≤r2.o.length) (mP (0≤r2.o.length) (iP (r1.tl=[]) (mP (0=r2.o.length) (mP (0=r2.o.length) (ae fun h2:Value=>aL dk cb ⟨r1.hm,r1.ml⟩ fun p9=>aL ve fM ⟨r1.hm,r1.ml⟩ fun p10=>aL dk cb ⟨r1.hm,r1.ml⟩ fun p11=>aa (qL [qY ((.imm r1.hm 2 Int r1.ml aG))]) (ay yj gQ fZ ⟨r1.hm,r1.ml,h2,r2.o⟩ fun p12 r4=>aL dk cb ⟨r1.hm,r1.ml⟩ fun p13=>aL rj eK ⟨r1.hm,r1.ml⟩ fun p14=>mP (aI 0 (p1.now+2)) (aa (qL [qY ((.imm r1.hm 2 Int r1.ml aG)),qY ((.imm h2 18 Ke r2.o au))]) (K (.sl 1 0 3 (.rest 0)) (Dn4 r4.o (p12.e.length:Int) (p12.e.length:Int) (p1.now+2) (p12.e.length:Int) (p12.e.length:Int) (p12.e.length:Int) r1.hm r1.ml h2 r2.o) 13)))))) (aM fun m1:List Ke=>mP (bg (m1.map au) (r1.tl.map au)) (mP (0+m1.length≤r2.o.length∧0+m1.length≤r2.o.length) (mP ((0+m1.length)=r2.o.length) (mP ((0+m1.length)=(r2.o.take 0++m1++r2.o.drop (0+m1.length)).length) (ae fun h1:Value=>aL dk cb ⟨r1.hm,r1.ml⟩ fun p3=>aL ve fM ⟨r1.hm,r1.ml⟩ fun p4=>aL dk cb ⟨r1.hm,r1.ml⟩ fun p5=>aa (qL [qY ((.imm r1.hm 2 Int r1.ml aG))]) (ay yj gQ fZ ⟨r1.hm,r1.ml,h1,r2.o.take 0++m1++r2.o.drop (0+m1.length)⟩ fun p6 r3=>aL dk cb ⟨r1.hm,r1.ml⟩ fun p7=>aL rj eK ⟨r1.hm,r1.ml⟩ fun p8=>mP (aI 0 (p1.now+2)) (aa (qL [qY ((.imm r1.hm 2 Int r1.ml aG)),qY ((.imm h1 18 Ke (r2.o.take 0++m1++r2.o.drop (0+m1.length)) au))]) (K (.sl 1 0 3 (.rest 0)) (Dn4 r3.o (p6.e.length:Int) (p6.e.length:Int) (p1.now+2) (p6.e.length:Int) (p6.e.length:Int) (p6.e.length:Int) r1.hm r1.ml h1 (r2.o.take 0++m1++r2.o.drop (0+m1.length))) 13))))))))))))))) (by kernel_rfl) ?_
 dsimp only[li]at hpre
 obtain⟨hlen,hct,hpre,hn0,hn1⟩:=hpre
 have hcl:=congrArg List.length hct
 refine aF (by(try dsimp only[AM]);exact⟨hlen,hct,hpre⟩) fun r1 hi1=> ?_
 dsimp only[DQ]at hi1 ⊢
 obtain⟨hi1,hs1⟩:=hi1
 refine aH ?_
 refine ei fun r2 hi2=> ?_
 dsimp only[aP]at hi2
 refine aH (aH (cz (aX ?_)))
 apply iI<;>intro hc3
 have hc3l:(r1.tl).length=0:=(by rw[hc3];rfl)
 refine mI (by first|rfl|omega) (mI (by first|rfl|omega|(simp;omega)) ?_)
 refine ac fun h2=> ?_
 refine di ?_
 refine aV (by(try dsimp only[fM]);assumption) ?_
 refine di ?_
 refine cq ?_
 refine aF (by(try dsimp only[gQ]);exact⟨by assumption,by first|omega|(simp only[apv,apL,apW];omega)⟩) fun r4 hi4=> ?_
 dsimp only[fZ]at hi4 ⊢
 refine di ?_
 refine aV (by(try dsimp only[eK]);assumption) ?_
 refine dc ?_
 refine cq ?_
 exact Kh (r:=⟨r4.o,(r2.o.length:Int),r1.hm,r1.ml,h2,r2.o⟩) hK (by dsimp only[iw]<;>(have hE:r2.o=p.l1:=(by first|exact hi2.1|(rw[hs1.1,hi2.1];simp));exact⟨hi4.1.trans hE,by rw[hE],hi1,hE⟩))
 have hc3l:0<(r1.tl).length:=List.length_pos_iff.2 hc3
 refine aR r1.tl ?_
 refine mI (show bg (r1.tl.map au) (r1.tl.map au) from cF _) (mI (by(try dsimp only);omega) (mI (by(try dsimp only);first|rfl|omega) (mI (by(try dsimp only);first|rfl|omega|(simp;omega)) ?_)))
 refine ac fun h1=> ?_
 refine di ?_
 refine aV (by(try dsimp only[fM]);assumption) ?_
 refine di ?_
 refine cq ?_
 refine aF (by(try dsimp only[gQ]);exact⟨by assumption,by first|omega|(simp only[apv,apL,apW];omega)⟩) fun r3 hi5=> ?_
 dsimp only[fZ]at hi5 ⊢
 refine di ?_
 refine aV (by(try dsimp only[eK]);assumption) ?_
 refine dc ?_
 refine cq ?_
 exact Kh (r:=⟨r3.o,((r2.o.take 0++r1.tl++r2.o.drop (0+r1.tl.length)).length:Int),r1.hm,r1.ml,h1,r2.o.take 0++r1.tl++r2.o.drop (0+r1.tl.length)⟩) hK (by dsimp only[iw]<;>(have hE:(r2.o.take 0++r1.tl++r2.o.drop (0+r1.tl.length))=p.l1:=(by first|exact hi2.1|(rw[hs1.1,hi2.1];simp));exact⟨hi5.1.trans hE,by rw[hE],hi1,hE⟩))
noncomputable def Ji:NN:=ck nat_clonev4i (cB (f:=135) (k:=1) (lp:=uz) (lf:=600) bK (bR nat_clonev4i.2) TN (by rfl) (fun b j x h=>(dh anV (fun h=>(by cases h)) h)) fun p K h=>aaK p K (ai h).1 (ai h).2) [(0,4),(1,20)]
noncomputable def aoQ (l1:List Ke) (com1:Int):T:=(n2 (n2 (n2 (n0 am) (bu 0) .leaf) am (n2 (n0 (ca 0 0 0 0)) (bL 1) .leaf)) (zq 1 4 2 3 1 4 5 6) (n2 (n2 (n0 (aO l1)) am .leaf) (bj 7 4 1 8 l1.length com1 false 9) (n2 (n0 am) (bm true 10 4) .leaf)))
noncomputable def aey (l1:List Ke) (com1 t u:Int) (hq:Value) (tq:List Ke):T:=(n2 (n2 (n2 (n0 (bm true 13 4)) (bu 257) (n0 am)) am (n2 (n0 (aO l1)) am (n0 am))) (jR 1 4 2 3 4 t 5 6 u 7) (n2 (n2 (n0 am) (Eo 11 4 12 hq tq) (n0 (rr 0 1))) (bj 8 4 1 9 l1.length com1 true 10) (n2 (n0 (ca 0 0 0 0)) (bL 1) .leaf)))
noncomputable def Fl (l1:List Ke) (com1 t u:Int) (hq:Value) (tq:List Ke) (k0:Nat):T:=(n2 (n2 (n2 (n0 (bL 1)) (bj 9 4 1 10 k0 com1 true 11) (n0 (ca 0 0 0 0))) (.blk true 118 33 [[.int 1 (.ofNat 0),.int 2 (.ofNat 1),.int 1 (.ofNat 5),.int 1 (.ofNat 0),.int 1 (.ofNat 0),.int 3 (.ofNat 1),.int 3 (.ofNat 0),.int 3 (.ofNat 0),.int 3 (.ofNat 0),.int 4 (.ofNat 257),.int 4 (.ofNat 0),.int 1 (.ofNat 0),.int 2 (.ofNat 0),.int 3 (.ofNat 0),.int 1 (.ofNat 0),.int 1 (.ofNat 0),.int 1 (.ofNat 0),.int 1 (.ofNat 0),.int 1 (.ofNat 0),.int 1 (.ofNat 0),.int 1 (.ofNat 0),.nilS,.int 1 (.ofNat 0),.str [],.int 1 (.ofNat 0),.int 3 (.ofNat 0),.nilS,.int 1 (.ofNat 0),.int 2 (.ofNat 0),.bool false,.nilS,.nilS,.nilS],[.int 1 (.ofNat 2),.int 2 (.ofNat 1),.int 1 (.ofNat 5),.int 1 (.ofNat 0),.int 1 (.ofNat 0),.int 3 (.ofNat 1),.int 3 (.ofNat 0),.int 3 (.ofNat 0),.int 3 (.ofNat 0),.int 4 (.ofNat 257),.int 4 (.ofNat 0),.int 1 (.ofNat 0),.int 2 (.ofNat 0),.int 3 (.ofNat 0),.int 1 (.ofNat 0),.int 1 (.ofNat 0),.int 1 (.ofNat 0),.int 1 (.ofNat 0),.int 1 (.ofNat 0),.int 1 (.ofNat 0),.int 1 (.ofNat 0),.nilS,.int 1 (.ofNat 0),.str [],.int 1 (.ofNat 0),.int 3 (.ofNat 0),.nilS,.int 1 (.ofNat 0),.int 2 (.ofNat 0),.bool false,.nilS,.nilS,.nilS],[.int 1 (.ofNat 3),.int 2 (.ofNat 1),.int 1 (.ofNat 5),.int 1 (.ofNat 0),.int 1 (.ofNat 0),.int 3 (.ofNat 1),.int 3 (.ofNat 0),.int 3 (.ofNat 0),.int 3 (.ofNat 0),.int 4 (.ofNat 257),.int 4 (.ofNat 0),.int 1 (.ofNat 0),.int 2 (.ofNat 0),.int 3 (.ofNat 0),.int 1 (.ofNat 0),.int 1 (.ofNat 0),.int 1 (.ofNat 0),.int 1 (.ofNat 0),.int 1 (.ofNat 0),.int 1 (.ofNat 0),.int 1 (.ofNat 0),.nilS,.int 1 (.ofNat 0),.str [],.int 1 (.ofNat 0),.int 3 (.ofNat 0),.nilS,.int 1 (.ofNat 0),.int 2 (.ofNat 0),.bool false,.nilS,.nilS,.nilS]]) (n2 (n0 am) (Eo 12 4 13 hq tq) (n0 (rr 0 1)))) (jR 2 4 3 4 5 t 6 7 u 8) (n2 (n2 (n0 (bm true 14 4)) (bu 257) (n0 am)) am (n2 (n0 (aO l1)) am (n0 am))))
abbrev HB:=vk
abbrev acG:=Uf
def DM (p:HB) (r:acG):Prop:=r.tq=p.l1
noncomputable def aih (p:HB):IE:=([.ptr 0 0,.sy (.int 0 p.now)],(aoQ p.l1 p.com1),11)
noncomputable def adF (p:HB) (K:KE) (r:acG):Bool:=K (.sl 1 0 3 (.rest 0)) (Fl p.l1 p.com1 p.now (p.now+10) r.hq r.tq p.l1.length) 15
noncomputable def YJ (p:HB) (K:KE):Bool:=ae fun r=>iP (DM p r) (adF p K r) true
def Gx (p:HB):Prop:=0≤p.now∧p.now≤1000000∧2≤p.now∧p.l1.length≤400
theorem GK {p:HB} {K:KE} (hK:YJ p K=true) {r:acG} (h:DM p r:=by dsimp only[DM]<;>(first|(simp_all;done)|(refine(apS ?_).symm;simp_all;omega))):adF p K r=true:=ax h (aq hK r)
theorem akB:Vf Gx YJ 1 Ji aJ VQ aih:=by
 intro p K hpre hK
 refine Eq.trans (b:=(iP ((2:Int)≤p.now) (cu (mP (aI 0 (p.now+10)) (mP (p.l1.length=p.l1.length∧0≤(0:Int)∧(0:Int)≤(p.l1.length:Int)∧(p.l1.length:Int)≤(p.l1.length:Int)) (ay cN bJ aZ ⟨p.l1,(0:Nat),p.l1.length - 0⟩ fun p1 r1=>iP (0<(r1.o.length:Int)) (ay dI co bx ⟨r1.h,r1.o⟩ fun p2 r2=>aa (cu (cu (mP ((.sy (.imm r2.h 18 Ke r2.o au):AV)=(.sy (.imm r2.h 18 Ke r2.o au):AV)) (K (.sl 1 0 3 (.rest 0)) (Fl p1.l p.com1 p.now (p.now+10) r2.h r2.o p.l1.length) 15)))) (cu (mP ((.sy (.imm r2.h 18 Ke r2.o au):AV)=(.sy (.imm r2.h 18 Ke r2.o au):AV)) (K (.sl 1 0 3 (.rest 0)) (Fl p1.l p.com1 p.now (p.now+10) r2.h r2.o p.l1.length) 15)))) (aa (cu (cu (mP ((.nilS:AV)=(.nilS:AV)) (mP (0=([]:List Ke).length) (ae fun h1:Value=>mP ((.sy (.prow 15 0):AV)=(.sy (.prow 15 0):AV)) (K (.sl 1 0 3 (.rest 0)) (Fl p1.l p.com1 p.now (p.now+10) h1 ([]:List Ke) p.l1.length) 15)))))) (cu (mP ((.nilS:AV)=(.nilS:AV)) (mP (0=([]:List Ke).length) (ae fun h5:Value=>mP ((.sy (.prow 15 0):AV)=(.sy (.prow 15 0):AV)) (K (.sl 1 0 3 (.rest 0)) (Fl p1.l p.com1 p.now (p.now+10) h5 ([]:List Ke) p.l1.length) 15)))))))))) (false))) (by kernel_rfl) ?_
 dsimp only[Gx]at hpre
 obtain⟨n0,n1,hx⟩:=hpre
 obtain⟨hx1,hx2⟩:=hx
 refine iY fun hc1=> ?_
 refine bk ?_
 refine be (cz ?_)
 refine cV fun r1 hi2=> ?_
 dsimp only[aZ]at hi2 ⊢
 apply iI<;>intro hc3
 refine eg fun r2 hi4=> ?_
 dsimp only[bx]at hi4
 refine bI ?_ ?_
 refine bk ?_
 refine bk ?_
 refine aH ?_
 exact GK (r:=⟨r2.h,r2.o⟩) hK
 refine bk ?_
 refine aH ?_
 exact GK (r:=⟨r2.h,r2.o⟩) hK
 refine bI ?_ ?_
 refine bk ?_
 refine bk ?_
 refine aH (aH ?_)
 refine ac fun h1=> ?_
 refine aH ?_
 exact GK (r:=⟨h1,([]:List Ke)⟩) hK
 refine bk ?_
 refine aH (aH ?_)
 refine ac fun h5=> ?_
 refine aH ?_
 exact GK (r:=⟨h5,([]:List Ke)⟩) hK
noncomputable def nc_yt4:EE 50 1:=bA (fun us M=>aA (aA (Nat.beq (zC M 0 8) 1) (Nat.beq (zC M 0 1) 1)) (cT M 0 11)) (nE Se akB) eS
noncomputable def YS:NN:=ck Ji nc_yt4.2 [(0,4),(1,20)]
noncomputable def CM (l2:List Ke) (com2:Int):T:=(n2 (n2 (n2 (n0 am) (bu 0) .leaf) am (n2 (n0 (ca 0 0 0 0)) (bL 1) .leaf)) (zq 1 4 2 3 2 4 5 6) (n2 (n2 (n0 (aO l2)) am .leaf) (bj 7 4 2 8 l2.length com2 false 9) (n2 (n0 am) (bm true 10 4) .leaf)))
noncomputable def acz (l2:List Ke) (com2 t2:Int):T:=(n2 (n2 (n2 (n0 am) (bu 257) .leaf) am (n2 (n0 (ca 0 0 0 0)) (bL 1) .leaf)) (gJ 1 4 2 3 t2 2 4 5 6) (n2 (n2 (n0 (aO l2)) am .leaf) (bj 7 4 2 8 l2.length com2 true 9) (n2 (n0 am) (bm true 10 4) .leaf)))
noncomputable def WJ (l2:List Ke) (com2 t2:Int) (h:Value) (e:List Ke) (k0:Nat):T:=(n2 (n2 (n2 (n0 (bm true 11 4)) (bj 8 4 2 9 k0 com2 true 10) (n0 am)) (o_K [] h e) (n2 (n0 (aO l2)) am .leaf)) (gJ 2 4 3 4 t2 2 5 6 7) (n2 (n2 (n0 am) (bu 257) .leaf) am (n2 (n0 (ca 0 0 0 0)) (bL 1) .leaf)))
abbrev vP:=nH
abbrev Pg:=BF
def wI (p:vP) (r:Pg):Prop:=r.e=p.l2
noncomputable def ZQ (p:vP):IE:=([.ptr 0 0,.sy (.int 0 p.now),dL 1,eR 5 1 p.x_n p.x_c 257 [] 0 p.x_vh p.x_vl p.x_mh p.x_ml p.x_h p.x_l p.x_th p.x_tl],(CM p.l2 p.com2),11)
noncomputable def Vw (p:vP) (K:KE) (r:Pg):Bool:=K (.sl 1 0 1 (.ex 1)) (WJ p.l2 p.com2 p.now r.h r.e p.l2.length) 12
noncomputable def QB (p:vP) (K:KE):Bool:=ae fun r=>iP (wI p r) (Vw p K r) true
def yQ (p:vP):Prop:=0≤p.now∧p.now≤1000000∧p.x_vl=[]∧p.x_ml=[]∧p.x_l=[]∧p.x_tl=[]∧p.x_n=0∧p.x_c=0∧p.l2.length≤400
theorem ad1 {p:vP} {K:KE} (hK:QB p K=true) {r:Pg} (h:wI p r):Vw p K r=true:=ax h (aq hK r)
theorem ae7:Vf yQ QB 1 YS aJ bZ ZQ:=by
 intro p K hpre hK
 refine Eq.trans (b:=(aL Hv jM ⟨p.x_n,p.x_c,p.x_vh,p.x_vl,p.x_mh,p.x_ml,p.x_h,p.x_l,p.x_th,p.x_tl⟩ fun p1=>iP (400<(p.x_l.length:Int)) (K .nilS (CM p.l2 p.com2) 11) (iP (400<(p.x_tl.length:Int)) (K .nilS (CM p.l2 p.com2) 11) (mP (p.l2.length=p.l2.length∧0≤(0:Int)∧(0:Int)≤(p.l2.length:Int)∧(p.l2.length:Int)≤(p.l2.length:Int)) (ay cN bJ aZ ⟨p.l2,(0:Nat),p.l2.length - 0⟩ fun p2 r1=>K (.sl 1 0 1 (.ex 1)) (WJ p2.l p.com2 p.now r1.h r1.o p.l2.length) 12))))) (by kernel_rfl) ?_
 dsimp only[yQ]at hpre
 obtain⟨n0,n1,h_vl,h_ml,h_l,h_tl,h_n,h_c,hx⟩:=hpre
 have e_vl:=congrArg List.length h_vl
 have e_ml:=congrArg List.length h_ml
 have e_l:=congrArg List.length h_l
 have e_tl:=congrArg List.length h_tl
 simp only[apy]at e_vl e_ml e_l e_tl
 refine aV (by(try dsimp only[jM]);repeat(first|assumption|omega|apply And.intro)) ?_
 refine iX fun hc1=> ?_
 refine iX fun hc2=> ?_
 refine cz ?_
 refine cV fun r1 hi3=> ?_
 dsimp only[aZ]at hi3 ⊢
 exact ad1 (r:=⟨r1.h,r1.o⟩) hK (by dsimp only[wI]<;>(first|(simp_all;done)))
noncomputable def nc_yp4_2:EE 51 1:=bA (fun us M=>aA (aA (Nat.beq (zC M 0 8) 2) (Nat.beq (zC M 0 1) 1)) (cT M 0 11)) (nE bt ae7) eS
noncomputable def Ru:NN:=bB YS nc_yp4_2.2 [(0,4),(1,20),(2,15),(3,15)] (fun us=>aA (Nat.beq (aC us 2 0) 1) (Nat.beq (aC us 3 0) 5))
noncomputable def CL (l3:List Ke) (com3:Int):T:=(n2 (n2 (n2 (n0 am) (bu 0) .leaf) am (n2 (n0 (ca 0 0 0 0)) (bL 1) .leaf)) (zq 1 4 2 3 3 4 5 6) (n2 (n2 (n0 (aO l3)) am .leaf) (bj 7 4 3 8 l3.length com3 false 9) (n2 (n0 am) (bm true 10 4) .leaf)))
noncomputable def acy (l3:List Ke) (com3 t3:Int):T:=(n2 (n2 (n2 (n0 am) (bu 257) .leaf) am (n2 (n0 (ca 0 0 0 0)) (bL 1) .leaf)) (gJ 1 4 2 3 t3 3 4 5 6) (n2 (n2 (n0 (aO l3)) am .leaf) (bj 7 4 3 8 l3.length com3 true 9) (n2 (n0 am) (bm true 10 4) .leaf)))
noncomputable def WI (l3:List Ke) (com3 t3:Int) (h:Value) (e:List Ke) (k0:Nat):T:=(n2 (n2 (n2 (n0 (bm true 11 4)) (bj 8 4 3 9 k0 com3 true 10) (n0 am)) (o_K [] h e) (n2 (n0 (aO l3)) am .leaf)) (gJ 2 4 3 4 t3 3 5 6 7) (n2 (n2 (n0 am) (bu 257) .leaf) am (n2 (n0 (ca 0 0 0 0)) (bL 1) .leaf)))
structure rT where (l3:List Ke) (com3 x_n x_c:Int) (x_vh:Value) (x_vl:List Int) (x_mh:Value) (x_ml:List Int) (x_h:Value) (x_l:List Ke) (x_th:Value) (x_tl:List Ke) (now:Int)
abbrev Pf:=BF
def wH (p:rT) (r:Pf):Prop:=r.e=p.l3
noncomputable def ZP (p:rT):IE:=([.ptr 0 0,.sy (.int 0 p.now),dL 1,eR 5 1 p.x_n p.x_c 257 [] 0 p.x_vh p.x_vl p.x_mh p.x_ml p.x_h p.x_l p.x_th p.x_tl],(CL p.l3 p.com3),11)
noncomputable def Vv (p:rT) (K:KE) (r:Pf):Bool:=K (.sl 1 0 1 (.ex 1)) (WI p.l3 p.com3 p.now r.h r.e p.l3.length) 12
noncomputable def QA (p:rT) (K:KE):Bool:=ae fun r=>iP (wH p r) (Vv p K r) true
def yP (p:rT):Prop:=0≤p.now∧p.now≤1000000∧p.x_vl=[]∧p.x_ml=[]∧p.x_l=[]∧p.x_tl=[]∧p.x_n=0∧p.x_c=0∧p.l3.length≤400
theorem ad0 {p:rT} {K:KE} (hK:QA p K=true) {r:Pf} (h:wH p r):Vv p K r=true:=ax h (aq hK r)
theorem ae6:Vf yP QA 1 Ru aJ bZ ZP:=by
 intro p K hpre hK
 refine Eq.trans (b:=(aL Hv jM ⟨p.x_n,p.x_c,p.x_vh,p.x_vl,p.x_mh,p.x_ml,p.x_h,p.x_l,p.x_th,p.x_tl⟩ fun p1=>iP (400<(p.x_l.length:Int)) (K .nilS (CL p.l3 p.com3) 11) (iP (400<(p.x_tl.length:Int)) (K .nilS (CL p.l3 p.com3) 11) (mP (p.l3.length=p.l3.length∧0≤(0:Int)∧(0:Int)≤(p.l3.length:Int)∧(p.l3.length:Int)≤(p.l3.length:Int)) (ay cN bJ aZ ⟨p.l3,(0:Nat),p.l3.length - 0⟩ fun p2 r1=>K (.sl 1 0 1 (.ex 1)) (WI p2.l p.com3 p.now r1.h r1.o p.l3.length) 12))))) (by kernel_rfl) ?_
 dsimp only[yP]at hpre
 obtain⟨n0,n1,h_vl,h_ml,h_l,h_tl,h_n,h_c,hx⟩:=hpre
 have e_vl:=congrArg List.length h_vl
 have e_ml:=congrArg List.length h_ml
 have e_l:=congrArg List.length h_l
 have e_tl:=congrArg List.length h_tl
 simp only[apy]at e_vl e_ml e_l e_tl
 refine aV (by(try dsimp only[jM]);repeat(first|assumption|omega|apply And.intro)) ?_
 refine iX fun hc1=> ?_
 refine iX fun hc2=> ?_
 refine cz ?_
 refine cV fun r1 hi3=> ?_
 dsimp only[aZ]at hi3 ⊢
 exact ad0 (r:=⟨r1.h,r1.o⟩) hK (by dsimp only[wH]<;>(first|(simp_all;done)))
noncomputable def nc_yp4_3:EE 51 1:=bA (fun us M=>aA (aA (Nat.beq (zC M 0 8) 3) (Nat.beq (zC M 0 1) 1)) (cT M 0 11)) (nE bt ae6) nc_yp4_2
noncomputable def Rt:NN:=bB Ru nc_yp4_3.2 [(0,4),(1,20),(2,15),(3,15)] (fun us=>aA (Nat.beq (aC us 2 0) 1) (Nat.beq (aC us 3 0) 5))
noncomputable def aoP (l2:List Ke) (com2 t2:Int) (hm2:Value) (m2:List Int) (ht2:Value) (a2:List Ke):T:=(n2 (n2 (n2 (n0 am) (hQ hm2 m2 ht2 a2) .leaf) am (n2 (n0 (ca 0 0 0 0)) (bL 1) .leaf)) (gJ 1 4 2 3 t2 2 4 5 6) (n2 (n2 (n0 (aO l2)) am .leaf) (bj 7 4 2 8 l2.length com2 true 9) (n2 (n0 am) (bm true 10 4) .leaf)))
noncomputable def WM (l2:List Ke) (com2 t2:Int) (hm2:Value) (m2:List Int) (ht2:Value) (a2:List Ke):T:=(n2 (n2 (n2 (n0 (bm true 11 4)) (bj 8 4 2 9 l2.length com2 true 10) (n0 am)) (o_M []) (n2 (n0 (aO l2)) am .leaf)) (gJ 2 4 3 4 t2 2 5 6 7) (n2 (n2 (n0 am) (hQ hm2 m2 ht2 a2) .leaf) am (n2 (n0 (ca 0 0 0 0)) (bL 1) .leaf)))
abbrev PN:=HC
abbrev Pi:=Hk
noncomputable def ZT (p:PN):IE:=([.ptr 0 0,.sy (.int 0 p.now),dL 1,eR 9 1 p.x_n p.x_c 257 [] 0 p.x_vh p.x_vl p.x_mh p.x_ml p.x_h p.x_l p.x_th p.x_tl],(acz p.l2 p.com2 p.t2),11)
noncomputable def adg (p:PN) (K:KE):Bool:=ae fun r:Pi=>K (.sl 1 0 1 (.ex 1)) (WM p.l2 p.com2 p.t2 r.hm2 r.m2 r.ht2 r.a2) 12
def yT (p:PN):Prop:=0≤p.now∧p.now≤1000000∧p.x_vl=[]∧p.x_l=[]∧p.x_n=0∧p.x_c=0∧p.x_ml=[(1:Int),(2:Int),(3:Int)]∧bF p.x_tl∧p.x_tl.length≤400
theorem afa:Vf yT adg 1 Rt aJ bZ ZT:=by
 intro p K hpre hK
 refine Eq.trans (b:=(aL FZ lh ⟨p.x_n,p.x_c,p.x_vh,p.x_vl,p.x_mh,p.x_ml,p.x_h,p.x_l,p.x_th,p.x_tl⟩ fun p1=>iP (400<(p.x_l.length:Int)) (K .nilS (acz p.l2 p.com2 p.t2) 11) (iP (400<(p.x_tl.length:Int)) (K .nilS (acz p.l2 p.com2 p.t2) 11) (ay cH bH aY ⟨p.x_mh,p.x_ml,p.x_th,p.x_tl⟩ fun p2 r1=>K (.sl 1 0 1 (.ex 1)) (WM p.l2 p.com2 p.t2 r1.hm r1.ml r1.ht r1.tl) 12)))) (by kernel_rfl) ?_
 dsimp only[yT]at hpre
 obtain⟨n0,n1,h_vl,h_l,h_n,h_c,hx⟩:=hpre
 have e_vl:=congrArg List.length h_vl
 have e_l:=congrArg List.length h_l
 simp only[apy]at e_vl e_l
 obtain⟨hml,hks,hx3⟩:=hx
 have e_ml:=congrArg List.length hml
 simp only[apw,apy]at e_ml
 refine aV (by(try dsimp only[lh]);repeat(first|assumption|omega|apply And.intro)) ?_
 refine iX fun hc1=> ?_
 refine iX fun hc2=> ?_
 refine cK fun r1 hi3=> ?_
 dsimp only[aY]at hi3
 obtain⟨hi3,hs3⟩:=hi3
 exact aq hK (⟨r1.hm,r1.ml,r1.ht,r1.tl⟩:Pi)
noncomputable def nc_yo4_2:EE 51 1:=bA (fun us M=>aA (aA (Nat.beq (zC M 0 8) 2) (Nat.beq (zC M 0 1) 1)) (cT M 0 11)) (nE bt afa) eS
noncomputable def Rx:NN:=bB Rt nc_yo4_2.2 [(0,4),(1,20),(2,15),(3,15)] (fun us=>aA (Nat.beq (aC us 2 0) 1) (Nat.beq (aC us 3 0) 9))
noncomputable def aoO (l3:List Ke) (com3 t3:Int) (hm3:Value) (m3:List Int) (ht3:Value) (a3:List Ke):T:=(n2 (n2 (n2 (n0 am) (hQ hm3 m3 ht3 a3) .leaf) am (n2 (n0 (ca 0 0 0 0)) (bL 1) .leaf)) (gJ 1 4 2 3 t3 3 4 5 6) (n2 (n2 (n0 (aO l3)) am .leaf) (bj 7 4 3 8 l3.length com3 true 9) (n2 (n0 am) (bm true 10 4) .leaf)))
noncomputable def WL (l3:List Ke) (com3 t3:Int) (hm3:Value) (m3:List Int) (ht3:Value) (a3:List Ke):T:=(n2 (n2 (n2 (n0 (bm true 11 4)) (bj 8 4 3 9 l3.length com3 true 10) (n0 am)) (o_M []) (n2 (n0 (aO l3)) am .leaf)) (gJ 2 4 3 4 t3 3 5 6 7) (n2 (n2 (n0 am) (hQ hm3 m3 ht3 a3) .leaf) am (n2 (n0 (ca 0 0 0 0)) (bL 1) .leaf)))
structure PM where (l3:List Ke) (com3 t3 x_n x_c:Int) (x_vh:Value) (x_vl:List Int) (x_mh:Value) (x_ml:List Int) (x_h:Value) (x_l:List Ke) (x_th:Value) (x_tl:List Ke) (now:Int)
structure Ph where (hm3:Value) (m3:List Int) (ht3:Value) (a3:List Ke)
noncomputable def ZS (p:PM):IE:=([.ptr 0 0,.sy (.int 0 p.now),dL 1,eR 9 1 p.x_n p.x_c 257 [] 0 p.x_vh p.x_vl p.x_mh p.x_ml p.x_h p.x_l p.x_th p.x_tl],(acy p.l3 p.com3 p.t3),11)
noncomputable def adf (p:PM) (K:KE):Bool:=ae fun r:Ph=>K (.sl 1 0 1 (.ex 1)) (WL p.l3 p.com3 p.t3 r.hm3 r.m3 r.ht3 r.a3) 12
def yS (p:PM):Prop:=0≤p.now∧p.now≤1000000∧p.x_vl=[]∧p.x_l=[]∧p.x_n=0∧p.x_c=0∧p.x_ml=[(1:Int),(2:Int),(3:Int)]∧bF p.x_tl∧p.x_tl.length≤400
theorem ae9:Vf yS adf 1 Rx aJ bZ ZS:=by
 intro p K hpre hK
 refine Eq.trans (b:=(aL FZ lh ⟨p.x_n,p.x_c,p.x_vh,p.x_vl,p.x_mh,p.x_ml,p.x_h,p.x_l,p.x_th,p.x_tl⟩ fun p1=>iP (400<(p.x_l.length:Int)) (K .nilS (acy p.l3 p.com3 p.t3) 11) (iP (400<(p.x_tl.length:Int)) (K .nilS (acy p.l3 p.com3 p.t3) 11) (ay cH bH aY ⟨p.x_mh,p.x_ml,p.x_th,p.x_tl⟩ fun p2 r1=>K (.sl 1 0 1 (.ex 1)) (WL p.l3 p.com3 p.t3 r1.hm r1.ml r1.ht r1.tl) 12)))) (by kernel_rfl) ?_
 dsimp only[yS]at hpre
 obtain⟨n0,n1,h_vl,h_l,h_n,h_c,hx⟩:=hpre
 have e_vl:=congrArg List.length h_vl
 have e_l:=congrArg List.length h_l
 simp only[apy]at e_vl e_l
 obtain⟨hml,hks,hx3⟩:=hx
 have e_ml:=congrArg List.length hml
 simp only[apw,apy]at e_ml
 refine aV (by(try dsimp only[lh]);repeat(first|assumption|omega|apply And.intro)) ?_
 refine iX fun hc1=> ?_
 refine iX fun hc2=> ?_
 refine cK fun r1 hi3=> ?_
 dsimp only[aY]at hi3
 obtain⟨hi3,hs3⟩:=hi3
 exact aq hK (⟨r1.hm,r1.ml,r1.ht,r1.tl⟩:Ph)
noncomputable def nc_yo4_3:EE 51 1:=bA (fun us M=>aA (aA (Nat.beq (zC M 0 8) 3) (Nat.beq (zC M 0 1) 1)) (cT M 0 11)) (nE bt ae9) nc_yo4_2
noncomputable def Rw:NN:=bB Rx nc_yo4_3.2 [(0,4),(1,20),(2,15),(3,15)] (fun us=>aA (Nat.beq (aC us 2 0) 1) (Nat.beq (aC us 3 0) 9))
noncomputable def BD (l1:List Ke) (com1 t u:Int) (hq:Value) (tq:List Ke):T:=(n2 (n2 (n2 (n0 (bm true 13 4)) (bu 257) (n0 am)) am (n2 (n0 (aO l1)) am (n0 am))) (jR 1 4 2 3 4 t 5 6 u 7) (n2 (n2 (n0 am) (Eo 11 4 12 hq tq) (n0 (YO 0 1 2))) (bj 8 4 1 9 l1.length com1 true 10) (n2 (n0 (ca 0 0 0 0)) (bL 1) .leaf)))
abbrev PK:=pL
noncomputable def ZN (p:PK):IE:=([.ptr 0 0,.sy (.int 0 p.now),dL 2,eR 8 1 p.x_n p.x_c 257 [] 0 p.x_vh p.x_vl p.x_mh p.x_ml p.x_h p.x_l p.x_th p.x_tl],(aey p.l1 p.com1 p.t p.u p.hq p.tq),14)
noncomputable def ade (p:PK) (K:KE):Bool:=K .nilS (BD p.l1 p.com1 p.t p.u p.hq p.tq) 14
def yN (p:PK):Prop:=0≤p.now∧p.now≤1000000∧p.x_vl=[]∧p.x_ml=[]∧p.x_tl=[]∧p.x_n=0∧p.x_c=0∧p.x_l.length=p.tq.length∧bF p.x_l∧p.x_l.length≤400
theorem ae4:Vf yN ade 1 Rw aJ bZ ZN:=by
 intro p K hpre hK
 refine Eq.trans (b:=(let z0:Bool:=(K .nilS (aey p.l1 p.com1 p.t p.u p.hq p.tq) 14);let z1:Bool:=(K .nilS (BD p.l1 p.com1 p.t p.u p.hq p.tq) 14);aL Ht jK ⟨p.x_n,p.x_c,p.x_vh,p.x_vl,p.x_mh,p.x_ml,p.x_h,p.x_l,p.x_th,p.x_tl⟩ fun p1=>iP (400<(p.x_l.length:Int)) z0 (iP (400<(p.x_tl.length:Int)) z0 (iP ((p.tq.length:Int)<(p.x_l.length:Int)) (ay dI co bx ⟨p.x_h,p.x_l⟩ fun p2 r1=>aa (cu (cu (K .nilS (BD p.l1 p.com1 p.t p.u r1.h r1.o) 14))) (cu (K .nilS (BD p.l1 p.com1 p.t p.u r1.h r1.o) 14))) (aa (cu (cu z1)) (cu z1)))))) (by kernel_rfl) ?_
 dsimp only[yN]at hpre
 obtain⟨n0,n1,h_vl,h_ml,h_tl,h_n,h_c,hx⟩:=hpre
 have e_vl:=congrArg List.length h_vl
 have e_ml:=congrArg List.length h_ml
 have e_tl:=congrArg List.length h_tl
 simp only[apy]at e_vl e_ml e_tl
 obtain⟨hle,hks,hx3⟩:=hx
 refine aV (by(try dsimp only[jK]);repeat(first|assumption|omega|apply And.intro)) ?_
 refine iX fun hc1=> ?_
 refine iX fun hc2=> ?_
 apply iI<;>intro hc3
 refine eg fun r1 hi4=> ?_
 dsimp only[bx]at hi4
 refine bI ?_ ?_
 refine bk ?_
 refine bk ?_
 exfalso;omega
 refine bk ?_
 exfalso;omega
 refine bI ?_ ?_
 refine bk ?_
 refine bk ?_
 exact hK
 refine bk ?_
 exact hK
noncomputable def nc_yr4_2:EE 51 1:=bA (fun us M=>aA (aA (Nat.beq (zC M 0 8) 1) (Nat.beq (zC M 0 1) 1)) (cT M 0 11)) (nE bt ae4) eS
noncomputable def Rr:NN:=bB Rw nc_yr4_2.2 [(0,4),(1,20),(2,15),(3,15)] (fun us=>aA (Nat.beq (aC us 2 0) 2) (Nat.beq (aC us 3 0) 8))
noncomputable def aex (l1:List Ke) (com1 t u:Int) (hq:Value) (tq:List Ke) (hcm:Value) (cm:List Int) (hct:Value) (ct:List Ke) (ham:Value) (aw:List Int) (hat:Value) (av:List Ke):T:=(n2 (n2 (n2 (n0 (bm true 13 4)) (hQ ham aw hat av) (n0 am)) am (n2 (n0 (aO l1)) am (n0 am))) (jR 1 4 2 3 4 t 5 6 u 7) (n2 (n2 (n0 am) (xw 11 4 1 12 hq tq hcm cm hct ct) (n0 (rr 3 4))) (bj 8 4 1 9 l1.length com1 true 10) (n2 (n0 (ca 0 0 0 0)) (bL 1) .leaf)))
noncomputable def LO (l1:List Ke) (com1 t u:Int) (hq:Value) (tq:List Ke) (hcm:Value) (cm:List Int) (hct:Value) (ct:List Ke) (ham:Value) (aw:List Int) (hat:Value) (av:List Ke) (hm:Value) (mm:List Int) (ht:Value) (tt:List Ke):T:=(n2 (n2 (n2 (n0 (bL 1)) (bj 9 4 1 10 l1.length com1 true 11) (n0 (ca 0 0 0 0))) (.blk true 118 33 [[.int 1 (.ofNat 0),.int 2 (.ofNat 1),.int 1 (.ofNat 9),.int 1 (.ofNat 0),.int 1 (.ofNat 0),.int 3 (.ofNat 1),.int 3 (.ofNat 0),.int 3 (.ofNat 0),.int 3 (.ofNat 0),.int 4 (.ofNat 257),.int 4 (.ofNat 0),.int 1 (.ofNat 0),.int 2 (.ofNat 0),.int 3 (.ofNat 0),.int 1 (.ofNat 0),.int 1 (.ofNat 0),.int 1 (.ofNat 0),.int 1 (.ofNat 0),.int 1 (.ofNat 0),.int 1 (.ofNat 0),.int 1 (.ofNat 0),.nilS,.int 1 (.ofNat 0),.str [],.int 1 (.ofNat 0),.int 3 (.ofNat 0),.nilS,.int 1 (.ofNat 0),.int 2 (.ofNat 0),.bool false,.sy (.imm hm 2 Int mm aG),.nilS,.sy (.imm ht 18 Ke tt au)],[.int 1 (.ofNat 2),.int 2 (.ofNat 1),.int 1 (.ofNat 9),.int 1 (.ofNat 0),.int 1 (.ofNat 0),.int 3 (.ofNat 1),.int 3 (.ofNat 0),.int 3 (.ofNat 0),.int 3 (.ofNat 0),.int 4 (.ofNat 257),.int 4 (.ofNat 0),.int 1 (.ofNat 0),.int 2 (.ofNat 0),.int 3 (.ofNat 0),.int 1 (.ofNat 0),.int 1 (.ofNat 0),.int 1 (.ofNat 0),.int 1 (.ofNat 0),.int 1 (.ofNat 0),.int 1 (.ofNat 0),.int 1 (.ofNat 0),.nilS,.int 1 (.ofNat 0),.str [],.int 1 (.ofNat 0),.int 3 (.ofNat 0),.nilS,.int 1 (.ofNat 0),.int 2 (.ofNat 0),.bool false,.sy (.imm hm 2 Int mm aG),.nilS,.sy (.imm ht 18 Ke tt au)],[.int 1 (.ofNat 3),.int 2 (.ofNat 1),.int 1 (.ofNat 9),.int 1 (.ofNat 0),.int 1 (.ofNat 0),.int 3 (.ofNat 1),.int 3 (.ofNat 0),.int 3 (.ofNat 0),.int 3 (.ofNat 0),.int 4 (.ofNat 257),.int 4 (.ofNat 0),.int 1 (.ofNat 0),.int 2 (.ofNat 0),.int 3 (.ofNat 0),.int 1 (.ofNat 0),.int 1 (.ofNat 0),.int 1 (.ofNat 0),.int 1 (.ofNat 0),.int 1 (.ofNat 0),.int 1 (.ofNat 0),.int 1 (.ofNat 0),.nilS,.int 1 (.ofNat 0),.str [],.int 1 (.ofNat 0),.int 3 (.ofNat 0),.nilS,.int 1 (.ofNat 0),.int 2 (.ofNat 0),.bool false,.sy (.imm hm 2 Int mm aG),.nilS,.sy (.imm ht 18 Ke tt au)]]) (n2 (n0 am) (xw 12 4 1 13 hq tq hcm cm hct ct) (n0 (rr 3 4)))) (jR 2 4 3 4 5 t 6 7 u 8) (n2 (n2 (n0 (bm true 14 4)) (hQ ham aw hat av) (n0 am)) am (n2 (n0 (aO l1)) am (n0 am))))
abbrev vO:=pL
abbrev Pe:=Hj
def wF (p:vO) (r:Pe):Prop:=r.cm=[(1:Int),(2:Int),(3:Int)]∧r.ct=p.tq∧r.mm=[(1:Int),(2:Int),(3:Int)]∧r.tt=p.tq
noncomputable def ZM (p:vO):IE:=([.ptr 0 0,.sy (.int 0 p.now),dL 3,eR 8 1 p.x_n p.x_c 257 [] 0 p.x_vh p.x_vl p.x_mh p.x_ml p.x_h p.x_l p.x_th p.x_tl],(BD p.l1 p.com1 p.t p.u p.hq p.tq),14)
noncomputable def Cr (p:vO) (K:KE) (r:Pe):Bool:=K (.sl 1 0 3 (.rest 0)) (LO p.l1 p.com1 p.t p.u p.hq p.tq r.hcm r.cm r.hct r.ct r.ham r.aw r.hat r.av r.hm r.mm r.ht r.tt) 15
noncomputable def Qy (p:vO) (K:KE):Bool:=ae fun r=>iP (wF p r) (Cr p K r) true
def yM (p:vO):Prop:=0≤p.now∧p.now≤1000000∧p.x_vl=[]∧p.x_ml=[]∧p.x_tl=[]∧p.x_n=0∧p.x_c=0∧p.x_l.length=p.tq.length∧bF p.x_l∧p.x_l.length≤400
theorem So {p:vO} {K:KE} (hK:Qy p K=true) {r:Pe} (h:wF p r:=by dsimp only[wF]<;>exact⟨by assumption,by simp_all,by assumption,by simp_all⟩):Cr p K r=true:=ax h (aq hK r)
theorem ae3:Vf yM Qy 1 Rr aJ bZ ZM:=by
 intro p K hpre hK
 refine Eq.trans (b:=(let z0:Bool:=(K .nilS (BD p.l1 p.com1 p.t p.u p.hq p.tq) 14);aL Ht jK ⟨p.x_n,p.x_c,p.x_vh,p.x_vl,p.x_mh,p.x_ml,p.x_h,p.x_l,p.x_th,p.x_tl⟩ fun p1=>iP (400<(p.x_l.length:Int)) z0 (iP (400<(p.x_tl.length:Int)) z0 (iP ((p.tq.length:Int)<(p.x_l.length:Int)) (ay dI co bx ⟨p.x_h,p.x_l⟩ fun p2 r1=>aa (cu (cu (ay rk eL eN ⟨r1.h,r1.o⟩ fun p3 r2=>ay cH bH aY ⟨r2.hm,r2.ml,r2.ht,r2.tl⟩ fun p4 r3=>aa (qL [qY ((.imm r3.hm 2 Int r3.ml aG)),qY ((.imm r3.ht 18 Ke r3.tl au))]) (ay cH bH aY ⟨r3.hm,r3.ml,r3.ht,r3.tl⟩ fun p5 r4=>ay cH bH aY ⟨r2.hm,r2.ml,r2.ht,r2.tl⟩ fun p6 r5=>mE (.imm r5.ht 18 Ke r5.tl au) (aa (qL [qY ((.imm r5.hm 2 Int r5.ml aG)),qY ((.imm r5.ht 18 Ke r5.tl au))]) (K (.sl 1 0 3 (.rest 0)) (LO p.l1 p.com1 p.t p.u r1.h r1.o r2.hm r2.ml r2.ht r2.tl r4.hm r4.ml r4.ht r4.tl r5.hm r5.ml r5.ht r5.tl) 15)))))) (cu (ay rk eL eN ⟨r1.h,r1.o⟩ fun p19 r18=>ay cH bH aY ⟨r18.hm,r18.ml,r18.ht,r18.tl⟩ fun p20 r19=>aa (qL [qY ((.imm r19.hm 2 Int r19.ml aG)),qY ((.imm r19.ht 18 Ke r19.tl au))]) (ay cH bH aY ⟨r19.hm,r19.ml,r19.ht,r19.tl⟩ fun p21 r20=>ay cH bH aY ⟨r18.hm,r18.ml,r18.ht,r18.tl⟩ fun p22 r21=>mE (.imm r21.ht 18 Ke r21.tl au) (aa (qL [qY ((.imm r21.hm 2 Int r21.ml aG)),qY ((.imm r21.ht 18 Ke r21.tl au))]) (K (.sl 1 0 3 (.rest 0)) (LO p.l1 p.com1 p.t p.u r1.h r1.o r18.hm r18.ml r18.ht r18.tl r20.hm r20.ml r20.ht r20.tl r21.hm r21.ml r21.ht r21.tl) 15)))))) (aa (cu (cu (ay rk eL eN ⟨p.hq,p.tq⟩ fun p27 r26=>ay cH bH aY ⟨r26.hm,r26.ml,r26.ht,r26.tl⟩ fun p28 r27=>aa (qL [qY ((.imm r27.hm 2 Int r27.ml aG)),qY ((.imm r27.ht 18 Ke r27.tl au))]) (ay cH bH aY ⟨r27.hm,r27.ml,r27.ht,r27.tl⟩ fun p29 r28=>ay cH bH aY ⟨r26.hm,r26.ml,r26.ht,r26.tl⟩ fun p30 r29=>mE (.imm r29.ht 18 Ke r29.tl au) (aa (qL [qY ((.imm r29.hm 2 Int r29.ml aG)),qY ((.imm r29.ht 18 Ke r29.tl au))]) (Cr p K ⟨r26.hm,r26.ml,r26.ht,r26.tl,r28.hm,r28.ml,r28.ht,r28.tl,r29.hm,r29.ml,r29.ht,r29.tl⟩)))))) (cu (ay rk eL eN ⟨p.hq,p.tq⟩ fun p43 r42=>ay cH bH aY ⟨r42.hm,r42.ml,r42.ht,r42.tl⟩ fun p44 r43=>aa (qL [qY ((.imm r43.hm 2 Int r43.ml aG)),qY ((.imm r43.ht 18 Ke r43.tl au))]) (ay cH bH aY ⟨r43.hm,r43.ml,r43.ht,r43.tl⟩ fun p45 r44=>ay cH bH aY ⟨r42.hm,r42.ml,r42.ht,r42.tl⟩ fun p46 r45=>mE (.imm r45.ht 18 Ke r45.tl au) (aa (qL [qY ((.imm r45.hm 2 Int r45.ml aG)),qY ((.imm r45.ht 18 Ke r45.tl au))]) (Cr p K ⟨r42.hm,r42.ml,r42.ht,r42.tl,r44.hm,r44.ml,r44.ht,r44.tl,r45.hm,r45.ml,r45.ht,r45.tl⟩)))))))))) (by kernel_rfl) ?_
 dsimp only[yM]at hpre
 obtain⟨n0,n1,h_vl,h_ml,h_tl,h_n,h_c,hx⟩:=hpre
 have e_vl:=congrArg List.length h_vl
 have e_ml:=congrArg List.length h_ml
 have e_tl:=congrArg List.length h_tl
 simp only[apy]at e_vl e_ml e_tl
 obtain⟨hle,hks,hx3⟩:=hx
 refine aV (by(try dsimp only[jK]);repeat(first|assumption|omega|apply And.intro)) ?_
 refine iX fun hc1=> ?_
 refine iX fun hc2=> ?_
 apply iI<;>intro hc3
 refine eg fun r1 hi4=> ?_
 dsimp only[bx]at hi4
 refine bI ?_ ?_
 refine bk ?_
 refine bk ?_
 refine aF (by(try dsimp only[eL]);omega) fun r2 hi5=> ?_
 dsimp only[eN]at hi5
 obtain⟨hi5,hs5⟩:=hi5
 refine cK fun r3 hi6=> ?_
 dsimp only[aY]at hi6
 obtain⟨hi6,hs6⟩:=hi6
 refine cq ?_
 refine cK fun r4 hi7=> ?_
 dsimp only[aY]at hi7
 obtain⟨hi7,hs7⟩:=hi7
 refine cK fun r5 hi8=> ?_
 dsimp only[aY]at hi8
 obtain⟨hi8,hs8⟩:=hi8
 refine aH ?_
 refine cq ?_
 exfalso;omega
 refine bk ?_
 refine aF (by(try dsimp only[eL]);omega) fun r18 hi9=> ?_
 dsimp only[eN]at hi9
 obtain⟨hi9,hs9⟩:=hi9
 refine cK fun r19 hi10=> ?_
 dsimp only[aY]at hi10
 obtain⟨hi10,hs10⟩:=hi10
 refine cq ?_
 refine cK fun r20 hi11=> ?_
 dsimp only[aY]at hi11
 obtain⟨hi11,hs11⟩:=hi11
 refine cK fun r21 hi12=> ?_
 dsimp only[aY]at hi12
 obtain⟨hi12,hs12⟩:=hi12
 refine aH ?_
 refine cq ?_
 exfalso;omega
 refine bI ?_ ?_
 refine bk ?_
 refine bk ?_
 refine aF (by(try dsimp only[eL]);omega) fun r26 hi13=> ?_
 dsimp only[eN]at hi13
 obtain⟨hi13,hs13⟩:=hi13
 refine cK fun r27 hi14=> ?_
 dsimp only[aY]at hi14
 obtain⟨hi14,hs14⟩:=hi14
 refine cq ?_
 refine cK fun r28 hi15=> ?_
 dsimp only[aY]at hi15
 obtain⟨hi15,hs15⟩:=hi15
 refine cK fun r29 hi16=> ?_
 dsimp only[aY]at hi16
 obtain⟨hi16,hs16⟩:=hi16
 refine aH ?_
 refine cq ?_
 exact So hK
 refine bk ?_
 refine aF (by(try dsimp only[eL]);omega) fun r42 hi17=> ?_
 dsimp only[eN]at hi17
 obtain⟨hi17,hs17⟩:=hi17
 refine cK fun r43 hi18=> ?_
 dsimp only[aY]at hi18
 obtain⟨hi18,hs18⟩:=hi18
 refine cq ?_
 refine cK fun r44 hi19=> ?_
 dsimp only[aY]at hi19
 obtain⟨hi19,hs19⟩:=hi19
 refine cK fun r45 hi20=> ?_
 dsimp only[aY]at hi20
 obtain⟨hi20,hs20⟩:=hi20
 refine aH ?_
 refine cq ?_
 exact So hK
noncomputable def nc_yr4_3:EE 51 1:=bA (fun us M=>aA (aA (Nat.beq (zC M 0 8) 1) (Nat.beq (zC M 0 1) 1)) (cT M 0 11)) (nE bt ae3) eS
noncomputable def Rq:NN:=bB Rr nc_yr4_3.2 [(0,4),(1,20),(2,15),(3,15)] (fun us=>aA (Nat.beq (aC us 2 0) 3) (Nat.beq (aC us 3 0) 8))
noncomputable def Nw (l1:List Ke) (com1 t u:Int) (hq:Value) (tq:List Ke) (hcm:Value) (cm:List Int) (hct:Value) (ct:List Ke) (ham:Value) (aw:List Int) (hat:Value) (av:List Ke):T:=(n2 (n2 (n2 (n0 (bm true 13 4)) (hQ ham aw hat av) (n0 am)) am (n2 (n0 (aO l1)) am (n0 am))) (jR 1 4 2 3 4 t 5 6 u 7) (n2 (n2 (n0 am) (xw 11 4 1 12 hq tq hcm cm hct ct) (n0 (YO 3 4 5))) (bj 8 4 1 9 l1.length com1 true 10) (n2 (n0 (ca 0 0 0 0)) (bL 1) .leaf)))
abbrev PO:=pM
noncomputable def ZZ (p:PO):IE:=([.ptr 0 0,.sy (.int 0 p.now),dL 2,eR 6 1 p.x_n p.x_c 257 [] 0 p.x_vh p.x_vl p.x_mh p.x_ml p.x_h p.x_l p.x_th p.x_tl],(aex p.l1 p.com1 p.t p.u p.hq p.tq p.hcm p.cm p.hct p.ct p.ham p.aw p.hat p.av),14)
noncomputable def adi (p:PO) (K:KE):Bool:=K .nilS (Nw p.l1 p.com1 p.t p.u p.hq p.tq p.hcm p.cm p.hct p.ct p.ham p.aw p.hat p.av) 14
def yZ (p:PO):Prop:=0≤p.now∧p.now≤1000000∧p.x_vl=[]∧p.x_ml=[]∧p.x_l=[]∧p.x_tl=[]∧p.x_n=0∧p.x_c=0
theorem afg:Vf yZ adi 1 Rq aJ bZ ZZ:=by
 intro p K hpre hK
 refine Eq.trans (b:=(let z0:Bool:=(K .nilS (aex p.l1 p.com1 p.t p.u p.hq p.tq p.hcm p.cm p.hct p.ct p.ham p.aw p.hat p.av) 14);let z1:Bool:=(K .nilS (Nw p.l1 p.com1 p.t p.u p.hq p.tq p.hcm p.cm p.hct p.ct p.ham p.aw p.hat p.av) 14);aL Hu jL ⟨p.x_n,p.x_c,p.x_vh,p.x_vl,p.x_mh,p.x_ml,p.x_h,p.x_l,p.x_th,p.x_tl⟩ fun p1=>iP (400<(p.x_l.length:Int)) z0 (iP (400<(p.x_tl.length:Int)) z0 (aa (cu (cu z1)) (cu z1))))) (by kernel_rfl) ?_
 dsimp only[yZ]at hpre
 obtain⟨n0,n1,h_vl,h_ml,h_l,h_tl,h_n,h_c⟩:=hpre
 have e_vl:=congrArg List.length h_vl
 have e_ml:=congrArg List.length h_ml
 have e_l:=congrArg List.length h_l
 have e_tl:=congrArg List.length h_tl
 simp only[apy]at e_vl e_ml e_l e_tl
 refine aV (by(try dsimp only[jL]);repeat(first|assumption|omega|apply And.intro)) ?_
 refine iX fun hc1=> ?_
 refine iX fun hc2=> ?_
 refine bI ?_ ?_
 refine bk ?_
 refine bk ?_
 exact hK
 refine bk ?_
 exact hK
noncomputable def nc_ya4_2:EE 51 1:=bA (fun us M=>aA (aA (Nat.beq (zC M 0 8) 1) (Nat.beq (zC M 0 1) 1)) (cT M 0 11)) (nE bt afg) eS
noncomputable def RD:NN:=bB Rq nc_ya4_2.2 [(0,4),(1,20),(2,15),(3,15)] (fun us=>aA (Nat.beq (aC us 2 0) 2) (Nat.beq (aC us 3 0) 6))
noncomputable def Nx (l1:List Ke) (com1 b1 u c0 c1 c2:Int):T:=(n2 (n2 (n2 (n0 (aE 1 2 3)) (bu 0) (n0 (aE 1 2 3))) (aE 1 2 3) (n2 (n0 (cP 1 c0 2 c1 3 c2)) (bL 0) .leaf)) (nU 1 3 2 3 1 4 4 5 u 6) (n2 (n2 (n0 (aO l1)) am .leaf) (ig 7 3 1 8 l1.length b1 com1 9) (n2 (n0 am) (nX 10 4 11 3) .leaf)))
abbrev vS:=pM
abbrev Pl:=Hm
def wO (p:vS) (r:Pl):Prop:=r.l1=p.l1∧r.z=(p.l1.length:Int)∧r.mm=[(1:Int),(2:Int),(3:Int)]∧r.e=p.l1
noncomputable def ZY (p:vS):IE:=([.ptr 0 0,.sy (.int 0 p.now),dL 3,eR 6 1 p.x_n p.x_c 257 [] 0 p.x_vh p.x_vl p.x_mh p.x_ml p.x_h p.x_l p.x_th p.x_tl],(Nw p.l1 p.com1 p.t p.u p.hq p.tq p.hcm p.cm p.hct p.ct p.ham p.aw p.hat p.av),14)
noncomputable def VB (p:vS) (K:KE) (r:Pl):Bool:=K (.sl 1 0 3 (.rest 0)) (Dn4 r.l1 r.z r.z (p.now+2) r.z r.z r.z r.hm r.mm r.h r.e) 13
noncomputable def QG (p:vS) (K:KE):Bool:=ae fun r=>iP (wO p r) (VB p K r) true
def yY (p:vS):Prop:=0≤p.now∧p.now≤1000000∧p.x_vl=[]∧p.x_ml=[]∧p.x_l=[]∧p.x_tl=[]∧p.x_n=0∧p.x_c=0∧p.l1.length≤400∧p.ct=p.l1∧p.cm=[(1:Int),(2:Int),(3:Int)]
theorem Sq {p:vS} {K:KE} (hK:QG p K=true) {r:Pl} (h:wO p r:=by dsimp only[wO]<;>assumption):VB p K r=true:=ax h (aq hK r)
theorem aff:Vf yY QG 1 RD aJ bZ ZY:=by
 intro p K hpre hK
 refine Eq.trans (b:=(let z0:Bool:=(K .nilS (Nw p.l1 p.com1 p.t p.u p.hq p.tq p.hcm p.cm p.hct p.ct p.ham p.aw p.hat p.av) 14);aL Hu jL ⟨p.x_n,p.x_c,p.x_vh,p.x_vl,p.x_mh,p.x_ml,p.x_h,p.x_l,p.x_th,p.x_tl⟩ fun p1=>iP (400<(p.x_l.length:Int)) z0 (iP (400<(p.x_tl.length:Int)) z0 (aa (cu (cu (ay Gc li iw ⟨p.l1,p.com1,p.t,p.u,p.hq,p.tq,p.hcm,p.cm,p.hct,p.ct,p.ham,p.aw,p.hat,p.av,p.now⟩ fun p2 r1=>K (.sl 1 0 3 (.rest 0)) (Dn4 r1.o r1.z r1.z (p2.now+2) r1.z r1.z r1.z r1.hm r1.ml r1.h r1.e) 13))) (cu (ay Gc li iw ⟨p.l1,p.com1,p.t,p.u,p.hq,p.tq,p.hcm,p.cm,p.hct,p.ct,p.ham,p.aw,p.hat,p.av,p.now⟩ fun p6 r5=>K (.sl 1 0 3 (.rest 0)) (Dn4 r5.o r5.z r5.z (p6.now+2) r5.z r5.z r5.z r5.hm r5.ml r5.h r5.e) 13)))))) (by kernel_rfl) ?_
 dsimp only[yY]at hpre
 obtain⟨n0,n1,h_vl,h_ml,h_l,h_tl,h_n,h_c,hx⟩:=hpre
 have e_vl:=congrArg List.length h_vl
 have e_ml:=congrArg List.length h_ml
 have e_l:=congrArg List.length h_l
 have e_tl:=congrArg List.length h_tl
 simp only[apy]at e_vl e_ml e_l e_tl
 obtain⟨hx1,hx2,hx3⟩:=hx
 refine aV (by(try dsimp only[jL]);repeat(first|assumption|omega|apply And.intro)) ?_
 refine iX fun hc1=> ?_
 refine iX fun hc2=> ?_
 refine bI ?_ ?_
 refine bk ?_
 refine bk ?_
 refine aF (by(try dsimp only[li]);exact⟨by omega,by assumption,by assumption,by omega,by omega⟩) fun r1 hi3=> ?_
 dsimp only[iw]at hi3 ⊢
 exact Sq (r:=⟨r1.o,r1.z,r1.hm,r1.ml,r1.h,r1.e⟩) hK
 refine bk ?_
 refine aF (by(try dsimp only[li]);exact⟨by omega,by assumption,by assumption,by omega,by omega⟩) fun r5 hi4=> ?_
 dsimp only[iw]at hi4 ⊢
 exact Sq (r:=⟨r5.o,r5.z,r5.hm,r5.ml,r5.h,r5.e⟩) hK
noncomputable def nc_ya4_3:EE 51 1:=bA (fun us M=>aA (aA (Nat.beq (zC M 0 8) 1) (Nat.beq (zC M 0 1) 1)) (cT M 0 11)) (nE bt aff) eS
noncomputable def RC:NN:=bB RD nc_ya4_3.2 [(0,4),(1,20),(2,15),(3,15)] (fun us=>aA (Nat.beq (aC us 2 0) 3) (Nat.beq (aC us 3 0) 6))
noncomputable def Hb (l2:List Ke) (com2 b2 u2 d2_0 d2_1 d2_2:Int):T:=(n2 (n2 (n2 (n0 (aE 1 2 3)) (bu 0) (n0 (aE 1 2 3))) (aE 1 2 3) (n2 (n0 (cP 1 d2_0 2 d2_1 3 d2_2)) (bL 0) .leaf)) (nU 1 3 2 3 2 4 4 5 u2 6) (n2 (n2 (n0 (aO l2)) am .leaf) (ig 7 3 2 8 l2.length b2 com2 9) (n2 (n0 am) (nX 10 4 11 3) .leaf)))
abbrev vR:=rU
abbrev Pk:=Hl
def wM (p:vR) (r:Pk):Prop:=r.l2=p.x_l
noncomputable def ZW (p:vR):IE:=([.ptr 0 0,.sy (.int 0 p.now),dL 1,eR 10 0 p.x_n p.x_c 0 [] 2 p.x_vh p.x_vl p.x_mh p.x_ml p.x_h p.x_l p.x_th p.x_tl],(aoP p.l2 p.com2 p.t2 p.hm2 p.m2 p.ht2 p.a2),11)
noncomputable def Vz (p:vR) (K:KE) (r:Pk):Bool:=K .nilS (Hb r.l2 (p.x_l.length:Int) (p.x_l.length:Int) (p.now+2) (p.x_l.length:Int) (p.x_l.length:Int) (p.x_l.length:Int)) 12
noncomputable def QE (p:vR) (K:KE):Bool:=ae fun r=>iP (wM p r) (Vz p K r) true
def yW (p:vR):Prop:=0≤p.now∧p.now≤1000000∧p.x_ml=[]∧p.x_tl=[]∧p.x_n=0∧p.x_c=0∧p.x_vl=[(1:Int),(2:Int),(3:Int)]∧bF p.x_l∧p.x_l.length≤400
theorem ad4 {p:vR} {K:KE} (hK:QE p K=true) {r:Pk} (h:wM p r):Vz p K r=true:=ax h (aq hK r)
theorem afd:Vf yW QE 1 RC aJ bZ ZW:=by
 intro p K hpre hK
 refine Eq.trans (b:=(aL CY jv ⟨p.x_n,p.x_c,p.x_vh,p.x_vl,p.x_mh,p.x_ml,p.x_h,p.x_l,p.x_th,p.x_tl⟩ fun p1=>aL Da jx ⟨p.x_vh,p.x_vl⟩ fun p2=>aL dk cb ⟨p.x_vh,p.x_vl⟩ fun p3=>aa (qL [qY ((.imm p.x_vh 2 Int p.x_vl aG))]) (ay FX mO kP ⟨p.x_vh,p.x_vl,p.x_h,p.x_l⟩ fun p4 r1=>aL dk cb ⟨p.x_vh,p.x_vl⟩ fun p5=>aL rj eK ⟨p.x_vh,p.x_vl⟩ fun p6=>mP (aI 0 (p.now+2)) (K .nilS (Hb r1.o (p4.e.length:Int) (p4.e.length:Int) (p.now+2) (p4.e.length:Int) (p4.e.length:Int) (p4.e.length:Int)) 12)))) (by kernel_rfl) ?_
 dsimp only[yW]at hpre
 obtain⟨n0,n1,h_ml,h_tl,h_n,h_c,hx⟩:=hpre
 have e_ml:=congrArg List.length h_ml
 have e_tl:=congrArg List.length h_tl
 simp only[apy]at e_ml e_tl
 obtain⟨hvl_,hks,hx3⟩:=hx
 have e_vl:=congrArg List.length hvl_
 simp only[apw,apy]at e_vl
 refine aV (by(try dsimp only[jv]);repeat(first|assumption|omega|apply And.intro)) ?_
 refine aV (by(try dsimp only[jx]);assumption) ?_
 refine di ?_
 refine cq ?_
 refine aF (by(try dsimp only[mO]);exact⟨by assumption,by first|omega|(simp only[apv,apL,apW];omega)⟩) fun r1 hi1=> ?_
 dsimp only[kP]at hi1 ⊢
 refine di ?_
 refine aV (by(try dsimp only[eK]);assumption) ?_
 refine be ?_
 exact ad4 (r:=⟨r1.o⟩) hK (by dsimp only[wM]<;>(first|exact hi1.1|(simp_all;done)))
noncomputable def nc_yi4_2:EE 51 1:=bA (fun us M=>aA (aA (Nat.beq (zC M 0 8) 2) (Nat.beq (zC M 0 1) 1)) (cT M 0 11)) (nE bt afd) eS
noncomputable def RA:NN:=bB RC nc_yi4_2.2 [(0,4),(1,20),(2,15),(3,15)] (fun us=>aA (Nat.beq (aC us 2 0) 1) (Nat.beq (aC us 3 0) 10))
noncomputable def Ha (l3:List Ke) (com3 b3 u3 d3_0 d3_1 d3_2:Int):T:=(n2 (n2 (n2 (n0 (aE 1 2 3)) (bu 0) (n0 (aE 1 2 3))) (aE 1 2 3) (n2 (n0 (cP 1 d3_0 2 d3_1 3 d3_2)) (bL 0) .leaf)) (nU 1 3 2 3 3 4 4 5 u3 6) (n2 (n2 (n0 (aO l3)) am .leaf) (ig 7 3 3 8 l3.length b3 com3 9) (n2 (n0 am) (nX 10 4 11 3) .leaf)))
structure vQ where (l3:List Ke) (com3 t3:Int) (hm3:Value) (m3:List Int) (ht3:Value) (a3:List Ke) (x_n x_c:Int) (x_vh:Value) (x_vl:List Int) (x_mh:Value) (x_ml:List Int) (x_h:Value) (x_l:List Ke) (x_th:Value) (x_tl:List Ke) (now:Int)
structure Pj where (l3:List Ke)
def wK (p:vQ) (r:Pj):Prop:=r.l3=p.x_l
noncomputable def ZV (p:vQ):IE:=([.ptr 0 0,.sy (.int 0 p.now),dL 1,eR 10 0 p.x_n p.x_c 0 [] 2 p.x_vh p.x_vl p.x_mh p.x_ml p.x_h p.x_l p.x_th p.x_tl],(aoO p.l3 p.com3 p.t3 p.hm3 p.m3 p.ht3 p.a3),11)
noncomputable def Vy (p:vQ) (K:KE) (r:Pj):Bool:=K .nilS (Ha r.l3 (p.x_l.length:Int) (p.x_l.length:Int) (p.now+2) (p.x_l.length:Int) (p.x_l.length:Int) (p.x_l.length:Int)) 12
noncomputable def QD (p:vQ) (K:KE):Bool:=ae fun r=>iP (wK p r) (Vy p K r) true
def yV (p:vQ):Prop:=0≤p.now∧p.now≤1000000∧p.x_ml=[]∧p.x_tl=[]∧p.x_n=0∧p.x_c=0∧p.x_vl=[(1:Int),(2:Int),(3:Int)]∧bF p.x_l∧p.x_l.length≤400
theorem ad3 {p:vQ} {K:KE} (hK:QD p K=true) {r:Pj} (h:wK p r):Vy p K r=true:=ax h (aq hK r)
theorem afc:Vf yV QD 1 RA aJ bZ ZV:=by
 intro p K hpre hK
 refine Eq.trans (b:=(aL CY jv ⟨p.x_n,p.x_c,p.x_vh,p.x_vl,p.x_mh,p.x_ml,p.x_h,p.x_l,p.x_th,p.x_tl⟩ fun p1=>aL CZ jw ⟨p.x_vh,p.x_vl⟩ fun p2=>aL dk cb ⟨p.x_vh,p.x_vl⟩ fun p3=>aa (qL [qY ((.imm p.x_vh 2 Int p.x_vl aG))]) (ay FW mN kO ⟨p.x_vh,p.x_vl,p.x_h,p.x_l⟩ fun p4 r1=>aL dk cb ⟨p.x_vh,p.x_vl⟩ fun p5=>aL rj eK ⟨p.x_vh,p.x_vl⟩ fun p6=>mP (aI 0 (p.now+2)) (K .nilS (Ha r1.o (p4.e.length:Int) (p4.e.length:Int) (p.now+2) (p4.e.length:Int) (p4.e.length:Int) (p4.e.length:Int)) 12)))) (by kernel_rfl) ?_
 dsimp only[yV]at hpre
 obtain⟨n0,n1,h_ml,h_tl,h_n,h_c,hx⟩:=hpre
 have e_ml:=congrArg List.length h_ml
 have e_tl:=congrArg List.length h_tl
 simp only[apy]at e_ml e_tl
 obtain⟨hvl_,hks,hx3⟩:=hx
 have e_vl:=congrArg List.length hvl_
 simp only[apw,apy]at e_vl
 refine aV (by(try dsimp only[jv]);repeat(first|assumption|omega|apply And.intro)) ?_
 refine aV (by(try dsimp only[jw]);assumption) ?_
 refine di ?_
 refine cq ?_
 refine aF (by(try dsimp only[mN]);exact⟨by assumption,by first|omega|(simp only[apv,apL,apW];omega)⟩) fun r1 hi1=> ?_
 dsimp only[kO]at hi1 ⊢
 refine di ?_
 refine aV (by(try dsimp only[eK]);assumption) ?_
 refine be ?_
 exact ad3 (r:=⟨r1.o⟩) hK (by dsimp only[wK]<;>(first|exact hi1.1|(simp_all;done)))
noncomputable def nc_yi4_3:EE 51 1:=bA (fun us M=>aA (aA (Nat.beq (zC M 0 8) 3) (Nat.beq (zC M 0 1) 1)) (cT M 0 11)) (nE bt afc) nc_yi4_2
noncomputable def Rz:NN:=bB RA nc_yi4_3.2 [(0,4),(1,20),(2,15),(3,15)] (fun us=>aA (Nat.beq (aC us 2 0) 1) (Nat.beq (aC us 3 0) 10))
noncomputable def acC (l0:List Ke) (com0 g0 g1 g2 g3:Int) (l1:List Ke) (com1:Int) (l2:List Ke) (com2:Int) (l3:List Ke) (com3:Int) (L:List Fx) (a o cp:Nat) (now cnt:Int):T:=(n2 (n2 (n2 (n2 (n2 (n0 am) (bu 0) .leaf) (zq 25 4 26 27 3 28 29 30) (n2 (n0 am) (bL 1) .leaf)) (nV L) (n2 (n2 (n0 am) am .leaf) am (n2 (n0 am) (bu 0) .leaf))) AZ (n2 (n2 (n2 (n0 (ca g0 g1 g2 g3)) (bL 1) .leaf) (bj 31 4 0 32 l0.length com0 false 33) (n2 (n0 (ca 0 0 0 0)) am .leaf)) (zq 13 4 14 15 1 16 17 18) (n2 (n2 (n0 (ca 0 0 0 0)) (bu 0) .leaf) am (n2 (n0 (ca 0 0 0 0)) (bL 1) .leaf)))) (nW 4 a (L.length - a) o (some cp) now cnt) (n2 (n2 (n2 (n2 (n0 (aO l0)) am .leaf) am (n2 (n0 (aO l2)) (bm true 42 4) .leaf)) (eX 8 4 9 10 0 11 12) (n2 (n2 (n0 (aO l1)) (bj 39 4 2 40 l2.length com2 false 41) .leaf) (bm true 34 4) (n2 (n0 (aO l3)) am .leaf))) (Bc true) (n2 (n2 (n2 (n0 am) (bm true 38 4) .leaf) (bu 0) (n2 (n0 am) (bj 43 4 3 44 l3.length com3 false 45) .leaf)) (zq 19 4 20 21 2 22 23 24) (n2 (n2 (n0 am) am .leaf) (bj 35 4 1 36 l1.length com1 false 37) (n2 (n0 am) (bm true 46 4) .leaf)))))
noncomputable def BE (l0:List Ke) (com0 g0 g1 g2 g3:Int) (l1:List Ke) (com1 t u:Int) (hq:Value) (tq l2:List Ke) (com2:Int) (l3:List Ke) (com3:Int) (L:List Fx) (a o cp:Nat) (now cnt:Int):T:=(n2 (n2 (n2 (n2 (n2 (n0 (bm true 49 4)) (bu 257) (n0 (aO l3))) (zq 26 4 27 28 3 29 30 31) (n2 (n0 am) am .leaf)) (nV L) (n2 (n2 (n0 am) (bm true 41 4) .leaf) am (n2 (n0 (aO l2)) (bj 46 4 3 47 l3.length com3 false 48) .leaf))) AZ (n2 (n2 (n2 (n0 (aO l0)) am (n0 am)) (bj 32 4 0 33 l0.length com0 false 34) (n2 (n0 am) (bm true 45 4) .leaf)) (jR 13 4 14 15 16 t 17 18 u 19) (n2 (n2 (n0 (aO l1)) (bj 42 4 2 43 l2.length com2 false 44) .leaf) am (n2 (n0 am) am .leaf)))) (nW 4 a (L.length - a) o (some cp) now cnt) (n2 (n2 (n2 (n2 (n0 am) (Eo 39 4 40 hq tq) (n0 (ca 0 0 0 0))) am (n2 (n0 (rr 0 1)) (bL 1) .leaf)) (eX 8 4 9 10 0 11 12) (n2 (n2 (n0 am) am .leaf) (bm true 35 4) (n2 (n0 (ca 0 0 0 0)) (bu 0) .leaf))) (Bc true) (n2 (n2 (n2 (n0 (ca g0 g1 g2 g3)) (bL 1) .leaf) (bu 0) (n2 (n0 am) am .leaf)) (zq 20 4 21 22 2 23 24 25) (n2 (n2 (n0 (ca 0 0 0 0)) (bu 0) .leaf) (bj 36 4 1 37 l1.length com1 true 38) (n2 (n0 am) (bL 1) .leaf)))))
noncomputable def NC (l0:List Ke) (com0 g0 g1 g2 g3:Int) (l1:List Ke) (com1 t u:Int) (hq:Value) (tq l2:List Ke) (com2 t2:Int) (l3:List Ke) (com3:Int) (L:List Fx) (a o cp:Nat) (now cnt:Int):T:=(n2 (n2 (n2 (n2 (n2 (n0 (bm true 49 4)) (bu 257) (n0 (aO l3))) (zq 26 4 27 28 3 29 30 31) (n2 (n0 am) am .leaf)) (nV L) (n2 (n2 (n0 am) (bm true 41 4) .leaf) am (n2 (n0 (aO l2)) (bj 46 4 3 47 l3.length com3 false 48) .leaf))) AZ (n2 (n2 (n2 (n0 (aO l0)) am (n0 am)) (bj 32 4 0 33 l0.length com0 false 34) (n2 (n0 am) (bm true 45 4) .leaf)) (jR 13 4 14 15 16 t 17 18 u 19) (n2 (n2 (n0 (aO l1)) (bj 42 4 2 43 l2.length com2 true 44) .leaf) am (n2 (n0 am) am .leaf)))) (nW 4 a (L.length - a) o (some cp) now cnt) (n2 (n2 (n2 (n2 (n0 am) (Eo 39 4 40 hq tq) (n0 (ca 0 0 0 0))) am (n2 (n0 (rr 0 1)) (bL 1) .leaf)) (eX 8 4 9 10 0 11 12) (n2 (n2 (n0 am) am .leaf) (bm true 35 4) (n2 (n0 (ca 0 0 0 0)) (bu 0) .leaf))) (Bc true) (n2 (n2 (n2 (n0 (ca g0 g1 g2 g3)) (bL 1) .leaf) (bu 0) (n2 (n0 am) am .leaf)) (gJ 20 4 21 22 t2 2 23 24 25) (n2 (n2 (n0 (ca 0 0 0 0)) (bu 257) .leaf) (bj 36 4 1 37 l1.length com1 true 38) (n2 (n0 am) (bL 1) .leaf)))))
noncomputable def ND (l0:List Ke) (com0 g0 g1 g2 g3:Int) (l1:List Ke) (com1 t u:Int) (hq:Value) (tq l2:List Ke) (com2 t2:Int) (l3:List Ke) (com3 t3:Int) (L:List Fx) (a o cp:Nat) (now cnt:Int):T:=(n2 (n2 (n2 (n2 (n2 (n0 (bm true 49 4)) (bu 257) (n0 (aO l3))) (gJ 26 4 27 28 t3 3 29 30 31) (n2 (n0 am) am .leaf)) (nV L) (n2 (n2 (n0 am) (bm true 41 4) .leaf) am (n2 (n0 (aO l2)) (bj 46 4 3 47 l3.length com3 true 48) .leaf))) AZ (n2 (n2 (n2 (n0 (aO l0)) am (n0 am)) (bj 32 4 0 33 l0.length com0 false 34) (n2 (n0 am) (bm true 45 4) .leaf)) (jR 13 4 14 15 16 t 17 18 u 19) (n2 (n2 (n0 (aO l1)) (bj 42 4 2 43 l2.length com2 true 44) .leaf) am (n2 (n0 am) am .leaf)))) (nW 4 a (L.length - a) o (some cp) now cnt) (n2 (n2 (n2 (n2 (n0 am) (Eo 39 4 40 hq tq) (n0 (ca 0 0 0 0))) am (n2 (n0 (rr 0 1)) (bL 1) .leaf)) (eX 8 4 9 10 0 11 12) (n2 (n2 (n0 am) am .leaf) (bm true 35 4) (n2 (n0 (ca 0 0 0 0)) (bu 257) .leaf))) (Bc true) (n2 (n2 (n2 (n0 (ca g0 g1 g2 g3)) (bL 1) .leaf) (bu 0) (n2 (n0 am) am .leaf)) (gJ 20 4 21 22 t2 2 23 24 25) (n2 (n2 (n0 (ca 0 0 0 0)) (bu 257) .leaf) (bj 36 4 1 37 l1.length com1 true 38) (n2 (n0 am) (bL 1) .leaf)))))
noncomputable def aeF (l0:List Ke) (com0 g0 g1 g2 g3:Int) (l1:List Ke) (com1 t u:Int) (hq:Value) (tq l2:List Ke) (com2 t2:Int) (l3:List Ke) (com3 t3:Int) (L:List Fx) (a o cp:Nat) (now cnt:Int):T:=(n2 (n2 (n2 (n2 (n2 (n0 (bm true 49 4)) (bu 257) (n0 (aO l3))) (gJ 26 4 27 28 t3 3 29 30 31) (n2 (n0 am) am .leaf)) (nV L) (n2 (n2 (n0 am) (bm true 41 4) .leaf) am (n2 (n0 (aO l2)) (bj 46 4 3 47 l3.length com3 true 48) .leaf))) AZ (n2 (n2 (n2 (n0 (aO l0)) am (n0 am)) (bj 32 4 0 33 l0.length com0 false 34) (n2 (n0 am) (bm true 45 4) .leaf)) (jR 13 4 14 15 16 t 17 18 u 19) (n2 (n2 (n0 (aO l1)) (bj 42 4 2 43 l2.length com2 true 44) .leaf) am (n2 (n0 am) am .leaf)))) (nW 4 a (L.length - a) o (some cp) now cnt) (n2 (n2 (n2 (n2 (n0 am) (Eo 39 4 40 hq tq) (n0 (ca 0 0 0 0))) am (n2 (n0 (YO 0 1 2)) (bL 1) .leaf)) (eX 8 4 9 10 0 11 12) (n2 (n2 (n0 am) am .leaf) (bm true 35 4) (n2 (n0 (ca 0 0 0 0)) (bu 257) .leaf))) (Bc true) (n2 (n2 (n2 (n0 (ca g0 g1 g2 g3)) (bL 1) .leaf) (bu 0) (n2 (n0 am) am .leaf)) (gJ 20 4 21 22 t2 2 23 24 25) (n2 (n2 (n0 (ca 0 0 0 0)) (bu 257) .leaf) (bj 36 4 1 37 l1.length com1 true 38) (n2 (n0 am) (bL 1) .leaf)))))
noncomputable def aeC (l0:List Ke) (com0 g0 g1 g2 g3:Int) (l1:List Ke) (com1 t u:Int) (hq:Value) (tq:List Ke) (hcm:Value) (cm:List Int) (hct:Value) (ct:List Ke) (ham:Value) (aw:List Int) (hat:Value) (av l2:List Ke) (com2 t2:Int) (l3:List Ke) (com3 t3:Int) (L:List Fx) (a o cp:Nat) (now cnt:Int):T:=(n2 (n2 (n2 (n2 (n2 (n0 (bm true 49 4)) (hQ ham aw hat av) (n0 (aO l3))) (gJ 26 4 27 28 t3 3 29 30 31) (n2 (n0 am) am .leaf)) (nV L) (n2 (n2 (n0 am) (bm true 41 4) .leaf) am (n2 (n0 (aO l2)) (bj 46 4 3 47 l3.length com3 true 48) .leaf))) AZ (n2 (n2 (n2 (n0 (aO l0)) am (n0 am)) (bj 32 4 0 33 l0.length com0 false 34) (n2 (n0 am) (bm true 45 4) .leaf)) (jR 13 4 14 15 16 t 17 18 u 19) (n2 (n2 (n0 (aO l1)) (bj 42 4 2 43 l2.length com2 true 44) .leaf) am (n2 (n0 am) am .leaf)))) (nW 4 a (L.length - a) o (some cp) now cnt) (n2 (n2 (n2 (n2 (n0 am) (xw 39 4 1 40 hq tq hcm cm hct ct) (n0 (ca 0 0 0 0))) am (n2 (n0 (rr 3 4)) (bL 1) .leaf)) (eX 8 4 9 10 0 11 12) (n2 (n2 (n0 am) am .leaf) (bm true 35 4) (n2 (n0 (ca 0 0 0 0)) (bu 257) .leaf))) (Bc true) (n2 (n2 (n2 (n0 (ca g0 g1 g2 g3)) (bL 1) .leaf) (bu 0) (n2 (n0 am) am .leaf)) (gJ 20 4 21 22 t2 2 23 24 25) (n2 (n2 (n0 (ca 0 0 0 0)) (bu 257) .leaf) (bj 36 4 1 37 l1.length com1 true 38) (n2 (n0 am) (bL 1) .leaf)))))
noncomputable def aeD (l0:List Ke) (com0 g0 g1 g2 g3:Int) (l1:List Ke) (com1 t u:Int) (hq:Value) (tq:List Ke) (hcm:Value) (cm:List Int) (hct:Value) (ct:List Ke) (ham:Value) (aw:List Int) (hat:Value) (av l2:List Ke) (com2 t2:Int) (hm2:Value) (m2:List Int) (ht2:Value) (a2 l3:List Ke) (com3 t3:Int) (L:List Fx) (a o cp:Nat) (now cnt:Int):T:=(n2 (n2 (n2 (n2 (n2 (n0 (bm true 49 4)) (hQ ham aw hat av) (n0 (aO l3))) (gJ 26 4 27 28 t3 3 29 30 31) (n2 (n0 am) am .leaf)) (nV L) (n2 (n2 (n0 am) (bm true 41 4) .leaf) am (n2 (n0 (aO l2)) (bj 46 4 3 47 l3.length com3 true 48) .leaf))) AZ (n2 (n2 (n2 (n0 (aO l0)) am (n0 am)) (bj 32 4 0 33 l0.length com0 false 34) (n2 (n0 am) (bm true 45 4) .leaf)) (jR 13 4 14 15 16 t 17 18 u 19) (n2 (n2 (n0 (aO l1)) (bj 42 4 2 43 l2.length com2 true 44) .leaf) am (n2 (n0 am) am .leaf)))) (nW 4 a (L.length - a) o (some cp) now cnt) (n2 (n2 (n2 (n2 (n0 am) (xw 39 4 1 40 hq tq hcm cm hct ct) (n0 (ca 0 0 0 0))) am (n2 (n0 (rr 3 4)) (bL 1) .leaf)) (eX 8 4 9 10 0 11 12) (n2 (n2 (n0 am) am .leaf) (bm true 35 4) (n2 (n0 (ca 0 0 0 0)) (bu 257) .leaf))) (Bc true) (n2 (n2 (n2 (n0 (ca g0 g1 g2 g3)) (bL 1) .leaf) (bu 0) (n2 (n0 am) am .leaf)) (gJ 20 4 21 22 t2 2 23 24 25) (n2 (n2 (n0 (ca 0 0 0 0)) (hQ hm2 m2 ht2 a2) .leaf) (bj 36 4 1 37 l1.length com1 true 38) (n2 (n0 am) (bL 1) .leaf)))))
noncomputable def aeE (l0:List Ke) (com0 g0 g1 g2 g3:Int) (l1:List Ke) (com1 t u:Int) (hq:Value) (tq:List Ke) (hcm:Value) (cm:List Int) (hct:Value) (ct:List Ke) (ham:Value) (aw:List Int) (hat:Value) (av l2:List Ke) (com2 t2:Int) (hm2:Value) (m2:List Int) (ht2:Value) (a2 l3:List Ke) (com3 t3:Int) (hm3:Value) (m3:List Int) (ht3:Value) (a3:List Ke) (L:List Fx) (a o cp:Nat) (now cnt:Int):T:=(n2 (n2 (n2 (n2 (n2 (n0 (bm true 49 4)) (hQ ham aw hat av) (n0 (aO l3))) (gJ 26 4 27 28 t3 3 29 30 31) (n2 (n0 am) am .leaf)) (nV L) (n2 (n2 (n0 am) (bm true 41 4) .leaf) am (n2 (n0 (aO l2)) (bj 46 4 3 47 l3.length com3 true 48) .leaf))) AZ (n2 (n2 (n2 (n0 (aO l0)) am (n0 am)) (bj 32 4 0 33 l0.length com0 false 34) (n2 (n0 am) (bm true 45 4) .leaf)) (jR 13 4 14 15 16 t 17 18 u 19) (n2 (n2 (n0 (aO l1)) (bj 42 4 2 43 l2.length com2 true 44) .leaf) am (n2 (n0 am) am .leaf)))) (nW 4 a (L.length - a) o (some cp) now cnt) (n2 (n2 (n2 (n2 (n0 am) (xw 39 4 1 40 hq tq hcm cm hct ct) (n0 (ca 0 0 0 0))) am (n2 (n0 (rr 3 4)) (bL 1) .leaf)) (eX 8 4 9 10 0 11 12) (n2 (n2 (n0 am) am .leaf) (bm true 35 4) (n2 (n0 (ca 0 0 0 0)) (hQ hm3 m3 ht3 a3) .leaf))) (Bc true) (n2 (n2 (n2 (n0 (ca g0 g1 g2 g3)) (bL 1) .leaf) (bu 0) (n2 (n0 am) am .leaf)) (gJ 20 4 21 22 t2 2 23 24 25) (n2 (n2 (n0 (ca 0 0 0 0)) (hQ hm2 m2 ht2 a2) .leaf) (bj 36 4 1 37 l1.length com1 true 38) (n2 (n0 am) (bL 1) .leaf)))))
noncomputable def aeB (l0:List Ke) (com0 g0 g1 g2 g3:Int) (l1:List Ke) (com1 t u:Int) (hq:Value) (tq:List Ke) (hcm:Value) (cm:List Int) (hct:Value) (ct:List Ke) (ham:Value) (aw:List Int) (hat:Value) (av l2:List Ke) (com2 t2:Int) (hm2:Value) (m2:List Int) (ht2:Value) (a2 l3:List Ke) (com3 t3:Int) (hm3:Value) (m3:List Int) (ht3:Value) (a3:List Ke) (L:List Fx) (a o cp:Nat) (now cnt:Int):T:=(n2 (n2 (n2 (n2 (n2 (n0 (bm true 49 4)) (hQ ham aw hat av) (n0 (aO l3))) (gJ 26 4 27 28 t3 3 29 30 31) (n2 (n0 am) am .leaf)) (nV L) (n2 (n2 (n0 am) (bm true 41 4) .leaf) am (n2 (n0 (aO l2)) (bj 46 4 3 47 l3.length com3 true 48) .leaf))) AZ (n2 (n2 (n2 (n0 (aO l0)) am (n0 am)) (bj 32 4 0 33 l0.length com0 false 34) (n2 (n0 am) (bm true 45 4) .leaf)) (jR 13 4 14 15 16 t 17 18 u 19) (n2 (n2 (n0 (aO l1)) (bj 42 4 2 43 l2.length com2 true 44) .leaf) am (n2 (n0 am) am .leaf)))) (nW 4 a (L.length - a) o (some cp) now cnt) (n2 (n2 (n2 (n2 (n0 am) (xw 39 4 1 40 hq tq hcm cm hct ct) (n0 (ca 0 0 0 0))) am (n2 (n0 (YO 3 4 5)) (bL 1) .leaf)) (eX 8 4 9 10 0 11 12) (n2 (n2 (n0 am) am .leaf) (bm true 35 4) (n2 (n0 (ca 0 0 0 0)) (hQ hm3 m3 ht3 a3) .leaf))) (Bc true) (n2 (n2 (n2 (n0 (ca g0 g1 g2 g3)) (bL 1) .leaf) (bu 0) (n2 (n0 am) am .leaf)) (gJ 20 4 21 22 t2 2 23 24 25) (n2 (n2 (n0 (ca 0 0 0 0)) (hQ hm2 m2 ht2 a2) .leaf) (bj 36 4 1 37 l1.length com1 true 38) (n2 (n0 am) (bL 1) .leaf)))))
noncomputable def He (l0:List Ke) (com0 g0 g1 g2 g3:Int) (l1:List Ke) (com1 b1 u c0 c1 c2:Int) (l2:List Ke) (com2 t2:Int) (hm2:Value) (m2:List Int) (ht2:Value) (a2 l3:List Ke) (com3 t3:Int) (hm3:Value) (m3:List Int) (ht3:Value) (a3:List Ke) (L:List Fx) (a o cp:Nat) (now cnt:Int):T:=(n2 (n2 (n2 (n2 (n2 (n0 am) (bu 0) (n0 am)) (gJ 25 4 26 27 t3 3 28 29 30) (n2 (n0 (aE 1 2 3)) (bL 1) .leaf)) (nV L) (n2 (n2 (n0 (aE 1 2 3)) am .leaf) am (n2 (n0 am) (hQ hm3 m3 ht3 a3) .leaf))) AZ (n2 (n2 (n2 (n0 (ca g0 g1 g2 g3)) (bL 0) .leaf) (bj 31 4 0 32 l0.length com0 false 33) (n2 (n0 (aO l2)) am .leaf)) (nU 13 3 14 15 1 16 4 17 u 18) (n2 (n2 (n0 (cP 1 c0 2 c1 3 c2)) (hQ hm2 m2 ht2 a2) .leaf) (aE 1 2 3) (n2 (n0 (aO l3)) (bL 1) .leaf)))) (nW 4 a (L.length - a) o (some cp) now cnt) (n2 (n2 (n2 (n2 (n0 (aO l0)) am .leaf) am (n2 (n0 am) (bm true 43 4) .leaf)) (eX 8 4 9 10 0 11 12) (n2 (n2 (n0 (aO l1)) (bj 40 4 2 41 l2.length com2 true 42) .leaf) (bm true 34 4) (n2 (n0 am) am .leaf))) (Bc true) (n2 (n2 (n2 (n0 am) (nX 38 4 39 3) .leaf) (bu 0) (n2 (n0 (ca 0 0 0 0)) (bj 44 4 3 45 l3.length com3 true 46) .leaf)) (gJ 19 4 20 21 t2 2 22 23 24) (n2 (n2 (n0 am) am .leaf) (ig 35 3 1 36 l1.length b1 com1 37) (n2 (n0 (ca 0 0 0 0)) (bm true 47 4) .leaf)))))
noncomputable def acD (l0:List Ke) (com0 g0 g1 g2 g3:Int) (l1:List Ke) (com1 b1 u c0 c1 c2:Int) (l2:List Ke) (com2 b2 u2 d2_0 d2_1 d2_2:Int) (l3:List Ke) (com3 t3:Int) (hm3:Value) (m3:List Int) (ht3:Value) (a3:List Ke) (L:List Fx) (a o cp:Nat) (now cnt:Int):T:=(n2 (n2 (n2 (n2 (n2 (n0 am) (bu 0) (n0 (ca 0 0 0 0))) (gJ 25 4 26 27 t3 3 28 29 30) (n2 (n0 (aE 1 2 3)) (bL 0) .leaf)) (nV L) (n2 (n2 (n0 (aE 1 2 3)) (aE 1 2 3) .leaf) am (n2 (n0 am) (hQ hm3 m3 ht3 a3) .leaf))) AZ (n2 (n2 (n2 (n0 (ca g0 g1 g2 g3)) (bL 0) .leaf) (bj 31 4 0 32 l0.length com0 false 33) (n2 (n0 (aO l2)) am .leaf)) (nU 13 3 14 15 1 16 4 17 u 18) (n2 (n2 (n0 (cP 1 c0 2 c1 3 c2)) (bu 0) .leaf) (aE 1 2 3) (n2 (n0 am) (bL 1) .leaf)))) (nW 4 a (L.length - a) o (some cp) now cnt) (n2 (n2 (n2 (n2 (n0 (aO l0)) am (n0 am)) am (n2 (n0 (aE 1 2 3)) (nX 43 4 44 3) .leaf)) (eX 8 4 9 10 0 11 12) (n2 (n2 (n0 (aO l1)) (ig 40 3 2 41 l2.length b2 com2 42) .leaf) (bm true 34 4) (n2 (n0 (aE 1 2 3)) am .leaf))) (Bc true) (n2 (n2 (n2 (n0 am) (nX 38 4 39 3) .leaf) (bu 0) (n2 (n0 (cP 1 d2_0 2 d2_1 3 d2_2)) (bj 45 4 3 46 l3.length com3 true 47) .leaf)) (nU 19 3 20 21 2 22 4 23 u2 24) (n2 (n2 (n0 am) am .leaf) (ig 35 3 1 36 l1.length b1 com1 37) (n2 (n0 (aO l3)) (bm true 48 4) .leaf)))))
noncomputable def Hd (l0:List Ke) (com0 g0 g1 g2 g3:Int) (l1:List Ke) (com1 b1 u c0 c1 c2:Int) (l2:List Ke) (com2 b2 u2 d2_0 d2_1 d2_2:Int) (l3:List Ke) (com3 b3 u3 d3_0 d3_1 d3_2:Int) (L:List Fx) (a o cp:Nat) (now cnt:Int) (k0 k1 k2 k3 k4:Nat):T:=(n2 (n2 (n2 (n2 (n2 (n0 am) (bu 0) (n0 (cP 1 d3_0 2 d3_1 3 d3_2))) (nU 25 3 26 27 3 28 4 29 u3 30) (n2 (n0 (aE 1 2 3)) (bL 0) .leaf)) (nV L) (n2 (n2 (n0 (aE 1 2 3)) (aE 1 2 3) .leaf) am (n2 (n0 am) (bu 0) .leaf))) AZ (n2 (n2 (n2 (n0 (ca g0 g1 g2 g3)) (bL 0) (n0 (aE 1 2 3))) (bj 31 4 0 32 k1 com0 false 33) (n2 (n0 (aO l2)) (aE 1 2 3) .leaf)) (nU 13 3 14 15 1 16 4 17 u 18) (n2 (n2 (n0 (cP 1 c0 2 c1 3 c2)) (bu 0) .leaf) (aE 1 2 3) (n2 (n0 (aE 1 2 3)) (bL 0) .leaf)))) (nW 4 a k0 o (some cp) now cnt) (n2 (n2 (n2 (n2 (n0 (aO l0)) am (n0 am)) am (n2 (n0 (aE 1 2 3)) (nX 43 4 44 3) .leaf)) (eX 8 4 9 10 0 11 12) (n2 (n2 (n0 (aO l1)) (ig 40 3 2 41 k3 b2 com2 42) .leaf) (bm true 34 4) (n2 (n0 (aE 1 2 3)) am .leaf))) (Bc true) (n2 (n2 (n2 (n0 am) (nX 38 4 39 3) .leaf) (bu 0) (n2 (n0 (cP 1 d2_0 2 d2_1 3 d2_2)) (ig 45 3 3 46 k4 b3 com3 47) .leaf)) (nU 19 3 20 21 2 22 4 23 u2 24) (n2 (n2 (n0 am) am .leaf) (ig 35 3 1 36 k2 b1 com1 37) (n2 (n0 (aO l3)) (nX 48 4 49 3) .leaf)))))
noncomputable abbrev dv (l0:List Ke) (com0 g0 g1 g2 g3:Int) (l1:List Ke) (com1 b1 u c0 c1 c2:Int) (l2:List Ke) (com2 b2 u2 d2_0 d2_1 d2_2:Int) (l3:List Ke) (com3 b3 u3 d3_0 d3_1 d3_2:Int) (L:List Fx) (a o cp:Nat) (now cnt:Int):T:=Hd l0 com0 g0 g1 g2 g3 l1 com1 b1 u c0 c1 c2 l2 com2 b2 u2 d2_0 d2_1 d2_2 l3 com3 b3 u3 d3_0 d3_1 d3_2 L a o cp now cnt (L.length - a) l0.length l1.length l2.length l3.length
def adM:XF:=DB
theorem adL:bN Tryz.prog 28 adM=true:=by kernel_rfl
structure lR where (l0:List Ke) (com0 g0 g1 g2 g3:Int) (l1:List Ke) (com1:Int) (l2:List Ke) (com2:Int) (l3:List Ke) (com3:Int) (L:List Fx) (a o cp:Nat) (now cnt:Int)
abbrev acF:=Ue
def tI (p:lR) (r:acF):Prop:=r.tq=p.l1∧Ap r.L r.a p.L p.a [(⟨1,0,5,1,0,0,257,0,(.slice none 0 0),[],(.slice none 0 0),[],(.slice none 0 0),[],(.slice none 0 0),[]⟩:Fx),(⟨1,2,5,1,0,0,257,0,(.slice none 0 0),[],(.slice none 0 0),[],(.slice none 0 0),[],(.slice none 0 0),[]⟩:Fx),(⟨1,3,5,1,0,0,257,0,(.slice none 0 0),[],(.slice none 0 0),[],(.slice none 0 0),[],(.slice none 0 0),[]⟩:Fx)]
noncomputable def aif (p:lR):IE:=([.ptr 0 0,.int 0 (.ofNat 1)],(acC p.l0 p.com0 p.g0 p.g1 p.g2 p.g3 p.l1 p.com1 p.l2 p.com2 p.l3 p.com3 p.L p.a p.o p.cp p.now p.cnt),47)
noncomputable def adD (p:lR) (K:KE) (r:acF):Bool:=K (.tup []) (BE p.l0 p.com0 p.g0 p.g1 p.g2 p.g3 p.l1 p.com1 (p.now+1) (p.now+1+10) r.hq r.tq p.l2 p.com2 p.l3 p.com3 r.L r.a r.o r.cp (p.now+1) p.cnt) 50
noncomputable def YH (p:lR) (K:KE):Bool:=ae fun r=>iP (tI p r) (adD p K r) true
def Gv (p:lR):Prop:=Bs p.now p.L p.a∧1≤p.now∧p.l1.length≤400
theorem GJ {p:lR} {K:KE} (hK:YH p K=true) {r:acF} (h:tI p r):adD p K r=true:=ax h (aq hK r)
theorem akz:Vf Gv YH 1 Rz aJ adM aif:=by
 intro p K hpre hK
 refine Eq.trans (b:=(mP (aI 0 (p.now+1)) (ay aih Gx DM ⟨p.l1,p.com1,p.now+1⟩ fun p1 r1=>iP (((p.L.length - p.a:Nat):Int)<(400:Int)) (mE (.psub 3 33 p.a (p.L.length - p.a) p.o (some p.cp)) (mP (p.a+(p.L.length - p.a)=p.L.length) (aM fun m1:List Fx=>mP (bg (m1.map dA) (QR 1 0 5 [])) (mP (bQ 232 (p.L.length+m1.length)) (ae fun L1:List Fx=>ae fun d1:Nat=>ae fun o1:Nat=>ae fun u1:Nat=>iP (d1≤L1.length∧L1.length≤p.L.length+m1.length∧L1.drop d1=p.L.drop p.a++m1) (iP (((L1.length - d1:Nat):Int)<(400:Int)) (mE (.psub 63 33 d1 (L1.length - d1) o1 (some u1)) (mP (d1+(L1.length - d1)=L1.length) (aM fun m2:List Fx=>mP (bg (m2.map dA) (QR 1 2 5 [])) (mP (bQ 232 (L1.length+m2.length)) (ae fun L2:List Fx=>ae fun d2:Nat=>ae fun o2:Nat=>ae fun u2:Nat=>iP (d2≤L2.length∧L2.length≤L1.length+m2.length∧L2.drop d2=L1.drop d1++m2) (iP (((L2.length - d2:Nat):Int)<(400:Int)) (mE (.psub 65 33 d2 (L2.length - d2) o2 (some u2)) (mP (d2+(L2.length - d2)=L2.length) (aM fun m3:List Fx=>mP (bg (m3.map dA) (QR 1 3 5 [])) (mP (bQ 232 (L2.length+m3.length)) (ae fun L3:List Fx=>ae fun d3:Nat=>ae fun o3:Nat=>ae fun u3:Nat=>iP (d3≤L3.length∧L3.length≤L2.length+m3.length∧L3.drop d3=L2.drop d2++m3) (K (.tup []) (BE p.l0 p.com0 p.g0 p.g1 p.g2 p.g3 p1.l1 p1.com1 p1.now (p1.now+10) r1.hq r1.tq p.l2 p.com2 p.l3 p.com3 L3 d3 o3 u3 (p.now+1) p.cnt) 50) true))))) (K (.tup []) (BE p.l0 p.com0 p.g0 p.g1 p.g2 p.g3 p1.l1 p1.com1 p1.now (p1.now+10) r1.hq r1.tq p.l2 p.com2 p.l3 p.com3 L2 d2 o2 u2 (p.now+1) p.cnt) 50)) true))))) (K (.tup []) (BE p.l0 p.com0 p.g0 p.g1 p.g2 p.g3 p1.l1 p1.com1 p1.now (p1.now+10) r1.hq r1.tq p.l2 p.com2 p.l3 p.com3 L1 d1 o1 u1 (p.now+1) p.cnt) 50)) true))))) (K (.tup []) (BE p.l0 p.com0 p.g0 p.g1 p.g2 p.g3 p1.l1 p1.com1 p1.now (p1.now+10) r1.hq r1.tq p.l2 p.com2 p.l3 p.com3 p.L p.a p.o p.cp (p.now+1) p.cnt) 50)))) (by kernel_rfl) ?_
 dsimp only[Gv]at hpre
 obtain⟨⟨n0,n1,n2,n3,n4⟩,hx⟩:=hpre
 obtain⟨hx1,hx2⟩:=hx
 refine dc ?_
 refine aF (by(try dsimp only[Gx]);repeat(first|assumption|omega|apply And.intro)) fun r1 hi1=> ?_
 dsimp only[DM]at hi1 ⊢
 have hv:=hi1
 apply iI<;>intro hc2
 refine aH (aX ?_)
 refine aR ([⟨1,0,5,1,0,0,257,0,(.slice none 0 0),[],(.slice none 0 0),[],(.slice none 0 0),[],(.slice none 0 0),[]⟩]:List Fx) ?_
 refine fv (eU ?_)
 refine ac fun L1=> ?_
 refine ac fun d1=> ?_
 refine ac fun o1=> ?_
 refine ac fun u1=> ?_
 refine iJ fun hi3=> ?_
 have apL1:=fw hi3
 have lnL1:=apL1.len
 apply iI<;>intro hc4
 refine aH (aX ?_)
 refine aR ([⟨1,2,5,1,0,0,257,0,(.slice none 0 0),[],(.slice none 0 0),[],(.slice none 0 0),[],(.slice none 0 0),[]⟩]:List Fx) ?_
 refine fv (eU ?_)
 refine ac fun L2=> ?_
 refine ac fun d2=> ?_
 refine ac fun o2=> ?_
 refine ac fun u2=> ?_
 refine iJ fun hi5=> ?_
 have apL2:=fw hi5
 have lnL2:=apL2.len
 apply iI<;>intro hc6
 refine aH (aX ?_)
 refine aR ([⟨1,3,5,1,0,0,257,0,(.slice none 0 0),[],(.slice none 0 0),[],(.slice none 0 0),[],(.slice none 0 0),[]⟩]:List Fx) ?_
 refine fv (eU ?_)
 refine ac fun L3=> ?_
 refine ac fun d3=> ?_
 refine ac fun o3=> ?_
 refine ac fun u3=> ?_
 refine iJ fun hi7=> ?_
 have apL3:=fw hi7
 have lnL3:=apL3.len
 exact GJ (r:=⟨r1.hq,r1.tq,L3,d3,o3,u3⟩) hK (by dsimp only[tI]<;>(first|(exfalso;omega)|(exfalso;simp only[apw,apy]at*;omega)|(have ap:=((apL1).trans apL2).trans apL3;(try simp only[apC,apD]at ap);exact⟨by assumption,ap⟩)))
 exact GJ (r:=⟨r1.hq,r1.tq,L2,d2,o2,u2⟩) hK (by dsimp only[tI]<;>(first|(exfalso;omega)|(exfalso;simp only[apw,apy]at*;omega)|(have ap:=(apL1).trans apL2;(try simp only[apC,apD]at ap);exact⟨by assumption,ap⟩)))
 exact GJ (r:=⟨r1.hq,r1.tq,L1,d1,o1,u1⟩) hK (by dsimp only[tI]<;>(first|(exfalso;omega)|(exfalso;simp only[apw,apy]at*;omega)|(have ap:=apL1;(try simp only[apC,apD]at ap);exact⟨by assumption,ap⟩)))
 exact GJ (r:=⟨r1.hq,r1.tq,p.L,p.a,p.o,p.cp⟩) hK (by dsimp only[tI]<;>(first|(exfalso;omega)|(exfalso;simp only[apw,apy]at*;omega)|(have ap:=Ap.nil (by omega);(try simp only[apC,apD]at ap);exact⟨by assumption,ap⟩)))
noncomputable def nc_zt4:EE 28 1:=bA (fun us M=>Nat.beq (zC M 5 1) 1) (nE adL akz) eS
noncomputable def YQ:NN:=bB Rz nc_zt4.2 [(0,4),(1,1)] (fun us=>Nat.beq (gi us 1) 1)
def hZ:XF:=DA
theorem eY:bN Tryz.prog 29 hZ=true:=by kernel_rfl
structure vC where (l0:List Ke) (com0 g0 g1 g2 g3:Int) (l1:List Ke) (com1 t u:Int) (hq:Value) (tq l2:List Ke) (com2:Int) (l3:List Ke) (com3:Int) (L:List Fx) (a o cp:Nat) (now cnt x_n x_c:Int) (x_vh:Value) (x_vl:List Int) (x_mh:Value) (x_ml:List Int) (x_h:Value) (x_l:List Ke) (x_th:Value) (x_tl:List Ke)
abbrev OT:=eJ
def rz (p:vC) (r:OT):Prop:=∃h,Ap r.L r.a p.L p.a [(⟨2,1,8,1,0,0,257,0,(.slice none 0 0),[],(.slice none 0 0),[],h,p.l2,(.slice none 0 0),[]⟩:Fx)]
noncomputable def Zz (p:vC):IE:=([.ptr 0 0,hU 1 2 5 1 p.x_n p.x_c 257 [] 0 p.x_vh p.x_vl p.x_mh p.x_ml p.x_h p.x_l p.x_th p.x_tl],(BE p.l0 p.com0 p.g0 p.g1 p.g2 p.g3 p.l1 p.com1 p.t p.u p.hq p.tq p.l2 p.com2 p.l3 p.com3 p.L p.a p.o p.cp p.now p.cnt),50)
noncomputable def Vo (p:vC) (K:KE) (r:OT):Bool:=K (.tup []) (NC p.l0 p.com0 p.g0 p.g1 p.g2 p.g3 p.l1 p.com1 p.t p.u p.hq p.tq p.l2 p.com2 p.now p.l3 p.com3 r.L r.a r.o r.cp p.now p.cnt) 50
noncomputable def Qj (p:vC) (K:KE):Bool:=ae fun r=>iP (rz p r) (Vo p K r) true
def yy (p:vC):Prop:=Bs p.now p.L p.a∧p.x_vl=[]∧p.x_ml=[]∧p.x_l=[]∧p.x_tl=[]∧p.x_n=0∧p.x_c=0∧p.l2.length≤400
theorem Si {p:vC} {K:KE} (hK:Qj p K=true) {r:OT} (h:rz p r):Vo p K r=true:=ax h (aq hK r)
theorem aeO:Vf yy Qj 1 YQ aJ hZ Zz:=by
 intro p K hpre hK
 refine Eq.trans (b:=(mE (.int 0 p.now) (aa (qL [qI 3 p.x_n,qI 3 p.x_c,qY ((.imm p.x_vh 2 Int p.x_vl aG)),qY ((.imm p.x_mh 2 Int p.x_ml aG)),qY ((.imm p.x_h 18 Ke p.x_l au)),qY ((.imm p.x_th 18 Ke p.x_tl au))]) (ay ZQ yQ wI ⟨p.l2,p.com2,p.x_n,p.x_c,p.x_vh,p.x_vl,p.x_mh,p.x_ml,p.x_h,p.x_l,p.x_th,p.x_tl,p.now⟩ fun p1 r1=>iP (((p.L.length - p.a:Nat):Int)<(400:Int)) (mE (.psub 3 33 p.a (p.L.length - p.a) p.o (some p.cp)) (mP (p.a+(p.L.length - p.a)=p.L.length) (aM fun m1:List Fx=>mP (bg (m1.map dA) (o_L 2 [] r1.h r1.e)) (mP (bQ 232 (p.L.length+m1.length)) (ae fun L1:List Fx=>ae fun d1:Nat=>ae fun o1:Nat=>ae fun u1:Nat=>iP (d1≤L1.length∧L1.length≤p.L.length+m1.length∧L1.drop d1=p.L.drop p.a++m1) (K (.tup []) (NC p.l0 p.com0 p.g0 p.g1 p.g2 p.g3 p.l1 p.com1 p.t p.u p.hq p.tq p1.l2 p1.com2 p1.now p.l3 p.com3 L1 d1 o1 u1 p.now p.cnt) 50) true))))) (K (.tup []) (NC p.l0 p.com0 p.g0 p.g1 p.g2 p.g3 p.l1 p.com1 p.t p.u p.hq p.tq p1.l2 p1.com2 p1.now p.l3 p.com3 p.L p.a p.o p.cp p.now p.cnt) 50))))) (by kernel_rfl) ?_
 dsimp only[yy]at hpre
 obtain⟨⟨n0,n1,n2,n3,n4⟩,hx⟩:=hpre
 obtain⟨hx1,hx2,hx3,hx4,hx5,hx6,hx7⟩:=hx
 refine aH ?_
 refine cq ?_
 refine aF (by(try dsimp only[yQ]);repeat(first|assumption|omega|apply And.intro)) fun r1 hi1=> ?_
 dsimp only[wI]at hi1 ⊢
 have hv:=hi1
 apply iI<;>intro hc2
 refine aH (aX ?_)
 refine aR ([⟨2,1,8,1,0,0,257,0,(.slice none 0 0),[],(.slice none 0 0),[],r1.h,r1.e,(.slice none 0 0),[]⟩]:List Fx) ?_
 refine fv (eU ?_)
 refine ac fun L1=> ?_
 refine ac fun d1=> ?_
 refine ac fun o1=> ?_
 refine ac fun u1=> ?_
 refine iJ fun hi3=> ?_
 have apL1:=fw hi3
 have lnL1:=apL1.len
 exact Si (r:=⟨L1,d1,o1,u1⟩) hK (by dsimp only[rz]<;>(first|(exfalso;omega)|(exfalso;simp only[apw,apy]at*;omega)|(have ap:=apL1;(try simp only[apC,apD]at ap);(first|(rw[hv]at ap)|(rw[hv.1]at ap));exact⟨_,ap⟩)))
 exact Si (r:=⟨p.L,p.a,p.o,p.cp⟩) hK (by dsimp only[rz]<;>(first|(exfalso;omega)|(exfalso;simp only[apw,apy]at*;omega)|(have ap:=Ap.nil (by omega);(try simp only[apC,apD]at ap);(first|(rw[hv]at ap)|(rw[hv.1]at ap));exact⟨_,ap⟩)))
noncomputable def Rb:NN:=bB YQ (nE eY aeO) [(0,4),(1,15)] (fun us=>aA (aA (Nat.beq (aC us 1 0) 1) (Nat.beq (aC us 1 1) 2)) (Nat.beq (aC us 1 2) 5))
structure vB where (l0:List Ke) (com0 g0 g1 g2 g3:Int) (l1:List Ke) (com1 t u:Int) (hq:Value) (tq l2:List Ke) (com2 t2:Int) (l3:List Ke) (com3:Int) (L:List Fx) (a o cp:Nat) (now cnt x_n x_c:Int) (x_vh:Value) (x_vl:List Int) (x_mh:Value) (x_ml:List Int) (x_h:Value) (x_l:List Ke) (x_th:Value) (x_tl:List Ke)
abbrev OS:=eJ
def ry (p:vB) (r:OS):Prop:=∃h,Ap r.L r.a p.L p.a [(⟨3,1,8,1,0,0,257,0,(.slice none 0 0),[],(.slice none 0 0),[],h,p.l3,(.slice none 0 0),[]⟩:Fx)]
noncomputable def Zy (p:vB):IE:=([.ptr 0 0,hU 1 3 5 1 p.x_n p.x_c 257 [] 0 p.x_vh p.x_vl p.x_mh p.x_ml p.x_h p.x_l p.x_th p.x_tl],(NC p.l0 p.com0 p.g0 p.g1 p.g2 p.g3 p.l1 p.com1 p.t p.u p.hq p.tq p.l2 p.com2 p.t2 p.l3 p.com3 p.L p.a p.o p.cp p.now p.cnt),50)
noncomputable def Vm (p:vB) (K:KE) (r:OS):Bool:=K (.tup []) (ND p.l0 p.com0 p.g0 p.g1 p.g2 p.g3 p.l1 p.com1 p.t p.u p.hq p.tq p.l2 p.com2 p.t2 p.l3 p.com3 p.now r.L r.a r.o r.cp p.now p.cnt) 50
noncomputable def Qi (p:vB) (K:KE):Bool:=ae fun r=>iP (ry p r) (Vm p K r) true
def yx (p:vB):Prop:=Bs p.now p.L p.a∧p.x_vl=[]∧p.x_ml=[]∧p.x_l=[]∧p.x_tl=[]∧p.x_n=0∧p.x_c=0∧p.l3.length≤400
theorem Sg {p:vB} {K:KE} (hK:Qi p K=true) {r:OS} (h:ry p r):Vm p K r=true:=ax h (aq hK r)
theorem aeN:Vf yx Qi 1 Rb aJ hZ Zy:=by
 intro p K hpre hK
 refine Eq.trans (b:=(mE (.int 0 p.now) (aa (qL [qI 3 p.x_n,qI 3 p.x_c,qY ((.imm p.x_vh 2 Int p.x_vl aG)),qY ((.imm p.x_mh 2 Int p.x_ml aG)),qY ((.imm p.x_h 18 Ke p.x_l au)),qY ((.imm p.x_th 18 Ke p.x_tl au))]) (ay ZP yP wH ⟨p.l3,p.com3,p.x_n,p.x_c,p.x_vh,p.x_vl,p.x_mh,p.x_ml,p.x_h,p.x_l,p.x_th,p.x_tl,p.now⟩ fun p1 r1=>iP (((p.L.length - p.a:Nat):Int)<(400:Int)) (mE (.psub 3 33 p.a (p.L.length - p.a) p.o (some p.cp)) (mP (p.a+(p.L.length - p.a)=p.L.length) (aM fun m1:List Fx=>mP (bg (m1.map dA) (o_L 3 [] r1.h r1.e)) (mP (bQ 232 (p.L.length+m1.length)) (ae fun L1:List Fx=>ae fun d1:Nat=>ae fun o1:Nat=>ae fun u1:Nat=>iP (d1≤L1.length∧L1.length≤p.L.length+m1.length∧L1.drop d1=p.L.drop p.a++m1) (K (.tup []) (ND p.l0 p.com0 p.g0 p.g1 p.g2 p.g3 p.l1 p.com1 p.t p.u p.hq p.tq p.l2 p.com2 p.t2 p1.l3 p1.com3 p1.now L1 d1 o1 u1 p.now p.cnt) 50) true))))) (K (.tup []) (ND p.l0 p.com0 p.g0 p.g1 p.g2 p.g3 p.l1 p.com1 p.t p.u p.hq p.tq p.l2 p.com2 p.t2 p1.l3 p1.com3 p1.now p.L p.a p.o p.cp p.now p.cnt) 50))))) (by kernel_rfl) ?_
 dsimp only[yx]at hpre
 obtain⟨⟨n0,n1,n2,n3,n4⟩,hx⟩:=hpre
 obtain⟨hx1,hx2,hx3,hx4,hx5,hx6,hx7⟩:=hx
 refine aH ?_
 refine cq ?_
 refine aF (by(try dsimp only[yP]);repeat(first|assumption|omega|apply And.intro)) fun r1 hi1=> ?_
 dsimp only[wH]at hi1 ⊢
 have hv:=hi1
 apply iI<;>intro hc2
 refine aH (aX ?_)
 refine aR ([⟨3,1,8,1,0,0,257,0,(.slice none 0 0),[],(.slice none 0 0),[],r1.h,r1.e,(.slice none 0 0),[]⟩]:List Fx) ?_
 refine fv (eU ?_)
 refine ac fun L1=> ?_
 refine ac fun d1=> ?_
 refine ac fun o1=> ?_
 refine ac fun u1=> ?_
 refine iJ fun hi3=> ?_
 have apL1:=fw hi3
 have lnL1:=apL1.len
 exact Sg (r:=⟨L1,d1,o1,u1⟩) hK (by dsimp only[ry]<;>(first|(exfalso;omega)|(exfalso;simp only[apw,apy]at*;omega)|(have ap:=apL1;(try simp only[apC,apD]at ap);(first|(rw[hv]at ap)|(rw[hv.1]at ap));exact⟨_,ap⟩)))
 exact Sg (r:=⟨p.L,p.a,p.o,p.cp⟩) hK (by dsimp only[ry]<;>(first|(exfalso;omega)|(exfalso;simp only[apw,apy]at*;omega)|(have ap:=Ap.nil (by omega);(try simp only[apC,apD]at ap);(first|(rw[hv]at ap)|(rw[hv.1]at ap));exact⟨_,ap⟩)))
noncomputable def Ra:NN:=bB Rb (nE eY aeN) [(0,4),(1,15)] (fun us=>aA (aA (Nat.beq (aC us 1 0) 1) (Nat.beq (aC us 1 1) 3)) (Nat.beq (aC us 1 2) 5))
structure rR where (l0:List Ke) (com0 g0 g1 g2 g3:Int) (l1:List Ke) (com1 t u:Int) (hq:Value) (tq l2:List Ke) (com2 t2:Int) (l3:List Ke) (com3 t3:Int) (L:List Fx) (a o cp:Nat) (now cnt x_n x_c:Int) (x_vh:Value) (x_vl:List Int) (x_mh:Value) (x_ml:List Int) (x_h:Value) (x_l:List Ke) (x_th:Value) (x_tl:List Ke)
abbrev OR:=eJ
def wA (p:rR) (r:OR):Prop:=Ap r.L r.a p.L p.a []
noncomputable def Zw (p:rR):IE:=([.ptr 0 0,hU 2 1 8 1 p.x_n p.x_c 257 [] 0 p.x_vh p.x_vl p.x_mh p.x_ml p.x_h p.x_l p.x_th p.x_tl],(ND p.l0 p.com0 p.g0 p.g1 p.g2 p.g3 p.l1 p.com1 p.t p.u p.hq p.tq p.l2 p.com2 p.t2 p.l3 p.com3 p.t3 p.L p.a p.o p.cp p.now p.cnt),50)
noncomputable def Lg (p:rR) (K:KE) (r:OR):Bool:=K (.tup []) (aeF p.l0 p.com0 p.g0 p.g1 p.g2 p.g3 p.l1 p.com1 p.t p.u p.hq p.tq p.l2 p.com2 p.t2 p.l3 p.com3 p.t3 r.L r.a r.o r.cp p.now p.cnt) 50
noncomputable def Qg (p:rR) (K:KE):Bool:=ae fun r=>iP (wA p r) (Lg p K r) true
def yu (p:rR):Prop:=Bs p.now p.L p.a∧p.x_vl=[]∧p.x_ml=[]∧p.x_tl=[]∧p.x_n=0∧p.x_c=0∧p.x_l.length=p.tq.length∧bF p.x_l∧p.x_l.length≤400
theorem adV {p:rR} {K:KE} (hK:Qg p K=true) {r:OR} (h:wA p r):Lg p K r=true:=ax h (aq hK r)
theorem aeL:Vf yu Qg 1 Ra aJ hZ Zw:=by
 intro p K hpre hK
 refine Eq.trans (b:=(mE (.int 0 p.now) (aa (qL [qI 3 p.x_n,qI 3 p.x_c,qY ((.imm p.x_vh 2 Int p.x_vl aG)),qY ((.imm p.x_mh 2 Int p.x_ml aG)),qY ((.imm p.x_h 18 Ke p.x_l au)),qY ((.imm p.x_th 18 Ke p.x_tl au))]) (aL ZN yN ⟨p.l1,p.com1,p.t,p.u,p.hq,p.tq,p.x_n,p.x_c,p.x_vh,p.x_vl,p.x_mh,p.x_ml,p.x_h,p.x_l,p.x_th,p.x_tl,p.now⟩ fun p1=>Lg {p with l1:=p1.l1,com1:=p1.com1,t:=p1.t,u:=p1.u,hq:=p1.hq,tq:=p1.tq} K ⟨p.L,p.a,p.o,p.cp⟩)))) (by kernel_rfl) ?_
 dsimp only[yu]at hpre
 obtain⟨⟨n0,n1,n2,n3,n4⟩,hx⟩:=hpre
 obtain⟨hx1,hx2,hx3,hx4,hx5,hx6,hx7,hx8⟩:=hx
 refine aH ?_
 refine cq ?_
 refine aV (by(try dsimp only[yN]);repeat(first|assumption|omega|apply And.intro)) ?_
 dsimp only
 exact adV (p:=p) hK (by dsimp only[wA]<;>(first|(exfalso;omega)|(exfalso;simp only[apw,apy]at*;omega)|(have ap:=Ap.nil (by omega);(try simp only[apC,apD]at ap);exact ap)))
noncomputable def QY:NN:=bB Ra (nE eY aeL) [(0,4),(1,15)] (fun us=>aA (aA (Nat.beq (aC us 1 0) 2) (Nat.beq (aC us 1 1) 1)) (Nat.beq (aC us 1 2) 8))
abbrev vz:=rR
abbrev OQ:=Hf
def lY (p:vz) (r:OQ):Prop:=r.cm=[(1:Int),(2:Int),(3:Int)]∧r.ct=p.tq∧∃hm ht,Ap r.L r.a p.L p.a [(⟨1,0,9,1,0,0,257,0,(.slice none 0 0),[],hm,[(1:Int),(2:Int),(3:Int)],(.slice none 0 0),[],ht,p.tq⟩:Fx),(⟨1,2,9,1,0,0,257,0,(.slice none 0 0),[],hm,[(1:Int),(2:Int),(3:Int)],(.slice none 0 0),[],ht,p.tq⟩:Fx),(⟨1,3,9,1,0,0,257,0,(.slice none 0 0),[],hm,[(1:Int),(2:Int),(3:Int)],(.slice none 0 0),[],ht,p.tq⟩:Fx)]
noncomputable def Zv (p:vz):IE:=([.ptr 0 0,hU 3 1 8 1 p.x_n p.x_c 257 [] 0 p.x_vh p.x_vl p.x_mh p.x_ml p.x_h p.x_l p.x_th p.x_tl],(aeF p.l0 p.com0 p.g0 p.g1 p.g2 p.g3 p.l1 p.com1 p.t p.u p.hq p.tq p.l2 p.com2 p.t2 p.l3 p.com3 p.t3 p.L p.a p.o p.cp p.now p.cnt),50)
noncomputable def rF (p:vz) (K:KE) (r:OQ):Bool:=K (.tup []) (aeC p.l0 p.com0 p.g0 p.g1 p.g2 p.g3 p.l1 p.com1 p.t p.u p.hq p.tq r.hcm r.cm r.hct r.ct r.ham r.aw r.hat r.av p.l2 p.com2 p.t2 p.l3 p.com3 p.t3 r.L r.a r.o r.cp p.now p.cnt) 50
noncomputable def Qf (p:vz) (K:KE):Bool:=ae fun r=>iP (lY p r) (rF p K r) true
def yt (p:vz):Prop:=Bs p.now p.L p.a∧p.x_vl=[]∧p.x_ml=[]∧p.x_tl=[]∧p.x_n=0∧p.x_c=0∧p.x_l.length=p.tq.length∧bF p.x_l∧p.x_l.length≤400
theorem zG {p:vz} {K:KE} (hK:Qf p K=true) {r:OQ} (h:lY p r):rF p K r=true:=ax h (aq hK r)
theorem aeK:Vf yt Qf 1 QY aJ hZ Zv:=by
 intro p K hpre hK
 refine Eq.trans (b:=(mE (.int 0 p.now) (aa (qL [qI 3 p.x_n,qI 3 p.x_c,qY ((.imm p.x_vh 2 Int p.x_vl aG)),qY ((.imm p.x_mh 2 Int p.x_ml aG)),qY ((.imm p.x_h 18 Ke p.x_l au)),qY ((.imm p.x_th 18 Ke p.x_tl au))]) (ay ZM yM wF ⟨p.l1,p.com1,p.t,p.u,p.hq,p.tq,p.x_n,p.x_c,p.x_vh,p.x_vl,p.x_mh,p.x_ml,p.x_h,p.x_l,p.x_th,p.x_tl,p.now⟩ fun p1 r1=>iP (((p.L.length - p.a:Nat):Int)<(400:Int)) (mE (.psub 3 33 p.a (p.L.length - p.a) p.o (some p.cp)) (mP (p.a+(p.L.length - p.a)=p.L.length) (aM fun m1:List Fx=>mP (bg (m1.map dA) (o_C 0 [] r1.hm r1.mm r1.ht r1.tt)) (mP (bQ 232 (p.L.length+m1.length)) (ae fun L1:List Fx=>ae fun d1:Nat=>ae fun o1:Nat=>ae fun u1:Nat=>iP (d1≤L1.length∧L1.length≤p.L.length+m1.length∧L1.drop d1=p.L.drop p.a++m1) (iP (((L1.length - d1:Nat):Int)<(400:Int)) (mE (.psub 68 33 d1 (L1.length - d1) o1 (some u1)) (mP (d1+(L1.length - d1)=L1.length) (aM fun m2:List Fx=>mP (bg (m2.map dA) (o_C 2 [] r1.hm r1.mm r1.ht r1.tt)) (mP (bQ 232 (L1.length+m2.length)) (ae fun L2:List Fx=>ae fun d2:Nat=>ae fun o2:Nat=>ae fun u2:Nat=>iP (d2≤L2.length∧L2.length≤L1.length+m2.length∧L2.drop d2=L1.drop d1++m2) (iP (((L2.length - d2:Nat):Int)<(400:Int)) (mE (.psub 70 33 d2 (L2.length - d2) o2 (some u2)) (mP (d2+(L2.length - d2)=L2.length) (aM fun m3:List Fx=>mP (bg (m3.map dA) (o_C 3 [] r1.hm r1.mm r1.ht r1.tt)) (mP (bQ 232 (L2.length+m3.length)) (ae fun L3:List Fx=>ae fun d3:Nat=>ae fun o3:Nat=>ae fun u3:Nat=>iP (d3≤L3.length∧L3.length≤L2.length+m3.length∧L3.drop d3=L2.drop d2++m3) (rF {p with l1:=p1.l1,com1:=p1.com1,t:=p1.t,u:=p1.u,hq:=p1.hq,tq:=p1.tq} K ⟨r1.hcm,r1.cm,r1.hct,r1.ct,r1.ham,r1.aw,r1.hat,r1.av,L3,d3,o3,u3⟩) true))))) (rF {p with l1:=p1.l1,com1:=p1.com1,t:=p1.t,u:=p1.u,hq:=p1.hq,tq:=p1.tq} K ⟨r1.hcm,r1.cm,r1.hct,r1.ct,r1.ham,r1.aw,r1.hat,r1.av,L2,d2,o2,u2⟩)) true))))) (rF {p with l1:=p1.l1,com1:=p1.com1,t:=p1.t,u:=p1.u,hq:=p1.hq,tq:=p1.tq} K ⟨r1.hcm,r1.cm,r1.hct,r1.ct,r1.ham,r1.aw,r1.hat,r1.av,L1,d1,o1,u1⟩)) true))))) (rF {p with l1:=p1.l1,com1:=p1.com1,t:=p1.t,u:=p1.u,hq:=p1.hq,tq:=p1.tq} K ⟨r1.hcm,r1.cm,r1.hct,r1.ct,r1.ham,r1.aw,r1.hat,r1.av,p.L,p.a,p.o,p.cp⟩))))) (by kernel_rfl) ?_
 dsimp only[yt]at hpre
 obtain⟨⟨n0,n1,n2,n3,n4⟩,hx⟩:=hpre
 obtain⟨hx1,hx2,hx3,hx4,hx5,hx6,hx7,hx8⟩:=hx
 refine aH ?_
 refine cq ?_
 refine aF (by(try dsimp only[yM]);repeat(first|assumption|omega|apply And.intro)) fun r1 hi1=> ?_
 dsimp only[wF]at hi1 ⊢
 have hv:=hi1
 apply iI<;>intro hc2
 refine aH (aX ?_)
 refine aR ([⟨1,0,9,1,0,0,257,0,(.slice none 0 0),[],r1.hm,r1.mm,(.slice none 0 0),[],r1.ht,r1.tt⟩]:List Fx) ?_
 refine fv (eU ?_)
 refine ac fun L1=> ?_
 refine ac fun d1=> ?_
 refine ac fun o1=> ?_
 refine ac fun u1=> ?_
 refine iJ fun hi3=> ?_
 have apL1:=fw hi3
 have lnL1:=apL1.len
 apply iI<;>intro hc4
 refine aH (aX ?_)
 refine aR ([⟨1,2,9,1,0,0,257,0,(.slice none 0 0),[],r1.hm,r1.mm,(.slice none 0 0),[],r1.ht,r1.tt⟩]:List Fx) ?_
 refine fv (eU ?_)
 refine ac fun L2=> ?_
 refine ac fun d2=> ?_
 refine ac fun o2=> ?_
 refine ac fun u2=> ?_
 refine iJ fun hi5=> ?_
 have apL2:=fw hi5
 have lnL2:=apL2.len
 apply iI<;>intro hc6
 refine aH (aX ?_)
 refine aR ([⟨1,3,9,1,0,0,257,0,(.slice none 0 0),[],r1.hm,r1.mm,(.slice none 0 0),[],r1.ht,r1.tt⟩]:List Fx) ?_
 refine fv (eU ?_)
 refine ac fun L3=> ?_
 refine ac fun d3=> ?_
 refine ac fun o3=> ?_
 refine ac fun u3=> ?_
 refine iJ fun hi7=> ?_
 have apL3:=fw hi7
 have lnL3:=apL3.len
 exact zG (p:=p) hK (by dsimp only[lY]<;>(first|(exfalso;omega)|(exfalso;simp only[apw,apy]at*;omega)|(have ap:=((apL1).trans apL2).trans apL3;(try simp only[apC,apD]at ap);(rw[hv.2.2.1,hv.2.2.2]at ap;exact⟨hv.1,hv.2.1,_,_,ap⟩))))
 exact zG (p:=p) hK (by dsimp only[lY]<;>(first|(exfalso;omega)|(exfalso;simp only[apw,apy]at*;omega)|(have ap:=(apL1).trans apL2;(try simp only[apC,apD]at ap);(rw[hv.2.2.1,hv.2.2.2]at ap;exact⟨hv.1,hv.2.1,_,_,ap⟩))))
 exact zG (p:=p) hK (by dsimp only[lY]<;>(first|(exfalso;omega)|(exfalso;simp only[apw,apy]at*;omega)|(have ap:=apL1;(try simp only[apC,apD]at ap);(rw[hv.2.2.1,hv.2.2.2]at ap;exact⟨hv.1,hv.2.1,_,_,ap⟩))))
 exact zG (p:=p) hK (by dsimp only[lY]<;>(first|(exfalso;omega)|(exfalso;simp only[apw,apy]at*;omega)|(have ap:=Ap.nil (by omega);(try simp only[apC,apD]at ap);(rw[hv.2.2.1,hv.2.2.2]at ap;exact⟨hv.1,hv.2.1,_,_,ap⟩))))
noncomputable def QX:NN:=bB QY (nE eY aeK) [(0,4),(1,15)] (fun us=>aA (aA (Nat.beq (aC us 1 0) 3) (Nat.beq (aC us 1 1) 1)) (Nat.beq (aC us 1 2) 8))
structure vF where (l0:List Ke) (com0 g0 g1 g2 g3:Int) (l1:List Ke) (com1 t u:Int) (hq:Value) (tq:List Ke) (hcm:Value) (cm:List Int) (hct:Value) (ct:List Ke) (ham:Value) (aw:List Int) (hat:Value) (av l2:List Ke) (com2 t2:Int) (l3:List Ke) (com3 t3:Int) (L:List Fx) (a o cp:Nat) (now cnt x_n x_c:Int) (x_vh:Value) (x_vl:List Int) (x_mh:Value) (x_ml:List Int) (x_h:Value) (x_l:List Ke) (x_th:Value) (x_tl:List Ke)
abbrev OV:=Hg
def rC (p:vF) (r:OV):Prop:=Ap r.L r.a p.L p.a [(⟨2,1,6,1,0,0,257,0,(.slice none 0 0),[],(.slice none 0 0),[],(.slice none 0 0),[],(.slice none 0 0),[]⟩:Fx)]
noncomputable def ZC (p:vF):IE:=([.ptr 0 0,hU 1 2 9 1 p.x_n p.x_c 257 [] 0 p.x_vh p.x_vl p.x_mh p.x_ml p.x_h p.x_l p.x_th p.x_tl],(aeC p.l0 p.com0 p.g0 p.g1 p.g2 p.g3 p.l1 p.com1 p.t p.u p.hq p.tq p.hcm p.cm p.hct p.ct p.ham p.aw p.hat p.av p.l2 p.com2 p.t2 p.l3 p.com3 p.t3 p.L p.a p.o p.cp p.now p.cnt),50)
noncomputable def Cg (p:vF) (K:KE) (r:OV):Bool:=K (.tup []) (aeD p.l0 p.com0 p.g0 p.g1 p.g2 p.g3 p.l1 p.com1 p.t p.u p.hq p.tq p.hcm p.cm p.hct p.ct p.ham p.aw p.hat p.av p.l2 p.com2 p.t2 r.hm2 r.m2 r.ht2 r.a2 p.l3 p.com3 p.t3 r.L r.a r.o r.cp p.now p.cnt) 50
noncomputable def Qm (p:vF) (K:KE):Bool:=ae fun r=>iP (rC p r) (Cg p K r) true
def yB (p:vF):Prop:=Bs p.now p.L p.a∧p.x_vl=[]∧p.x_l=[]∧p.x_n=0∧p.x_c=0∧p.x_ml=[(1:Int),(2:Int),(3:Int)]∧bF p.x_tl∧p.x_tl.length≤400
theorem Sl {p:vF} {K:KE} (hK:Qm p K=true) {r:OV} (h:rC p r):Cg p K r=true:=ax h (aq hK r)
theorem aeR:Vf yB Qm 1 QX aJ hZ ZC:=by
 intro p K hpre hK
 refine Eq.trans (b:=(mE (.int 0 p.now) (aa (qL [qI 3 p.x_n,qI 3 p.x_c,qY ((.imm p.x_vh 2 Int p.x_vl aG)),qY ((.imm p.x_mh 2 Int p.x_ml aG)),qY ((.imm p.x_h 18 Ke p.x_l au)),qY ((.imm p.x_th 18 Ke p.x_tl au))]) (aL ZT yT ⟨p.l2,p.com2,p.t2,p.x_n,p.x_c,p.x_vh,p.x_vl,p.x_mh,p.x_ml,p.x_h,p.x_l,p.x_th,p.x_tl,p.now⟩ fun p1=>ae fun r1:Pi=>iP (((p.L.length - p.a:Nat):Int)<(400:Int)) (mE (.psub 3 33 p.a (p.L.length - p.a) p.o (some p.cp)) (mP (p.a+(p.L.length - p.a)=p.L.length) (aM fun m1:List Fx=>mP (bg (m1.map dA) (QR 2 1 6 [])) (mP (bQ 232 (p.L.length+m1.length)) (ae fun L1:List Fx=>ae fun d1:Nat=>ae fun o1:Nat=>ae fun u1:Nat=>iP (d1≤L1.length∧L1.length≤p.L.length+m1.length∧L1.drop d1=p.L.drop p.a++m1) (Cg {p with l2:=p1.l2,com2:=p1.com2,t2:=p1.t2} K ⟨r1.hm2,r1.m2,r1.ht2,r1.a2,L1,d1,o1,u1⟩) true))))) (Cg {p with l2:=p1.l2,com2:=p1.com2,t2:=p1.t2} K ⟨r1.hm2,r1.m2,r1.ht2,r1.a2,p.L,p.a,p.o,p.cp⟩))))) (by kernel_rfl) ?_
 dsimp only[yB]at hpre
 obtain⟨⟨n0,n1,n2,n3,n4⟩,hx⟩:=hpre
 obtain⟨hx1,hx2,hx3,hx4,hx5,hx6,hx7⟩:=hx
 refine aH ?_
 refine cq ?_
 refine aV (by(try dsimp only[yT]);repeat(first|assumption|omega|apply And.intro)) ?_
 dsimp only
 refine ac fun r1=> ?_
 apply iI<;>intro hc1
 refine aH (aX ?_)
 refine aR ([⟨2,1,6,1,0,0,257,0,(.slice none 0 0),[],(.slice none 0 0),[],(.slice none 0 0),[],(.slice none 0 0),[]⟩]:List Fx) ?_
 refine fv (eU ?_)
 refine ac fun L1=> ?_
 refine ac fun d1=> ?_
 refine ac fun o1=> ?_
 refine ac fun u1=> ?_
 refine iJ fun hi2=> ?_
 have apL1:=fw hi2
 have lnL1:=apL1.len
 exact Sl (p:=p) hK (by dsimp only[rC]<;>(first|(exfalso;omega)|(exfalso;simp only[apw,apy]at*;omega)|(have ap:=apL1;(try simp only[apC,apD]at ap);exact ap)))
 exact Sl (p:=p) hK (by dsimp only[rC]<;>(first|(exfalso;omega)|(exfalso;simp only[apw,apy]at*;omega)|(have ap:=Ap.nil (by omega);(try simp only[apC,apD]at ap);exact ap)))
noncomputable def Re:NN:=bB QX (nE eY aeR) [(0,4),(1,15)] (fun us=>aA (aA (Nat.beq (aC us 1 0) 1) (Nat.beq (aC us 1 1) 2)) (Nat.beq (aC us 1 2) 9))
structure vE where (l0:List Ke) (com0 g0 g1 g2 g3:Int) (l1:List Ke) (com1 t u:Int) (hq:Value) (tq:List Ke) (hcm:Value) (cm:List Int) (hct:Value) (ct:List Ke) (ham:Value) (aw:List Int) (hat:Value) (av l2:List Ke) (com2 t2:Int) (hm2:Value) (m2:List Int) (ht2:Value) (a2 l3:List Ke) (com3 t3:Int) (L:List Fx) (a o cp:Nat) (now cnt x_n x_c:Int) (x_vh:Value) (x_vl:List Int) (x_mh:Value) (x_ml:List Int) (x_h:Value) (x_l:List Ke) (x_th:Value) (x_tl:List Ke)
structure OU where (hm3:Value) (m3:List Int) (ht3:Value) (a3:List Ke) (L:List Fx) (a o cp:Nat)
def rB (p:vE) (r:OU):Prop:=Ap r.L r.a p.L p.a [(⟨3,1,6,1,0,0,257,0,(.slice none 0 0),[],(.slice none 0 0),[],(.slice none 0 0),[],(.slice none 0 0),[]⟩:Fx)]
noncomputable def ZB (p:vE):IE:=([.ptr 0 0,hU 1 3 9 1 p.x_n p.x_c 257 [] 0 p.x_vh p.x_vl p.x_mh p.x_ml p.x_h p.x_l p.x_th p.x_tl],(aeD p.l0 p.com0 p.g0 p.g1 p.g2 p.g3 p.l1 p.com1 p.t p.u p.hq p.tq p.hcm p.cm p.hct p.ct p.ham p.aw p.hat p.av p.l2 p.com2 p.t2 p.hm2 p.m2 p.ht2 p.a2 p.l3 p.com3 p.t3 p.L p.a p.o p.cp p.now p.cnt),50)
noncomputable def Cf (p:vE) (K:KE) (r:OU):Bool:=K (.tup []) (aeE p.l0 p.com0 p.g0 p.g1 p.g2 p.g3 p.l1 p.com1 p.t p.u p.hq p.tq p.hcm p.cm p.hct p.ct p.ham p.aw p.hat p.av p.l2 p.com2 p.t2 p.hm2 p.m2 p.ht2 p.a2 p.l3 p.com3 p.t3 r.hm3 r.m3 r.ht3 r.a3 r.L r.a r.o r.cp p.now p.cnt) 50
noncomputable def Ql (p:vE) (K:KE):Bool:=ae fun r=>iP (rB p r) (Cf p K r) true
def yA (p:vE):Prop:=Bs p.now p.L p.a∧p.x_vl=[]∧p.x_l=[]∧p.x_n=0∧p.x_c=0∧p.x_ml=[(1:Int),(2:Int),(3:Int)]∧bF p.x_tl∧p.x_tl.length≤400
theorem Sk {p:vE} {K:KE} (hK:Ql p K=true) {r:OU} (h:rB p r):Cf p K r=true:=ax h (aq hK r)
theorem aeQ:Vf yA Ql 1 Re aJ hZ ZB:=by
 intro p K hpre hK
 refine Eq.trans (b:=(mE (.int 0 p.now) (aa (qL [qI 3 p.x_n,qI 3 p.x_c,qY ((.imm p.x_vh 2 Int p.x_vl aG)),qY ((.imm p.x_mh 2 Int p.x_ml aG)),qY ((.imm p.x_h 18 Ke p.x_l au)),qY ((.imm p.x_th 18 Ke p.x_tl au))]) (aL ZS yS ⟨p.l3,p.com3,p.t3,p.x_n,p.x_c,p.x_vh,p.x_vl,p.x_mh,p.x_ml,p.x_h,p.x_l,p.x_th,p.x_tl,p.now⟩ fun p1=>ae fun r1:Ph=>iP (((p.L.length - p.a:Nat):Int)<(400:Int)) (mE (.psub 3 33 p.a (p.L.length - p.a) p.o (some p.cp)) (mP (p.a+(p.L.length - p.a)=p.L.length) (aM fun m1:List Fx=>mP (bg (m1.map dA) (QR 3 1 6 [])) (mP (bQ 232 (p.L.length+m1.length)) (ae fun L1:List Fx=>ae fun d1:Nat=>ae fun o1:Nat=>ae fun u1:Nat=>iP (d1≤L1.length∧L1.length≤p.L.length+m1.length∧L1.drop d1=p.L.drop p.a++m1) (Cf {p with l3:=p1.l3,com3:=p1.com3,t3:=p1.t3} K ⟨r1.hm3,r1.m3,r1.ht3,r1.a3,L1,d1,o1,u1⟩) true))))) (Cf {p with l3:=p1.l3,com3:=p1.com3,t3:=p1.t3} K ⟨r1.hm3,r1.m3,r1.ht3,r1.a3,p.L,p.a,p.o,p.cp⟩))))) (by kernel_rfl) ?_
 dsimp only[yA]at hpre
 obtain⟨⟨n0,n1,n2,n3,n4⟩,hx⟩:=hpre
 obtain⟨hx1,hx2,hx3,hx4,hx5,hx6,hx7⟩:=hx
 refine aH ?_
 refine cq ?_
 refine aV (by(try dsimp only[yS]);repeat(first|assumption|omega|apply And.intro)) ?_
 dsimp only
 refine ac fun r1=> ?_
 apply iI<;>intro hc1
 refine aH (aX ?_)
 refine aR ([⟨3,1,6,1,0,0,257,0,(.slice none 0 0),[],(.slice none 0 0),[],(.slice none 0 0),[],(.slice none 0 0),[]⟩]:List Fx) ?_
 refine fv (eU ?_)
 refine ac fun L1=> ?_
 refine ac fun d1=> ?_
 refine ac fun o1=> ?_
 refine ac fun u1=> ?_
 refine iJ fun hi2=> ?_
 have apL1:=fw hi2
 have lnL1:=apL1.len
 exact Sk (p:=p) hK (by dsimp only[rB]<;>(first|(exfalso;omega)|(exfalso;simp only[apw,apy]at*;omega)|(have ap:=apL1;(try simp only[apC,apD]at ap);exact ap)))
 exact Sk (p:=p) hK (by dsimp only[rB]<;>(first|(exfalso;omega)|(exfalso;simp only[apw,apy]at*;omega)|(have ap:=Ap.nil (by omega);(try simp only[apC,apD]at ap);exact ap)))
noncomputable def Rd:NN:=bB Re (nE eY aeQ) [(0,4),(1,15)] (fun us=>aA (aA (Nat.beq (aC us 1 0) 1) (Nat.beq (aC us 1 1) 3)) (Nat.beq (aC us 1 2) 9))
structure rS where (l0:List Ke) (com0 g0 g1 g2 g3:Int) (l1:List Ke) (com1 t u:Int) (hq:Value) (tq:List Ke) (hcm:Value) (cm:List Int) (hct:Value) (ct:List Ke) (ham:Value) (aw:List Int) (hat:Value) (av l2:List Ke) (com2 t2:Int) (hm2:Value) (m2:List Int) (ht2:Value) (a2 l3:List Ke) (com3 t3:Int) (hm3:Value) (m3:List Int) (ht3:Value) (a3:List Ke) (L:List Fx) (a o cp:Nat) (now cnt x_n x_c:Int) (x_vh:Value) (x_vl:List Int) (x_mh:Value) (x_ml:List Int) (x_h:Value) (x_l:List Ke) (x_th:Value) (x_tl:List Ke)
abbrev Pd:=eJ
def wE (p:rS) (r:Pd):Prop:=Ap r.L r.a p.L p.a []
noncomputable def ZK (p:rS):IE:=([.ptr 0 0,hU 2 1 6 1 p.x_n p.x_c 257 [] 0 p.x_vh p.x_vl p.x_mh p.x_ml p.x_h p.x_l p.x_th p.x_tl],(aeE p.l0 p.com0 p.g0 p.g1 p.g2 p.g3 p.l1 p.com1 p.t p.u p.hq p.tq p.hcm p.cm p.hct p.ct p.ham p.aw p.hat p.av p.l2 p.com2 p.t2 p.hm2 p.m2 p.ht2 p.a2 p.l3 p.com3 p.t3 p.hm3 p.m3 p.ht3 p.a3 p.L p.a p.o p.cp p.now p.cnt),50)
noncomputable def Lh (p:rS) (K:KE) (r:Pd):Bool:=K (.tup []) (aeB p.l0 p.com0 p.g0 p.g1 p.g2 p.g3 p.l1 p.com1 p.t p.u p.hq p.tq p.hcm p.cm p.hct p.ct p.ham p.aw p.hat p.av p.l2 p.com2 p.t2 p.hm2 p.m2 p.ht2 p.a2 p.l3 p.com3 p.t3 p.hm3 p.m3 p.ht3 p.a3 r.L r.a r.o r.cp p.now p.cnt) 50
noncomputable def Qw (p:rS) (K:KE):Bool:=ae fun r=>iP (wE p r) (Lh p K r) true
def yJ (p:rS):Prop:=Bs p.now p.L p.a∧p.x_vl=[]∧p.x_ml=[]∧p.x_l=[]∧p.x_tl=[]∧p.x_n=0∧p.x_c=0
theorem adZ {p:rS} {K:KE} (hK:Qw p K=true) {r:Pd} (h:wE p r):Lh p K r=true:=ax h (aq hK r)
theorem ae1:Vf yJ Qw 1 Rd aJ hZ ZK:=by
 intro p K hpre hK
 refine Eq.trans (b:=(mE (.int 0 p.now) (aa (qL [qI 3 p.x_n,qI 3 p.x_c,qY ((.imm p.x_vh 2 Int p.x_vl aG)),qY ((.imm p.x_mh 2 Int p.x_ml aG)),qY ((.imm p.x_h 18 Ke p.x_l au)),qY ((.imm p.x_th 18 Ke p.x_tl au))]) (aL ZZ yZ ⟨p.l1,p.com1,p.t,p.u,p.hq,p.tq,p.hcm,p.cm,p.hct,p.ct,p.ham,p.aw,p.hat,p.av,p.x_n,p.x_c,p.x_vh,p.x_vl,p.x_mh,p.x_ml,p.x_h,p.x_l,p.x_th,p.x_tl,p.now⟩ fun p1=>Lh {p with l1:=p1.l1,com1:=p1.com1,t:=p1.t,u:=p1.u,hq:=p1.hq,tq:=p1.tq,hcm:=p1.hcm,cm:=p1.cm,hct:=p1.hct,ct:=p1.ct,ham:=p1.ham,aw:=p1.aw,hat:=p1.hat,av:=p1.av} K ⟨p.L,p.a,p.o,p.cp⟩)))) (by kernel_rfl) ?_
 dsimp only[yJ]at hpre
 obtain⟨⟨n0,n1,n2,n3,n4⟩,hx⟩:=hpre
 obtain⟨hx1,hx2,hx3,hx4,hx5,hx6⟩:=hx
 refine aH ?_
 refine cq ?_
 refine aV (by(try dsimp only[yZ]);repeat(first|assumption|omega|apply And.intro)) ?_
 dsimp only
 exact adZ (p:=p) hK (by dsimp only[wE]<;>(first|(exfalso;omega)|(exfalso;simp only[apw,apy]at*;omega)|(have ap:=Ap.nil (by omega);(try simp only[apC,apD]at ap);exact ap)))
noncomputable def Ro:NN:=bB Rd (nE eY ae1) [(0,4),(1,15)] (fun us=>aA (aA (Nat.beq (aC us 1 0) 2) (Nat.beq (aC us 1 1) 1)) (Nat.beq (aC us 1 2) 6))
abbrev vM:=rS
abbrev Pc:=Hi
def mc (p:vM) (r:Pc):Prop:=r.l1=p.l1∧r.z=(p.l1.length:Int)∧∃hm h,Ap r.L r.a p.L p.a [(⟨1,0,10,0,0,0,0,2,hm,[(1:Int),(2:Int),(3:Int)],(.slice none 0 0),[],h,p.l1,(.slice none 0 0),[]⟩:Fx),(⟨1,2,10,0,0,0,0,2,hm,[(1:Int),(2:Int),(3:Int)],(.slice none 0 0),[],h,p.l1,(.slice none 0 0),[]⟩:Fx),(⟨1,3,10,0,0,0,0,2,hm,[(1:Int),(2:Int),(3:Int)],(.slice none 0 0),[],h,p.l1,(.slice none 0 0),[]⟩:Fx)]
noncomputable def ZJ (p:vM):IE:=([.ptr 0 0,hU 3 1 6 1 p.x_n p.x_c 257 [] 0 p.x_vh p.x_vl p.x_mh p.x_ml p.x_h p.x_l p.x_th p.x_tl],(aeB p.l0 p.com0 p.g0 p.g1 p.g2 p.g3 p.l1 p.com1 p.t p.u p.hq p.tq p.hcm p.cm p.hct p.ct p.ham p.aw p.hat p.av p.l2 p.com2 p.t2 p.hm2 p.m2 p.ht2 p.a2 p.l3 p.com3 p.t3 p.hm3 p.m3 p.ht3 p.a3 p.L p.a p.o p.cp p.now p.cnt),50)
noncomputable def Vt (p:vM) (K:KE) (r:Pc):Bool:=K (.tup []) (He p.l0 p.com0 p.g0 p.g1 p.g2 p.g3 r.l1 r.z r.z (p.now+2) r.z r.z r.z p.l2 p.com2 p.t2 p.hm2 p.m2 p.ht2 p.a2 p.l3 p.com3 p.t3 p.hm3 p.m3 p.ht3 p.a3 r.L r.a r.o r.cp p.now p.cnt) 48
noncomputable def Qv (p:vM) (K:KE):Bool:=ae fun r=>iP (mc p r) (Vt p K r) true
def yI (p:vM):Prop:=Bs p.now p.L p.a∧p.x_vl=[]∧p.x_ml=[]∧p.x_l=[]∧p.x_tl=[]∧p.x_n=0∧p.x_c=0∧p.l1.length≤400∧p.ct=p.l1∧p.cm=[(1:Int),(2:Int),(3:Int)]
theorem zI {p:vM} {K:KE} (hK:Qv p K=true) {r:Pc} (h:mc p r):Vt p K r=true:=ax h (aq hK r)
theorem ae0:Vf yI Qv 1 Ro aJ hZ ZJ:=by
 intro p K hpre hK
 refine Eq.trans (b:=(mE (.int 0 p.now) (aa (qL [qI 3 p.x_n,qI 3 p.x_c,qY ((.imm p.x_vh 2 Int p.x_vl aG)),qY ((.imm p.x_mh 2 Int p.x_ml aG)),qY ((.imm p.x_h 18 Ke p.x_l au)),qY ((.imm p.x_th 18 Ke p.x_tl au))]) (ay ZY yY wO ⟨p.l1,p.com1,p.t,p.u,p.hq,p.tq,p.hcm,p.cm,p.hct,p.ct,p.ham,p.aw,p.hat,p.av,p.x_n,p.x_c,p.x_vh,p.x_vl,p.x_mh,p.x_ml,p.x_h,p.x_l,p.x_th,p.x_tl,p.now⟩ fun p1 r1=>iP (((p.L.length - p.a:Nat):Int)<(400:Int)) (mE (.psub 3 33 p.a (p.L.length - p.a) p.o (some p.cp)) (mP (p.a+(p.L.length - p.a)=p.L.length) (aM fun m1:List Fx=>mP (bg (m1.map dA) (o_D 0 [] r1.hm r1.mm r1.h r1.e)) (mP (bQ 232 (p.L.length+m1.length)) (ae fun L1:List Fx=>ae fun d1:Nat=>ae fun o1:Nat=>ae fun u1:Nat=>iP (d1≤L1.length∧L1.length≤p.L.length+m1.length∧L1.drop d1=p.L.drop p.a++m1) (iP (((L1.length - d1:Nat):Int)<(400:Int)) (mE (.psub 66 33 d1 (L1.length - d1) o1 (some u1)) (mP (d1+(L1.length - d1)=L1.length) (aM fun m2:List Fx=>mP (bg (m2.map dA) (o_D 2 [] r1.hm r1.mm r1.h r1.e)) (mP (bQ 232 (L1.length+m2.length)) (ae fun L2:List Fx=>ae fun d2:Nat=>ae fun o2:Nat=>ae fun u2:Nat=>iP (d2≤L2.length∧L2.length≤L1.length+m2.length∧L2.drop d2=L1.drop d1++m2) (iP (((L2.length - d2:Nat):Int)<(400:Int)) (mE (.psub 68 33 d2 (L2.length - d2) o2 (some u2)) (mP (d2+(L2.length - d2)=L2.length) (aM fun m3:List Fx=>mP (bg (m3.map dA) (o_D 3 [] r1.hm r1.mm r1.h r1.e)) (mP (bQ 232 (L2.length+m3.length)) (ae fun L3:List Fx=>ae fun d3:Nat=>ae fun o3:Nat=>ae fun u3:Nat=>iP (d3≤L3.length∧L3.length≤L2.length+m3.length∧L3.drop d3=L2.drop d2++m3) (K (.tup []) (He p.l0 p.com0 p.g0 p.g1 p.g2 p.g3 r1.l1 r1.z r1.z (p1.now+2) r1.z r1.z r1.z p.l2 p.com2 p.t2 p.hm2 p.m2 p.ht2 p.a2 p.l3 p.com3 p.t3 p.hm3 p.m3 p.ht3 p.a3 L3 d3 o3 u3 p.now p.cnt) 48) true))))) (K (.tup []) (He p.l0 p.com0 p.g0 p.g1 p.g2 p.g3 r1.l1 r1.z r1.z (p1.now+2) r1.z r1.z r1.z p.l2 p.com2 p.t2 p.hm2 p.m2 p.ht2 p.a2 p.l3 p.com3 p.t3 p.hm3 p.m3 p.ht3 p.a3 L2 d2 o2 u2 p.now p.cnt) 48)) true))))) (K (.tup []) (He p.l0 p.com0 p.g0 p.g1 p.g2 p.g3 r1.l1 r1.z r1.z (p1.now+2) r1.z r1.z r1.z p.l2 p.com2 p.t2 p.hm2 p.m2 p.ht2 p.a2 p.l3 p.com3 p.t3 p.hm3 p.m3 p.ht3 p.a3 L1 d1 o1 u1 p.now p.cnt) 48)) true))))) (K (.tup []) (He p.l0 p.com0 p.g0 p.g1 p.g2 p.g3 r1.l1 r1.z r1.z (p1.now+2) r1.z r1.z r1.z p.l2 p.com2 p.t2 p.hm2 p.m2 p.ht2 p.a2 p.l3 p.com3 p.t3 p.hm3 p.m3 p.ht3 p.a3 p.L p.a p.o p.cp p.now p.cnt) 48))))) (by kernel_rfl) ?_
 dsimp only[yI]at hpre
 obtain⟨⟨n0,n1,n2,n3,n4⟩,hx⟩:=hpre
 obtain⟨hx1,hx2,hx3,hx4,hx5,hx6,hx7,hx8,hx9⟩:=hx
 refine aH ?_
 refine cq ?_
 refine aF (by(try dsimp only[yY]);repeat(first|assumption|omega|apply And.intro)) fun r1 hi1=> ?_
 dsimp only[wO]at hi1 ⊢
 have hv:=hi1
 apply iI<;>intro hc2
 refine aH (aX ?_)
 refine aR ([⟨1,0,10,0,0,0,0,2,r1.hm,r1.mm,(.slice none 0 0),[],r1.h,r1.e,(.slice none 0 0),[]⟩]:List Fx) ?_
 refine fv (eU ?_)
 refine ac fun L1=> ?_
 refine ac fun d1=> ?_
 refine ac fun o1=> ?_
 refine ac fun u1=> ?_
 refine iJ fun hi3=> ?_
 have apL1:=fw hi3
 have lnL1:=apL1.len
 apply iI<;>intro hc4
 refine aH (aX ?_)
 refine aR ([⟨1,2,10,0,0,0,0,2,r1.hm,r1.mm,(.slice none 0 0),[],r1.h,r1.e,(.slice none 0 0),[]⟩]:List Fx) ?_
 refine fv (eU ?_)
 refine ac fun L2=> ?_
 refine ac fun d2=> ?_
 refine ac fun o2=> ?_
 refine ac fun u2=> ?_
 refine iJ fun hi5=> ?_
 have apL2:=fw hi5
 have lnL2:=apL2.len
 apply iI<;>intro hc6
 refine aH (aX ?_)
 refine aR ([⟨1,3,10,0,0,0,0,2,r1.hm,r1.mm,(.slice none 0 0),[],r1.h,r1.e,(.slice none 0 0),[]⟩]:List Fx) ?_
 refine fv (eU ?_)
 refine ac fun L3=> ?_
 refine ac fun d3=> ?_
 refine ac fun o3=> ?_
 refine ac fun u3=> ?_
 refine iJ fun hi7=> ?_
 have apL3:=fw hi7
 have lnL3:=apL3.len
 exact zI (r:=⟨r1.l1,L3,d3,o3,u3,r1.z⟩) hK (by dsimp only[mc]<;>(first|(exfalso;omega)|(exfalso;simp only[apw,apy]at*;omega)|(have ap:=((apL1).trans apL2).trans apL3;(try simp only[apC,apD]at ap);(rw[hv.2.2.1,hv.2.2.2]at ap;exact⟨hv.1,hv.2.1,_,_,ap⟩))))
 exact zI (r:=⟨r1.l1,L2,d2,o2,u2,r1.z⟩) hK (by dsimp only[mc]<;>(first|(exfalso;omega)|(exfalso;simp only[apw,apy]at*;omega)|(have ap:=(apL1).trans apL2;(try simp only[apC,apD]at ap);(rw[hv.2.2.1,hv.2.2.2]at ap;exact⟨hv.1,hv.2.1,_,_,ap⟩))))
 exact zI (r:=⟨r1.l1,L1,d1,o1,u1,r1.z⟩) hK (by dsimp only[mc]<;>(first|(exfalso;omega)|(exfalso;simp only[apw,apy]at*;omega)|(have ap:=apL1;(try simp only[apC,apD]at ap);(rw[hv.2.2.1,hv.2.2.2]at ap;exact⟨hv.1,hv.2.1,_,_,ap⟩))))
 exact zI (r:=⟨r1.l1,p.L,p.a,p.o,p.cp,r1.z⟩) hK (by dsimp only[mc]<;>(first|(exfalso;omega)|(exfalso;simp only[apw,apy]at*;omega)|(have ap:=Ap.nil (by omega);(try simp only[apC,apD]at ap);(rw[hv.2.2.1,hv.2.2.2]at ap;exact⟨hv.1,hv.2.1,_,_,ap⟩))))
noncomputable def Rn:NN:=bB Ro (nE eY ae0) [(0,4),(1,15)] (fun us=>aA (aA (Nat.beq (aC us 1 0) 3) (Nat.beq (aC us 1 1) 1)) (Nat.beq (aC us 1 2) 6))
structure vI where (l0:List Ke) (com0 g0 g1 g2 g3:Int) (l1:List Ke) (com1 b1 u c0 c1 c2:Int) (l2:List Ke) (com2 t2:Int) (hm2:Value) (m2:List Int) (ht2:Value) (a2 l3:List Ke) (com3 t3:Int) (hm3:Value) (m3:List Int) (ht3:Value) (a3:List Ke) (L:List Fx) (a o cp:Nat) (now cnt x_n x_c:Int) (x_vh:Value) (x_vl:List Int) (x_mh:Value) (x_ml:List Int) (x_h:Value) (x_l:List Ke) (x_th:Value) (x_tl:List Ke)
abbrev OX:=Hh
def wC (p:vI) (r:OX):Prop:=r.l2=p.x_l∧Ap r.L r.a p.L p.a []
noncomputable def ZF (p:vI):IE:=([.ptr 0 0,hU 1 2 10 0 p.x_n p.x_c 0 [] 2 p.x_vh p.x_vl p.x_mh p.x_ml p.x_h p.x_l p.x_th p.x_tl],(He p.l0 p.com0 p.g0 p.g1 p.g2 p.g3 p.l1 p.com1 p.b1 p.u p.c0 p.c1 p.c2 p.l2 p.com2 p.t2 p.hm2 p.m2 p.ht2 p.a2 p.l3 p.com3 p.t3 p.hm3 p.m3 p.ht3 p.a3 p.L p.a p.o p.cp p.now p.cnt),48)
noncomputable def Vr (p:vI) (K:KE) (r:OX):Bool:=K (.tup []) (acD p.l0 p.com0 p.g0 p.g1 p.g2 p.g3 p.l1 p.com1 p.b1 p.u p.c0 p.c1 p.c2 r.l2 (p.x_l.length:Int) (p.x_l.length:Int) (p.now+2) (p.x_l.length:Int) (p.x_l.length:Int) (p.x_l.length:Int) p.l3 p.com3 p.t3 p.hm3 p.m3 p.ht3 p.a3 r.L r.a r.o r.cp p.now p.cnt) 49
noncomputable def Qp (p:vI) (K:KE):Bool:=ae fun r=>iP (wC p r) (Vr p K r) true
def yE (p:vI):Prop:=Bs p.now p.L p.a∧p.x_ml=[]∧p.x_tl=[]∧p.x_n=0∧p.x_c=0∧p.x_vl=[(1:Int),(2:Int),(3:Int)]∧bF p.x_l∧p.x_l.length≤400
theorem adX {p:vI} {K:KE} (hK:Qp p K=true) {r:OX} (h:wC p r):Vr p K r=true:=ax h (aq hK r)
theorem aeU:Vf yE Qp 1 Rn aJ hZ ZF:=by
 intro p K hpre hK
 refine Eq.trans (b:=(mE (.int 0 p.now) (aa (qL [qI 3 p.x_n,qI 3 p.x_c,qY ((.imm p.x_vh 2 Int p.x_vl aG)),qY ((.imm p.x_mh 2 Int p.x_ml aG)),qY ((.imm p.x_h 18 Ke p.x_l au)),qY ((.imm p.x_th 18 Ke p.x_tl au))]) (ay ZW yW wM ⟨p.l2,p.com2,p.t2,p.hm2,p.m2,p.ht2,p.a2,p.x_n,p.x_c,p.x_vh,p.x_vl,p.x_mh,p.x_ml,p.x_h,p.x_l,p.x_th,p.x_tl,p.now⟩ fun p1 r1=>K (.tup []) (acD p.l0 p.com0 p.g0 p.g1 p.g2 p.g3 p.l1 p.com1 p.b1 p.u p.c0 p.c1 p.c2 r1.l2 (p1.x_l.length:Int) (p1.x_l.length:Int) (p1.now+2) (p1.x_l.length:Int) (p1.x_l.length:Int) (p1.x_l.length:Int) p.l3 p.com3 p.t3 p.hm3 p.m3 p.ht3 p.a3 p.L p.a p.o p.cp p.now p.cnt) 49)))) (by kernel_rfl) ?_
 dsimp only[yE]at hpre
 obtain⟨⟨n0,n1,n2,n3,n4⟩,hx⟩:=hpre
 obtain⟨hx1,hx2,hx3,hx4,hx5,hx6,hx7⟩:=hx
 refine aH ?_
 refine cq ?_
 refine aF (by(try dsimp only[yW]);repeat(first|assumption|omega|apply And.intro)) fun r1 hi1=> ?_
 dsimp only[wM]at hi1 ⊢
 have hv:=hi1
 exact adX (r:=⟨r1.l2,p.L,p.a,p.o,p.cp⟩) hK (by dsimp only[wC]<;>(first|(exfalso;omega)|(exfalso;simp only[apw,apy]at*;omega)|(have ap:=Ap.nil (by omega);(try simp only[apC,apD]at ap);exact⟨by assumption,ap⟩)))
noncomputable def Rh:NN:=bB Rn (nE eY aeU) [(0,4),(1,15)] (fun us=>aA (aA (Nat.beq (aC us 1 0) 1) (Nat.beq (aC us 1 1) 2)) (Nat.beq (aC us 1 2) 10))
structure vH where (l0:List Ke) (com0 g0 g1 g2 g3:Int) (l1:List Ke) (com1 b1 u c0 c1 c2:Int) (l2:List Ke) (com2 b2 u2 d2_0 d2_1 d2_2:Int) (l3:List Ke) (com3 t3:Int) (hm3:Value) (m3:List Int) (ht3:Value) (a3:List Ke) (L:List Fx) (a o cp:Nat) (now cnt x_n x_c:Int) (x_vh:Value) (x_vl:List Int) (x_mh:Value) (x_ml:List Int) (x_h:Value) (x_l:List Ke) (x_th:Value) (x_tl:List Ke)
structure OW where (l3:List Ke) (L:List Fx) (a o cp:Nat)
def wB (p:vH) (r:OW):Prop:=r.l3=p.x_l∧Ap r.L r.a p.L p.a []
noncomputable def ZE (p:vH):IE:=([.ptr 0 0,hU 1 3 10 0 p.x_n p.x_c 0 [] 2 p.x_vh p.x_vl p.x_mh p.x_ml p.x_h p.x_l p.x_th p.x_tl],(acD p.l0 p.com0 p.g0 p.g1 p.g2 p.g3 p.l1 p.com1 p.b1 p.u p.c0 p.c1 p.c2 p.l2 p.com2 p.b2 p.u2 p.d2_0 p.d2_1 p.d2_2 p.l3 p.com3 p.t3 p.hm3 p.m3 p.ht3 p.a3 p.L p.a p.o p.cp p.now p.cnt),49)
noncomputable def Vq (p:vH) (K:KE) (r:OW):Bool:=K (.tup []) (dv p.l0 p.com0 p.g0 p.g1 p.g2 p.g3 p.l1 p.com1 p.b1 p.u p.c0 p.c1 p.c2 p.l2 p.com2 p.b2 p.u2 p.d2_0 p.d2_1 p.d2_2 r.l3 (p.x_l.length:Int) (p.x_l.length:Int) (p.now+2) (p.x_l.length:Int) (p.x_l.length:Int) (p.x_l.length:Int) r.L r.a r.o r.cp p.now p.cnt) 50
noncomputable def Qo (p:vH) (K:KE):Bool:=ae fun r=>iP (wB p r) (Vq p K r) true
def yD (p:vH):Prop:=Bs p.now p.L p.a∧p.x_ml=[]∧p.x_tl=[]∧p.x_n=0∧p.x_c=0∧p.x_vl=[(1:Int),(2:Int),(3:Int)]∧bF p.x_l∧p.x_l.length≤400
theorem adW {p:vH} {K:KE} (hK:Qo p K=true) {r:OW} (h:wB p r):Vq p K r=true:=ax h (aq hK r)
theorem aeT:Vf yD Qo 1 Rh aJ hZ ZE:=by
 intro p K hpre hK
 refine Eq.trans (b:=(mE (.int 0 p.now) (aa (qL [qI 3 p.x_n,qI 3 p.x_c,qY ((.imm p.x_vh 2 Int p.x_vl aG)),qY ((.imm p.x_mh 2 Int p.x_ml aG)),qY ((.imm p.x_h 18 Ke p.x_l au)),qY ((.imm p.x_th 18 Ke p.x_tl au))]) (ay ZV yV wK ⟨p.l3,p.com3,p.t3,p.hm3,p.m3,p.ht3,p.a3,p.x_n,p.x_c,p.x_vh,p.x_vl,p.x_mh,p.x_ml,p.x_h,p.x_l,p.x_th,p.x_tl,p.now⟩ fun p1 r1=>K (.tup []) (dv p.l0 p.com0 p.g0 p.g1 p.g2 p.g3 p.l1 p.com1 p.b1 p.u p.c0 p.c1 p.c2 p.l2 p.com2 p.b2 p.u2 p.d2_0 p.d2_1 p.d2_2 r1.l3 (p1.x_l.length:Int) (p1.x_l.length:Int) (p1.now+2) (p1.x_l.length:Int) (p1.x_l.length:Int) (p1.x_l.length:Int) p.L p.a p.o p.cp p.now p.cnt) 50)))) (by kernel_rfl) ?_
 dsimp only[yD]at hpre
 obtain⟨⟨n0,n1,n2,n3,n4⟩,hx⟩:=hpre
 obtain⟨hx1,hx2,hx3,hx4,hx5,hx6,hx7⟩:=hx
 refine aH ?_
 refine cq ?_
 refine aF (by(try dsimp only[yV]);repeat(first|assumption|omega|apply And.intro)) fun r1 hi1=> ?_
 dsimp only[wK]at hi1 ⊢
 have hv:=hi1
 exact adW (r:=⟨r1.l3,p.L,p.a,p.o,p.cp⟩) hK (by dsimp only[wB]<;>(first|(exfalso;omega)|(exfalso;simp only[apw,apy]at*;omega)|(have ap:=Ap.nil (by omega);(try simp only[apC,apD]at ap);exact⟨by assumption,ap⟩)))
noncomputable def Rg:NN:=bB Rh (nE eY aeT) [(0,4),(1,15)] (fun us=>aA (aA (Nat.beq (aC us 1 0) 1) (Nat.beq (aC us 1 1) 3)) (Nat.beq (aC us 1 2) 10))
noncomputable def CN (l0:List Ke) (com0 g0 g1 g2 g3:Int):T:=(n2 (n2 (n2 (n0 (aO l0)) (bu 0) .leaf) am (n2 (n0 am) (bm true 9 4) .leaf)) (eX 1 4 2 3 0 4 5) (n2 (n2 (n0 (ca g0 g1 g2 g3)) am .leaf) (bj 6 4 0 7 l0.length com0 false 8) (n0 am)))
noncomputable def LR (l0:List Ke) (com0 g0 g1 g2 g3:Int) (h1:Value) (e1:List Ke) (h2:Value) (e2:List Ke) (h3:Value) (e3:List Ke) (k0:Nat):T:=(n2 (n2 (n2 (n0 am) (bj 7 4 0 8 k0 com0 false 9) .leaf) (.blk true 118 33 [[.int 1 (.ofNat 1),.int 2 (.ofNat 1),.int 1 (.ofNat 3),.int 1 (.ofNat 0),.int 1 (.ofNat 0),.int 3 (.ofNat 1),.sy (.int 3 g1),.sy (.int 3 com0),.int 3 (.ofNat 0),.int 4 (.ofNat 0),.int 4 (.ofNat 0),.int 1 (.ofNat 0),.int 2 (.ofNat 0),.int 3 (.ofNat 0),.int 1 (.ofNat 0),.int 1 (.ofNat 0),.int 1 (.ofNat 0),.int 1 (.ofNat 0),.int 1 (.ofNat 0),.int 1 (.ofNat 0),.int 1 (.ofNat 0),.nilS,.int 1 (.ofNat 0),.str [],.int 1 (.ofNat 0),.int 3 (.ofNat 0),.nilS,.int 1 (.ofNat 0),.int 2 (.ofNat 0),.bool false,.nilS,.sy (.imm h1 18 Ke e1 au),.nilS],[.int 1 (.ofNat 2),.int 2 (.ofNat 1),.int 1 (.ofNat 3),.int 1 (.ofNat 0),.int 1 (.ofNat 0),.int 3 (.ofNat 1),.sy (.int 3 g2),.sy (.int 3 com0),.int 3 (.ofNat 0),.int 4 (.ofNat 0),.int 4 (.ofNat 0),.int 1 (.ofNat 0),.int 2 (.ofNat 0),.int 3 (.ofNat 0),.int 1 (.ofNat 0),.int 1 (.ofNat 0),.int 1 (.ofNat 0),.int 1 (.ofNat 0),.int 1 (.ofNat 0),.int 1 (.ofNat 0),.int 1 (.ofNat 0),.nilS,.int 1 (.ofNat 0),.str [],.int 1 (.ofNat 0),.int 3 (.ofNat 0),.nilS,.int 1 (.ofNat 0),.int 2 (.ofNat 0),.bool false,.nilS,.sy (.imm h2 18 Ke e2 au),.nilS],[.int 1 (.ofNat 3),.int 2 (.ofNat 1),.int 1 (.ofNat 3),.int 1 (.ofNat 0),.int 1 (.ofNat 0),.int 3 (.ofNat 1),.sy (.int 3 g3),.sy (.int 3 com0),.int 3 (.ofNat 0),.int 4 (.ofNat 0),.int 4 (.ofNat 0),.int 1 (.ofNat 0),.int 2 (.ofNat 0),.int 3 (.ofNat 0),.int 1 (.ofNat 0),.int 1 (.ofNat 0),.int 1 (.ofNat 0),.int 1 (.ofNat 0),.int 1 (.ofNat 0),.int 1 (.ofNat 0),.int 1 (.ofNat 0),.nilS,.int 1 (.ofNat 0),.str [],.int 1 (.ofNat 0),.int 3 (.ofNat 0),.nilS,.int 1 (.ofNat 0),.int 2 (.ofNat 0),.bool false,.nilS,.sy (.imm h3 18 Ke e3 au),.nilS]]) (n2 (n0 (ca g0 g1 g2 g3)) am .leaf)) (eX 2 4 3 4 0 5 6) (n2 (n2 (n0 (aO l0)) (bu 0) .leaf) am (n2 (n0 am) (bm true 10 4) .leaf)))
structure wj where (l0:List Ke) (com0 g0 g1 g2 g3 now:Int)
structure Pt where (h1:Value) (e1:List Ke) (h2:Value) (e2:List Ke) (h3:Value) (e3:List Ke)
def xj (p:wj) (r:Pt):Prop:=r.e1=p.l0.drop p.g1.toNat∧r.e2=p.l0.drop p.g2.toNat∧r.e3=p.l0.drop p.g3.toNat
noncomputable def aaf (p:wj):IE:=([.ptr 0 0,.sy (.int 0 p.now)],(CN p.l0 p.com0 p.g0 p.g1 p.g2 p.g3),10)
noncomputable def VE (p:wj) (K:KE) (r:Pt):Bool:=K (.sl 1 0 3 (.rest 0)) (LR p.l0 p.com0 p.g0 p.g1 p.g2 p.g3 r.h1 r.e1 r.h2 r.e2 r.h3 r.e3 p.l0.length) 11
noncomputable def QM (p:wj) (K:KE):Bool:=ae fun r=>iP (xj p r) (VE p K r) true
def zf (p:wj):Prop:=0≤p.now∧p.now≤1000000∧p.l0.length≤400∧0≤p.com0∧p.com0≤400∧(0≤p.g1∧p.g1≤(p.l0.length:Int)∧(p.l0.length:Int)≤p.g1+16)∧(0≤p.g2∧p.g2≤(p.l0.length:Int)∧(p.l0.length:Int)≤p.g2+16)∧(0≤p.g3∧p.g3≤(p.l0.length:Int)∧(p.l0.length:Int)≤p.g3+16)
theorem St {p:wj} {K:KE} (hK:QM p K=true) {r:Pt} (h:xj p r:=by dsimp only[xj]<;>exact⟨zQ hi1.1 (by omega),zQ hi2.1 (by omega),zQ hi3.1 (by omega)⟩):VE p K r=true:=ax h (aq hK r)
theorem afI:Vf zf QM 1 Rg aJ eC aaf:=by
 intro p K hpre hK
 refine Eq.trans (b:=(mP (aI 0 ((p.l0.length:Int) - p.g1)) (mP (aI 0 (p.g1+(min ((p.l0.length:Int) - p.g1) 16))) (mP (p.l0.length=p.l0.length∧0≤p.g1∧p.g1≤(p.g1+(min ((p.l0.length:Int) - p.g1) (16:Int)))∧(p.g1+(min ((p.l0.length:Int) - p.g1) (16:Int)))≤(p.l0.length:Int)) (ay cN bJ aZ ⟨p.l0,p.g1.toNat,((p.g1+(min ((p.l0.length:Int) - p.g1) (16:Int))).toNat) - p.g1.toNat⟩ fun p1 r1=>mP (aI 3 p.g1) (mP (aI 3 p.com0) (mP (aI 0 ((p.l0.length:Int) - p.g2)) (mP (aI 0 (p.g2+(min ((p.l0.length:Int) - p.g2) 16))) (mP (p.l0.length=p1.l.length∧0≤p.g2∧p.g2≤(p.g2+(min ((p.l0.length:Int) - p.g2) (16:Int)))∧(p.g2+(min ((p.l0.length:Int) - p.g2) (16:Int)))≤(p.l0.length:Int)) (ay cN bJ aZ ⟨p1.l,p.g2.toNat,((p.g2+(min ((p.l0.length:Int) - p.g2) (16:Int))).toNat) - p.g2.toNat⟩ fun p2 r2=>mP (aI 3 p.g2) (mP (aI 3 p.com0) (mP (aI 0 ((p.l0.length:Int) - p.g3)) (mP (aI 0 (p.g3+(min ((p.l0.length:Int) - p.g3) 16))) (mP (p.l0.length=p2.l.length∧0≤p.g3∧p.g3≤(p.g3+(min ((p.l0.length:Int) - p.g3) (16:Int)))∧(p.g3+(min ((p.l0.length:Int) - p.g3) (16:Int)))≤(p.l0.length:Int)) (ay cN bJ aZ ⟨p2.l,p.g3.toNat,((p.g3+(min ((p.l0.length:Int) - p.g3) (16:Int))).toNat) - p.g3.toNat⟩ fun p3 r3=>mP (aI 3 p.g3) (mP (aI 3 p.com0) (iP ((2:Int)≤p.now) (cu (K (.sl 1 0 3 (.rest 0)) (LR p3.l p.com0 p.g0 p.g1 p.g2 p.g3 r1.h r1.o r2.h r2.o r3.h r3.o p.l0.length) 11)) (K (.sl 1 0 3 (.rest 0)) (LR p3.l p.com0 p.g0 p.g1 p.g2 p.g3 r1.h r1.o r2.h r2.o r3.h r3.o p.l0.length) 11)))))))))))))))))) (by kernel_rfl) ?_
 dsimp only[zf]at hpre
 obtain⟨n0,n1,hx⟩:=hpre
 obtain⟨hx1,hx2,hx3,⟨u1,v1,w1⟩,⟨u2,v2,w2⟩,⟨u3,v3,w3⟩⟩:=hx
 refine be (be (cz ?_))
 refine cV fun r1 hi1=> ?_
 dsimp only[aZ]at hi1 ⊢
 have hlhi1:=hi1.2
 (try simp only[apL,apW]at hlhi1)
 refine be (be (be (be (tZ ?_))))
 refine cV fun r2 hi2=> ?_
 dsimp only[aZ]at hi2 ⊢
 have hlhi2:=hi2.2
 (try simp only[apL,apW]at hlhi2)
 refine be (be (be (be (tZ ?_))))
 refine cV fun r3 hi3=> ?_
 dsimp only[aZ]at hi3 ⊢
 have hlhi3:=hi3.2
 (try simp only[apL,apW]at hlhi3)
 refine be (be ?_)
 apply iI<;>intro hc4
 refine bk ?_
 exact St (r:=⟨r1.h,r1.o,r2.h,r2.o,r3.h,r3.o⟩) hK
 exact St (r:=⟨r1.h,r1.o,r2.h,r2.o,r3.h,r3.o⟩) hK
noncomputable def nc_ch4_1:EE 50 1:=bA (fun us M=>aA (aA (Nat.beq (zC M 0 8) 0) (Nat.beq (zC M 0 1) 1)) (kx (cT M 0 11))) (nE dm afI) nc_yt4
noncomputable def RZ:NN:=ck Rg nc_ch4_1.2 [(0,4),(1,20)]
noncomputable def Ny (l1:List Ke) (com1:Int):T:=(n2 (n2 (n2 (n0 (aO l1)) (bu 0) .leaf) am (n2 (n0 am) (bm true 9 4) .leaf)) (eX 1 4 2 3 1 4 5) (n2 (n2 (n0 (ca 0 0 0 0)) am .leaf) (bj 6 4 1 7 l1.length com1 false 8) (n0 am)))
abbrev Gm:=vk
noncomputable def Tn (p:Gm):IE:=([.ptr 0 0,.sy (.int 0 p.now)],(Ny p.l1 p.com1),10)
noncomputable def XH (p:Gm) (K:KE):Bool:=K .nilS (Ny p.l1 p.com1) 10
def sP (p:Gm):Prop:=0≤p.now∧p.now≤1000000
theorem aa0:Vf sP XH 1 RZ aJ eC Tn:=by
 intro p K hpre hK
 refine Eq.trans (b:=(iP ((2:Int)≤p.now) (cu (K .nilS (Ny p.l1 p.com1) 10)) (K .nilS (Ny p.l1 p.com1) 10))) (by kernel_rfl) ?_
 dsimp only[sP]at hpre
 obtain⟨n0,n1⟩:=hpre
 apply iI<;>intro hc1
 refine bk ?_
 exact hK
 exact hK
noncomputable def nc_cf4_1_1:EE 50 1:=bA (fun us M=>aA (aA (Nat.beq (zC M 0 8) 1) (Nat.beq (zC M 0 1) 1)) (kx (cT M 0 11))) (nE dm aa0) nc_ch4_1
noncomputable def Jz:NN:=ck RZ nc_cf4_1_1.2 [(0,4),(1,20)]
noncomputable def acu (l1:List Ke) (com1:Int):T:=(n2 (n2 (n2 (n0 am) (bj 7 4 1 8 l1.length com1 false 9) .leaf) (QU 0 1 (l1.length:Int) []) (n2 (n0 (ca 0 0 0 0)) am .leaf)) (eX 2 4 3 4 1 5 6) (n2 (n2 (n0 (aO l1)) (bu 0) .leaf) am (n2 (n0 am) (bm true 10 4) .leaf)))
abbrev pZ:=mK
abbrev FO:=Af
def qB (p:pZ) (r:FO):Prop:=r.l1=p.l1++p.x_l∧r.com1=max p.com1 (min p.x_c (r.l1.length:Int))
noncomputable def Tw (p:pZ):IE:=([.ptr 0 0,.sy (.int 0 p.now),dL 0,eR 3 1 p.x_n p.x_c 0 [] 0 p.x_vh p.x_vl p.x_mh p.x_ml p.x_h p.x_l p.x_th p.x_tl],(Ny p.l1 p.com1),10)
noncomputable def qN (p:pZ) (K:KE) (r:FO):Bool:=K (.sl 1 0 1 (.ex 1)) (acu r.l1 r.com1) 11
noncomputable def IJ (p:pZ) (K:KE):Bool:=ae fun r=>iP (qB p r) (qN p K r) true
def sW (p:pZ):Prop:=0≤p.now∧p.now≤1000000∧p.x_vl=[]∧p.x_ml=[]∧p.x_tl=[]∧p.x_n=(p.l1.length:Int)∧bF p.x_l∧p.l1.length+p.x_l.length≤400∧0≤(p.l1.length:Int)∧0≤p.x_c∧p.x_c≤400∧0≤0
theorem lC {p:pZ} {K:KE} (hK:IJ p K=true) {r:FO} (h:qB p r:=by dsimp only[qB]<;>(first|(exfalso;omega)|(refine⟨?_,rfl⟩;rw[apS (show p.x_l.length=0 by omega)];simp;done)|(refine⟨?_,rfl⟩;rw[hv.1,show((p.l1.length:Int) - p.x_n).toNat=0 by omega];simp;done))):qN p K r=true:=ax h (aq hK r)
theorem aa8:Vf sW IJ 1 Jz aJ bZ Tw:=by
 intro p K hpre hK
 refine Eq.trans (b:=(let z0:Bool:=(qN p K ⟨p.l1,max p.com1 (min p.x_c (p.l1.length:Int))⟩);let z1:Bool:=(qN p K ⟨p.l1,p.com1⟩);aL vy fo ⟨p.x_n,p.x_c,p.x_vh,p.x_vl,p.x_mh,p.x_ml,p.x_h,p.x_l,p.x_th,p.x_tl⟩ fun p1=>mP (aI 0 p.x_n) (mP (aI 0 p.x_c) (iP (p.x_n<(0:Int)) (mP (aI 3 (p.l1.length:Int)) z1) (iP ((p.l1.length:Int)<p.x_n) (mP (aI 3 (p.l1.length:Int)) z1) (mP (aI 0 ((400:Int) - p.x_n)) (iP ((400 - p.x_n)<(p.x_l.length:Int)) (mP (aI 3 (p.l1.length:Int)) z1) (mP (aI 0 ((p.l1.length:Int) - p.x_n)) (iP (((p.l1.length:Int) - p.x_n)<(p.x_l.length:Int)) (mP (0≤((p.l1.length:Int) - p.x_n)∧((p.l1.length:Int) - p.x_n)≤(p.x_l.length:Int)∧(p.x_l.length:Int)≤(p.x_l.length:Int)) (ay bT bp aQ ⟨fp p.x_h 18 (((p.l1.length:Int) - p.x_n).toNat) p.x_l.length,(p.x_l.drop (((p.l1.length:Int) - p.x_n).toNat)).take (p.x_l.length - (((p.l1.length:Int) - p.x_n).toNat))⟩ fun p2 r1=>mE (.prow 7 p.l1.length) (mP (r1.o.length=r1.o.length) (mP (p.l1.length=p.l1.length) (iP (r1.o=[]) (mP (aI 3 (p.l1.length:Int)) z0) (aM fun m1:List Ke=>mP (bg (m1.map au) (r1.o.map au)) (mP (bQ 104 (p.l1.length+m1.length)) (mP (aI 3 ((p.l1++m1).length:Int)) (qN p K ⟨p.l1++m1,max p.com1 (min p.x_c ((p.l1++m1).length:Int))⟩))))))))) (mP (aI 3 (p.l1.length:Int)) z0)))))))))) (by kernel_rfl) ?_
 dsimp only[sW]at hpre
 obtain⟨n0,n1,h_vl,h_ml,h_tl,hx⟩:=hpre
 have e_vl:=congrArg List.length h_vl
 have e_ml:=congrArg List.length h_ml
 have e_tl:=congrArg List.length h_tl
 simp only[apy]at e_vl e_ml e_tl
 obtain⟨hn,hks,hlen,hb,hq1,hq2,hb0⟩:=hx
 refine aV (by(try dsimp only[fo]);repeat(first|assumption|omega|apply And.intro)) ?_
 refine be (be ?_)
 apply iI<;>intro hc1
 refine be ?_
 exact lC hK
 apply iI<;>intro hc2
 refine be ?_
 exact lC hK
 refine be ?_
 apply iI<;>intro hc3
 refine be ?_
 exact lC hK
 refine be ?_
 apply iI<;>intro hc4
 refine cz ?_
 refine bW fun r1 hi5=> ?_
 dsimp only[aQ]at hi5
 have hv:=hi5
 have hlhi5:=hi5.2
 (try simp only[apL,apW]at hlhi5)
 refine aH (cz (aH ?_))
 apply iI<;>intro hc6
 have hc6l:(r1.o).length=0:=(by rw[hc6];rfl)
 refine be ?_
 exact lC hK
 have hc6l:0<(r1.o).length:=List.length_pos_iff.2 hc6
 refine aR r1.o ?_
 refine mI (show bg (r1.o.map au) (r1.o.map au) from cF _) (tZ (be ?_))
 exact lC hK
 refine be ?_
 exact lC hK
noncomputable def nc_ca4_1_1:EE 51 1:=bA (fun us M=>aA (aA (Nat.beq (zC M 0 8) 1) (Nat.beq (zC M 0 1) 1)) (kx (cT M 0 11))) (nE bt aa8) eS
noncomputable def JH:NN:=bB Jz nc_ca4_1_1.2 [(0,4),(1,20),(2,15),(3,15)] (fun us=>aA (Nat.beq (aC us 2 0) 0) (Nat.beq (aC us 3 0) 3))
structure jU where (l0:List Ke) (com0 g0 g1 g2 g3 x_n x_c:Int) (x_vh:Value) (x_vl:List Int) (x_mh:Value) (x_ml:List Int) (x_h:Value) (x_l:List Ke) (x_th:Value) (x_tl:List Ke) (now:Int)
abbrev FK:=Ad
def nc (p:jU) (r:FK):Prop:=r.g0=(p.l0.length:Int)∧r.g1=max p.g1 p.x_n∧ib 3 p.com0 r.com0 [r.g0,r.g1,p.g2,p.g3]
noncomputable def Tg (p:jU):IE:=([.ptr 0 0,.sy (.int 0 p.now),dL 1,eR 4 1 p.x_n p.x_c 0 [] 0 p.x_vh p.x_vl p.x_mh p.x_ml p.x_h p.x_l p.x_th p.x_tl],(CN p.l0 p.com0 p.g0 p.g1 p.g2 p.g3),10)
noncomputable def uN (p:jU) (K:KE) (r:FK):Bool:=K .nilS (CN p.l0 r.com0 r.g0 r.g1 p.g2 p.g3) 10
noncomputable def Iz (p:jU) (K:KE):Bool:=ae fun r=>iP (nc p r) (uN p K r) true
def sJ (p:jU):Prop:=0≤p.now∧p.now≤1000000∧p.x_vl=[]∧p.x_ml=[]∧p.x_l=[]∧p.x_tl=[]∧0≤p.x_n∧p.x_n≤(p.l0.length:Int)∧p.l0.length≤400∧p.x_c=0
theorem Ko {p:jU} {K:KE} (hK:Iz p K=true) {r:FK} (h:nc p r):uN p K r=true:=ax h (aq hK r)
theorem aaS:Vf sJ Iz 1 JH aJ bZ Tg:=by
 intro p K hpre hK
 refine Eq.trans (b:=(aL vw fm ⟨p.x_n,p.x_c,p.x_vh,p.x_vl,p.x_mh,p.x_ml,p.x_h,p.x_l,p.x_th,p.x_tl⟩ fun p1=>mP (aI 0 p.x_n) (iP ((p.l0.length:Int)<p.x_n) (uN p K ⟨p.com0,p.g0,p.g1⟩) (aM fun p2:iS=>mP (iM ⟨p.l0,p.com0,p.g0,max p.g1 p.x_n,p.g2,p.g3⟩=iM p2) (ae fun r1:my=>iP (eZ p2 r1) (uN {p with l0:=p2.l,g2:=p2.c2,g3:=p2.c3} K ⟨r1.com,(p2.l.length:Int),p2.c1⟩) true))))) (by kernel_rfl) ?_
 dsimp only[sJ]at hpre
 obtain⟨n0,n1,h_vl,h_ml,h_l,h_tl,hx⟩:=hpre
 have e_vl:=congrArg List.length h_vl
 have e_ml:=congrArg List.length h_ml
 have e_l:=congrArg List.length h_l
 have e_tl:=congrArg List.length h_tl
 simp only[apy]at e_vl e_ml e_l e_tl
 obtain⟨hx1,hx2,hx3,hx4⟩:=hx
 refine aV (by(try dsimp only[fm]);repeat(first|assumption|omega|apply And.intro)) ?_
 refine be ?_
 apply iI<;>intro hc1
 exact Ko hK (by dsimp only[nc]<;>(first|(exfalso;omega)|exact⟨rfl,rfl,hi0⟩))
 refine fu (.mk ..) rfl fun r1 hi2=> ?_
 dsimp only[eZ]at hi2
 exact Ko (p:=p) hK (by dsimp only[nc]<;>(first|(exfalso;omega)|exact⟨rfl,rfl,hi2⟩))
noncomputable def nc_ck4_1_1:EE 51 1:=bA (fun us M=>aA (aA (Nat.beq (zC M 0 8) 0) (Nat.beq (zC M 0 1) 1)) (kx (cT M 0 11))) (nE bt aaS) eS
noncomputable def Jq:NN:=bB JH nc_ck4_1_1.2 [(0,4),(1,20),(2,15),(3,15)] (fun us=>aA (Nat.beq (aC us 2 0) 1) (Nat.beq (aC us 3 0) 4))
noncomputable def Nv (l2:List Ke) (com2:Int):T:=(n2 (n2 (n2 (n0 (aO l2)) (bu 0) .leaf) am (n2 (n0 am) (bm true 9 4) .leaf)) (eX 1 4 2 3 2 4 5) (n2 (n2 (n0 (ca 0 0 0 0)) am .leaf) (bj 6 4 2 7 l2.length com2 false 8) (n0 am)))
abbrev Gl:=pU
noncomputable def Tm (p:Gl):IE:=([.ptr 0 0,.sy (.int 0 p.now)],(Nv p.l2 p.com2),10)
noncomputable def XG (p:Gl) (K:KE):Bool:=K .nilS (Nv p.l2 p.com2) 10
def sO (p:Gl):Prop:=0≤p.now∧p.now≤1000000
theorem aaZ:Vf sO XG 1 Jq aJ eC Tm:=by
 intro p K hpre hK
 refine Eq.trans (b:=(iP ((2:Int)≤p.now) (cu (K .nilS (Nv p.l2 p.com2) 10)) (K .nilS (Nv p.l2 p.com2) 10))) (by kernel_rfl) ?_
 dsimp only[sO]at hpre
 obtain⟨n0,n1⟩:=hpre
 apply iI<;>intro hc1
 refine bk ?_
 exact hK
 exact hK
noncomputable def nc_cf4_1_2:EE 50 1:=bA (fun us M=>aA (aA (Nat.beq (zC M 0 8) 2) (Nat.beq (zC M 0 1) 1)) (kx (cT M 0 11))) (nE dm aaZ) nc_cf4_1_1
noncomputable def Jy:NN:=ck Jq nc_cf4_1_2.2 [(0,4),(1,20)]
noncomputable def acs (l2:List Ke) (com2:Int):T:=(n2 (n2 (n2 (n0 am) (bj 7 4 2 8 l2.length com2 false 9) .leaf) (QU 0 1 (l2.length:Int) []) (n2 (n0 (ca 0 0 0 0)) am .leaf)) (eX 2 4 3 4 2 5 6) (n2 (n2 (n0 (aO l2)) (bu 0) .leaf) am (n2 (n0 am) (bm true 10 4) .leaf)))
abbrev pY:=nH
abbrev FN:=pr
def qA (p:pY) (r:FN):Prop:=r.l2=p.l2++p.x_l∧r.com2=max p.com2 (min p.x_c (r.l2.length:Int))
noncomputable def Tu (p:pY):IE:=([.ptr 0 0,.sy (.int 0 p.now),dL 0,eR 3 1 p.x_n p.x_c 0 [] 0 p.x_vh p.x_vl p.x_mh p.x_ml p.x_h p.x_l p.x_th p.x_tl],(Nv p.l2 p.com2),10)
noncomputable def qM (p:pY) (K:KE) (r:FN):Bool:=K (.sl 1 0 1 (.ex 1)) (acs r.l2 r.com2) 11
noncomputable def II (p:pY) (K:KE):Bool:=ae fun r=>iP (qA p r) (qM p K r) true
def sV (p:pY):Prop:=0≤p.now∧p.now≤1000000∧p.x_vl=[]∧p.x_ml=[]∧p.x_tl=[]∧p.x_n=(p.l2.length:Int)∧bF p.x_l∧p.l2.length+p.x_l.length≤400∧0≤(p.l2.length:Int)∧0≤p.x_c∧p.x_c≤400∧0≤0
theorem lB {p:pY} {K:KE} (hK:II p K=true) {r:FN} (h:qA p r:=by dsimp only[qA]<;>(first|(exfalso;omega)|(refine⟨?_,rfl⟩;rw[apS (show p.x_l.length=0 by omega)];simp;done)|(refine⟨?_,rfl⟩;rw[hv.1,show((p.l2.length:Int) - p.x_n).toNat=0 by omega];simp;done))):qM p K r=true:=ax h (aq hK r)
theorem aa7:Vf sV II 1 Jy aJ bZ Tu:=by
 intro p K hpre hK
 refine Eq.trans (b:=(let z0:Bool:=(qM p K ⟨p.l2,max p.com2 (min p.x_c (p.l2.length:Int))⟩);let z1:Bool:=(qM p K ⟨p.l2,p.com2⟩);aL vy fo ⟨p.x_n,p.x_c,p.x_vh,p.x_vl,p.x_mh,p.x_ml,p.x_h,p.x_l,p.x_th,p.x_tl⟩ fun p1=>mP (aI 0 p.x_n) (mP (aI 0 p.x_c) (iP (p.x_n<(0:Int)) (mP (aI 3 (p.l2.length:Int)) z1) (iP ((p.l2.length:Int)<p.x_n) (mP (aI 3 (p.l2.length:Int)) z1) (mP (aI 0 ((400:Int) - p.x_n)) (iP ((400 - p.x_n)<(p.x_l.length:Int)) (mP (aI 3 (p.l2.length:Int)) z1) (mP (aI 0 ((p.l2.length:Int) - p.x_n)) (iP (((p.l2.length:Int) - p.x_n)<(p.x_l.length:Int)) (mP (0≤((p.l2.length:Int) - p.x_n)∧((p.l2.length:Int) - p.x_n)≤(p.x_l.length:Int)∧(p.x_l.length:Int)≤(p.x_l.length:Int)) (ay bT bp aQ ⟨fp p.x_h 18 (((p.l2.length:Int) - p.x_n).toNat) p.x_l.length,(p.x_l.drop (((p.l2.length:Int) - p.x_n).toNat)).take (p.x_l.length - (((p.l2.length:Int) - p.x_n).toNat))⟩ fun p2 r1=>mE (.prow 7 p.l2.length) (mP (r1.o.length=r1.o.length) (mP (p.l2.length=p.l2.length) (iP (r1.o=[]) (mP (aI 3 (p.l2.length:Int)) z0) (aM fun m1:List Ke=>mP (bg (m1.map au) (r1.o.map au)) (mP (bQ 104 (p.l2.length+m1.length)) (mP (aI 3 ((p.l2++m1).length:Int)) (qM p K ⟨p.l2++m1,max p.com2 (min p.x_c ((p.l2++m1).length:Int))⟩))))))))) (mP (aI 3 (p.l2.length:Int)) z0)))))))))) (by kernel_rfl) ?_
 dsimp only[sV]at hpre
 obtain⟨n0,n1,h_vl,h_ml,h_tl,hx⟩:=hpre
 have e_vl:=congrArg List.length h_vl
 have e_ml:=congrArg List.length h_ml
 have e_tl:=congrArg List.length h_tl
 simp only[apy]at e_vl e_ml e_tl
 obtain⟨hn,hks,hlen,hb,hq1,hq2,hb0⟩:=hx
 refine aV (by(try dsimp only[fo]);repeat(first|assumption|omega|apply And.intro)) ?_
 refine be (be ?_)
 apply iI<;>intro hc1
 refine be ?_
 exact lB hK
 apply iI<;>intro hc2
 refine be ?_
 exact lB hK
 refine be ?_
 apply iI<;>intro hc3
 refine be ?_
 exact lB hK
 refine be ?_
 apply iI<;>intro hc4
 refine cz ?_
 refine bW fun r1 hi5=> ?_
 dsimp only[aQ]at hi5
 have hv:=hi5
 have hlhi5:=hi5.2
 (try simp only[apL,apW]at hlhi5)
 refine aH (cz (aH ?_))
 apply iI<;>intro hc6
 have hc6l:(r1.o).length=0:=(by rw[hc6];rfl)
 refine be ?_
 exact lB hK
 have hc6l:0<(r1.o).length:=List.length_pos_iff.2 hc6
 refine aR r1.o ?_
 refine mI (show bg (r1.o.map au) (r1.o.map au) from cF _) (tZ (be ?_))
 exact lB hK
 refine be ?_
 exact lB hK
noncomputable def nc_ca4_1_2:EE 51 1:=bA (fun us M=>aA (aA (Nat.beq (zC M 0 8) 2) (Nat.beq (zC M 0 1) 1)) (kx (cT M 0 11))) (nE bt aa7) nc_ca4_1_1
noncomputable def JG:NN:=bB Jy nc_ca4_1_2.2 [(0,4),(1,20),(2,15),(3,15)] (fun us=>aA (Nat.beq (aC us 2 0) 0) (Nat.beq (aC us 3 0) 3))
abbrev pR:=jU
abbrev FJ:=Ac
def na (p:pR) (r:FJ):Prop:=r.g0=(p.l0.length:Int)∧r.g2=max p.g2 p.x_n∧ib 3 p.com0 r.com0 [r.g0,p.g1,r.g2,p.g3]
noncomputable def Tf (p:pR):IE:=([.ptr 0 0,.sy (.int 0 p.now),dL 2,eR 4 1 p.x_n p.x_c 0 [] 0 p.x_vh p.x_vl p.x_mh p.x_ml p.x_h p.x_l p.x_th p.x_tl],(CN p.l0 p.com0 p.g0 p.g1 p.g2 p.g3),10)
noncomputable def uM (p:pR) (K:KE) (r:FJ):Bool:=K .nilS (CN p.l0 r.com0 r.g0 p.g1 r.g2 p.g3) 10
noncomputable def Iy (p:pR) (K:KE):Bool:=ae fun r=>iP (na p r) (uM p K r) true
def sI (p:pR):Prop:=0≤p.now∧p.now≤1000000∧p.x_vl=[]∧p.x_ml=[]∧p.x_l=[]∧p.x_tl=[]∧0≤p.x_n∧p.x_n≤(p.l0.length:Int)∧p.l0.length≤400∧p.x_c=0
theorem Km {p:pR} {K:KE} (hK:Iy p K=true) {r:FJ} (h:na p r):uM p K r=true:=ax h (aq hK r)
theorem aaR:Vf sI Iy 1 JG aJ bZ Tf:=by
 intro p K hpre hK
 refine Eq.trans (b:=(aL vw fm ⟨p.x_n,p.x_c,p.x_vh,p.x_vl,p.x_mh,p.x_ml,p.x_h,p.x_l,p.x_th,p.x_tl⟩ fun p1=>mP (aI 0 p.x_n) (iP ((p.l0.length:Int)<p.x_n) (uM p K ⟨p.com0,p.g0,p.g2⟩) (aM fun p2:iS=>mP (iM ⟨p.l0,p.com0,p.g0,p.g1,max p.g2 p.x_n,p.g3⟩=iM p2) (ae fun r1:my=>iP (eZ p2 r1) (uM {p with l0:=p2.l,g1:=p2.c1,g3:=p2.c3} K ⟨r1.com,(p2.l.length:Int),p2.c2⟩) true))))) (by kernel_rfl) ?_
 dsimp only[sI]at hpre
 obtain⟨n0,n1,h_vl,h_ml,h_l,h_tl,hx⟩:=hpre
 have e_vl:=congrArg List.length h_vl
 have e_ml:=congrArg List.length h_ml
 have e_l:=congrArg List.length h_l
 have e_tl:=congrArg List.length h_tl
 simp only[apy]at e_vl e_ml e_l e_tl
 obtain⟨hx1,hx2,hx3,hx4⟩:=hx
 refine aV (by(try dsimp only[fm]);repeat(first|assumption|omega|apply And.intro)) ?_
 refine be ?_
 apply iI<;>intro hc1
 exact Km hK (by dsimp only[na]<;>(first|(exfalso;omega)|exact⟨rfl,rfl,hi0⟩))
 refine fu (.mk ..) rfl fun r1 hi2=> ?_
 dsimp only[eZ]at hi2
 exact Km (p:=p) hK (by dsimp only[na]<;>(first|(exfalso;omega)|exact⟨rfl,rfl,hi2⟩))
noncomputable def nc_ck4_1_2:EE 51 1:=bA (fun us M=>aA (aA (Nat.beq (zC M 0 8) 0) (Nat.beq (zC M 0 1) 1)) (kx (cT M 0 11))) (nE bt aaR) eS
noncomputable def Jp:NN:=bB JG nc_ck4_1_2.2 [(0,4),(1,20),(2,15),(3,15)] (fun us=>aA (Nat.beq (aC us 2 0) 2) (Nat.beq (aC us 3 0) 4))
noncomputable def Nu (l3:List Ke) (com3:Int):T:=(n2 (n2 (n2 (n0 (aO l3)) (bu 0) .leaf) am (n2 (n0 am) (bm true 9 4) .leaf)) (eX 1 4 2 3 3 4 5) (n2 (n2 (n0 (ca 0 0 0 0)) am .leaf) (bj 6 4 3 7 l3.length com3 false 8) (n0 am)))
structure Aj where (l3:List Ke) (com3 now:Int)
noncomputable def Tk (p:Aj):IE:=([.ptr 0 0,.sy (.int 0 p.now)],(Nu p.l3 p.com3),10)
noncomputable def XE (p:Aj) (K:KE):Bool:=K .nilS (Nu p.l3 p.com3) 10
def sN (p:Aj):Prop:=0≤p.now∧p.now≤1000000
theorem aaY:Vf sN XE 1 Jp aJ eC Tk:=by
 intro p K hpre hK
 refine Eq.trans (b:=(iP ((2:Int)≤p.now) (cu (K .nilS (Nu p.l3 p.com3) 10)) (K .nilS (Nu p.l3 p.com3) 10))) (by kernel_rfl) ?_
 dsimp only[sN]at hpre
 obtain⟨n0,n1⟩:=hpre
 apply iI<;>intro hc1
 refine bk ?_
 exact hK
 exact hK
noncomputable def nc_cf4_1_3:EE 50 1:=bA (fun us M=>aA (aA (Nat.beq (zC M 0 8) 3) (Nat.beq (zC M 0 1) 1)) (kx (cT M 0 11))) (nE dm aaY) nc_cf4_1_2
noncomputable def Jw:NN:=ck Jp nc_cf4_1_3.2 [(0,4),(1,20)]
noncomputable def acr (l3:List Ke) (com3:Int):T:=(n2 (n2 (n2 (n0 am) (bj 7 4 3 8 l3.length com3 false 9) .leaf) (QU 0 1 (l3.length:Int) []) (n2 (n0 (ca 0 0 0 0)) am .leaf)) (eX 2 4 3 4 3 5 6) (n2 (n2 (n0 (aO l3)) (bu 0) .leaf) am (n2 (n0 am) (bm true 10 4) .leaf)))
abbrev pX:=rT
structure Ae where (l3:List Ke) (com3:Int)
def qz (p:pX) (r:Ae):Prop:=r.l3=p.l3++p.x_l∧r.com3=max p.com3 (min p.x_c (r.l3.length:Int))
noncomputable def Tt (p:pX):IE:=([.ptr 0 0,.sy (.int 0 p.now),dL 0,eR 3 1 p.x_n p.x_c 0 [] 0 p.x_vh p.x_vl p.x_mh p.x_ml p.x_h p.x_l p.x_th p.x_tl],(Nu p.l3 p.com3),10)
noncomputable def qK (p:pX) (K:KE) (r:Ae):Bool:=K (.sl 1 0 1 (.ex 1)) (acr r.l3 r.com3) 11
noncomputable def IH (p:pX) (K:KE):Bool:=ae fun r=>iP (qz p r) (qK p K r) true
def sU (p:pX):Prop:=0≤p.now∧p.now≤1000000∧p.x_vl=[]∧p.x_ml=[]∧p.x_tl=[]∧p.x_n=(p.l3.length:Int)∧bF p.x_l∧p.l3.length+p.x_l.length≤400∧0≤(p.l3.length:Int)∧0≤p.x_c∧p.x_c≤400∧0≤0
theorem lA {p:pX} {K:KE} (hK:IH p K=true) {r:Ae} (h:qz p r:=by dsimp only[qz]<;>(first|(exfalso;omega)|(refine⟨?_,rfl⟩;rw[apS (show p.x_l.length=0 by omega)];simp;done)|(refine⟨?_,rfl⟩;rw[hv.1,show((p.l3.length:Int) - p.x_n).toNat=0 by omega];simp;done))):qK p K r=true:=ax h (aq hK r)
theorem aa6:Vf sU IH 1 Jw aJ bZ Tt:=by
 intro p K hpre hK
 refine Eq.trans (b:=(let z0:Bool:=(qK p K ⟨p.l3,max p.com3 (min p.x_c (p.l3.length:Int))⟩);let z1:Bool:=(qK p K ⟨p.l3,p.com3⟩);aL vy fo ⟨p.x_n,p.x_c,p.x_vh,p.x_vl,p.x_mh,p.x_ml,p.x_h,p.x_l,p.x_th,p.x_tl⟩ fun p1=>mP (aI 0 p.x_n) (mP (aI 0 p.x_c) (iP (p.x_n<(0:Int)) (mP (aI 3 (p.l3.length:Int)) z1) (iP ((p.l3.length:Int)<p.x_n) (mP (aI 3 (p.l3.length:Int)) z1) (mP (aI 0 ((400:Int) - p.x_n)) (iP ((400 - p.x_n)<(p.x_l.length:Int)) (mP (aI 3 (p.l3.length:Int)) z1) (mP (aI 0 ((p.l3.length:Int) - p.x_n)) (iP (((p.l3.length:Int) - p.x_n)<(p.x_l.length:Int)) (mP (0≤((p.l3.length:Int) - p.x_n)∧((p.l3.length:Int) - p.x_n)≤(p.x_l.length:Int)∧(p.x_l.length:Int)≤(p.x_l.length:Int)) (ay bT bp aQ ⟨fp p.x_h 18 (((p.l3.length:Int) - p.x_n).toNat) p.x_l.length,(p.x_l.drop (((p.l3.length:Int) - p.x_n).toNat)).take (p.x_l.length - (((p.l3.length:Int) - p.x_n).toNat))⟩ fun p2 r1=>mE (.prow 7 p.l3.length) (mP (r1.o.length=r1.o.length) (mP (p.l3.length=p.l3.length) (iP (r1.o=[]) (mP (aI 3 (p.l3.length:Int)) z0) (aM fun m1:List Ke=>mP (bg (m1.map au) (r1.o.map au)) (mP (bQ 104 (p.l3.length+m1.length)) (mP (aI 3 ((p.l3++m1).length:Int)) (qK p K ⟨p.l3++m1,max p.com3 (min p.x_c ((p.l3++m1).length:Int))⟩))))))))) (mP (aI 3 (p.l3.length:Int)) z0)))))))))) (by kernel_rfl) ?_
 dsimp only[sU]at hpre
 obtain⟨n0,n1,h_vl,h_ml,h_tl,hx⟩:=hpre
 have e_vl:=congrArg List.length h_vl
 have e_ml:=congrArg List.length h_ml
 have e_tl:=congrArg List.length h_tl
 simp only[apy]at e_vl e_ml e_tl
 obtain⟨hn,hks,hlen,hb,hq1,hq2,hb0⟩:=hx
 refine aV (by(try dsimp only[fo]);repeat(first|assumption|omega|apply And.intro)) ?_
 refine be (be ?_)
 apply iI<;>intro hc1
 refine be ?_
 exact lA hK
 apply iI<;>intro hc2
 refine be ?_
 exact lA hK
 refine be ?_
 apply iI<;>intro hc3
 refine be ?_
 exact lA hK
 refine be ?_
 apply iI<;>intro hc4
 refine cz ?_
 refine bW fun r1 hi5=> ?_
 dsimp only[aQ]at hi5
 have hv:=hi5
 have hlhi5:=hi5.2
 (try simp only[apL,apW]at hlhi5)
 refine aH (cz (aH ?_))
 apply iI<;>intro hc6
 have hc6l:(r1.o).length=0:=(by rw[hc6];rfl)
 refine be ?_
 exact lA hK
 have hc6l:0<(r1.o).length:=List.length_pos_iff.2 hc6
 refine aR r1.o ?_
 refine mI (show bg (r1.o.map au) (r1.o.map au) from cF _) (tZ (be ?_))
 exact lA hK
 refine be ?_
 exact lA hK
noncomputable def nc_ca4_1_3:EE 51 1:=bA (fun us M=>aA (aA (Nat.beq (zC M 0 8) 3) (Nat.beq (zC M 0 1) 1)) (kx (cT M 0 11))) (nE bt aa6) nc_ca4_1_2
noncomputable def JF:NN:=bB Jw nc_ca4_1_3.2 [(0,4),(1,20),(2,15),(3,15)] (fun us=>aA (Nat.beq (aC us 2 0) 0) (Nat.beq (aC us 3 0) 3))
abbrev pQ:=jU
structure FI where (com0 g0 g3:Int)
def mZ (p:pQ) (r:FI):Prop:=r.g0=(p.l0.length:Int)∧r.g3=max p.g3 p.x_n∧ib 3 p.com0 r.com0 [r.g0,p.g1,p.g2,r.g3]
noncomputable def Te (p:pQ):IE:=([.ptr 0 0,.sy (.int 0 p.now),dL 3,eR 4 1 p.x_n p.x_c 0 [] 0 p.x_vh p.x_vl p.x_mh p.x_ml p.x_h p.x_l p.x_th p.x_tl],(CN p.l0 p.com0 p.g0 p.g1 p.g2 p.g3),10)
noncomputable def uL (p:pQ) (K:KE) (r:FI):Bool:=K .nilS (CN p.l0 r.com0 r.g0 p.g1 p.g2 r.g3) 10
noncomputable def Ix (p:pQ) (K:KE):Bool:=ae fun r=>iP (mZ p r) (uL p K r) true
def sH (p:pQ):Prop:=0≤p.now∧p.now≤1000000∧p.x_vl=[]∧p.x_ml=[]∧p.x_l=[]∧p.x_tl=[]∧0≤p.x_n∧p.x_n≤(p.l0.length:Int)∧p.l0.length≤400∧p.x_c=0
theorem Kl {p:pQ} {K:KE} (hK:Ix p K=true) {r:FI} (h:mZ p r):uL p K r=true:=ax h (aq hK r)
theorem aaQ:Vf sH Ix 1 JF aJ bZ Te:=by
 intro p K hpre hK
 refine Eq.trans (b:=(aL vw fm ⟨p.x_n,p.x_c,p.x_vh,p.x_vl,p.x_mh,p.x_ml,p.x_h,p.x_l,p.x_th,p.x_tl⟩ fun p1=>mP (aI 0 p.x_n) (iP ((p.l0.length:Int)<p.x_n) (uL p K ⟨p.com0,p.g0,p.g3⟩) (aM fun p2:iS=>mP (iM ⟨p.l0,p.com0,p.g0,p.g1,p.g2,max p.g3 p.x_n⟩=iM p2) (ae fun r1:my=>iP (eZ p2 r1) (uL {p with l0:=p2.l,g1:=p2.c1,g2:=p2.c2} K ⟨r1.com,(p2.l.length:Int),p2.c3⟩) true))))) (by kernel_rfl) ?_
 dsimp only[sH]at hpre
 obtain⟨n0,n1,h_vl,h_ml,h_l,h_tl,hx⟩:=hpre
 have e_vl:=congrArg List.length h_vl
 have e_ml:=congrArg List.length h_ml
 have e_l:=congrArg List.length h_l
 have e_tl:=congrArg List.length h_tl
 simp only[apy]at e_vl e_ml e_l e_tl
 obtain⟨hx1,hx2,hx3,hx4⟩:=hx
 refine aV (by(try dsimp only[fm]);repeat(first|assumption|omega|apply And.intro)) ?_
 refine be ?_
 apply iI<;>intro hc1
 exact Kl hK (by dsimp only[mZ]<;>(first|(exfalso;omega)|exact⟨rfl,rfl,hi0⟩))
 refine fu (.mk ..) rfl fun r1 hi2=> ?_
 dsimp only[eZ]at hi2
 exact Kl (p:=p) hK (by dsimp only[mZ]<;>(first|(exfalso;omega)|exact⟨rfl,rfl,hi2⟩))
noncomputable def nc_ck4_1_3:EE 51 1:=bA (fun us M=>aA (aA (Nat.beq (zC M 0 8) 0) (Nat.beq (zC M 0 1) 1)) (kx (cT M 0 11))) (nE bt aaQ) eS
noncomputable def Jo:NN:=bB JF nc_ck4_1_3.2 [(0,4),(1,20),(2,15),(3,15)] (fun us=>aA (Nat.beq (aC us 2 0) 3) (Nat.beq (aC us 3 0) 4))
noncomputable def LQ (l1:List Ke) (com1 b1 u c0 c1 c2:Int) (h2:Value) (e2:List Ke) (h3:Value) (e3:List Ke) (k0:Nat):T:=(n2 (n2 (n2 (n0 (nX 11 4 12 3)) (ig 8 3 1 9 k0 b1 com1 10) (n0 am)) (o_G 2 c1 com1 [] h2 e2 3 c2 h3 e3) (n2 (n0 (aO l1)) am .leaf)) (nU 2 3 3 4 1 5 4 6 u 7) (n2 (n2 (n0 (aE 1 2 3)) (bu 0) (n0 (aE 1 2 3))) (aE 1 2 3) (n2 (n0 (cP 1 c0 2 c1 3 c2)) (bL 0) .leaf)))
structure wi where (l1:List Ke) (com1 b1 u c0 c1 c2 now:Int)
structure Ps where (h2:Value) (e2:List Ke) (h3:Value) (e3:List Ke)
def xi (p:wi) (r:Ps):Prop:=r.e2=p.l1.drop p.c1.toNat∧r.e3=p.l1.drop p.c2.toNat
noncomputable def aae (p:wi):IE:=([.ptr 0 0,.sy (.int 0 p.now)],(Nx p.l1 p.com1 p.b1 p.u p.c0 p.c1 p.c2),12)
noncomputable def VD (p:wi) (K:KE) (r:Ps):Bool:=K (.sl 1 0 2 (.rest 0)) (LQ p.l1 p.com1 p.b1 p.u p.c0 p.c1 p.c2 r.h2 r.e2 r.h3 r.e3 p.l1.length) 13
noncomputable def QL (p:wi) (K:KE):Bool:=ae fun r=>iP (xi p r) (VD p K r) true
def ze (p:wi):Prop:=0≤p.now∧p.now≤1000000∧p.l1.length≤400∧0≤p.com1∧p.com1≤400∧(0≤p.c1∧p.c1≤(p.l1.length:Int)∧(p.l1.length:Int)≤p.c1+16)∧(0≤p.c2∧p.c2≤(p.l1.length:Int)∧(p.l1.length:Int)≤p.c2+16)
theorem Ss {p:wi} {K:KE} (hK:QL p K=true) {r:Ps} (h:xi p r:=by dsimp only[xi]<;>exact⟨zQ hi1.1 (by omega),zQ hi2.1 (by omega)⟩):VD p K r=true:=ax h (aq hK r)
theorem afH:Vf ze QL 1 Jo aJ eC aae:=by
 intro p K hpre hK
 refine Eq.trans (b:=(mP (aI 0 ((p.l1.length:Int) - p.c1)) (mP (aI 0 (p.c1+(min ((p.l1.length:Int) - p.c1) 16))) (mP (p.l1.length=p.l1.length∧0≤p.c1∧p.c1≤(p.c1+(min ((p.l1.length:Int) - p.c1) (16:Int)))∧(p.c1+(min ((p.l1.length:Int) - p.c1) (16:Int)))≤(p.l1.length:Int)) (ay cN bJ aZ ⟨p.l1,p.c1.toNat,((p.c1+(min ((p.l1.length:Int) - p.c1) (16:Int))).toNat) - p.c1.toNat⟩ fun p1 r1=>mP (aI 3 p.c1) (mP (aI 3 p.com1) (mP (aI 0 ((p.l1.length:Int) - p.c2)) (mP (aI 0 (p.c2+(min ((p.l1.length:Int) - p.c2) 16))) (mP (p.l1.length=p1.l.length∧0≤p.c2∧p.c2≤(p.c2+(min ((p.l1.length:Int) - p.c2) (16:Int)))∧(p.c2+(min ((p.l1.length:Int) - p.c2) (16:Int)))≤(p.l1.length:Int)) (ay cN bJ aZ ⟨p1.l,p.c2.toNat,((p.c2+(min ((p.l1.length:Int) - p.c2) (16:Int))).toNat) - p.c2.toNat⟩ fun p2 r2=>mP (aI 3 p.c2) (mP (aI 3 p.com1) (iP (p.u≤p.now) (cu (K (.sl 1 0 2 (.rest 0)) (LQ p2.l p.com1 p.b1 p.u p.c0 p.c1 p.c2 r1.h r1.o r2.h r2.o p.l1.length) 13)) (K (.sl 1 0 2 (.rest 0)) (LQ p2.l p.com1 p.b1 p.u p.c0 p.c1 p.c2 r1.h r1.o r2.h r2.o p.l1.length) 13))))))))))))) (by kernel_rfl) ?_
 dsimp only[ze]at hpre
 obtain⟨n0,n1,hx⟩:=hpre
 obtain⟨hx1,hx2,hx3,⟨u2,v2,w2⟩,⟨u3,v3,w3⟩⟩:=hx
 refine be (be (cz ?_))
 refine cV fun r1 hi1=> ?_
 dsimp only[aZ]at hi1 ⊢
 have hlhi1:=hi1.2
 (try simp only[apL,apW]at hlhi1)
 refine be (be (be (be (tZ ?_))))
 refine cV fun r2 hi2=> ?_
 dsimp only[aZ]at hi2 ⊢
 have hlhi2:=hi2.2
 (try simp only[apL,apW]at hlhi2)
 refine be (be ?_)
 apply iI<;>intro hc3
 refine bk ?_
 exact Ss (r:=⟨r1.h,r1.o,r2.h,r2.o⟩) hK
 exact Ss (r:=⟨r1.h,r1.o,r2.h,r2.o⟩) hK
noncomputable def nc_ch4_2:EE 50 1:=bA (fun us M=>aA (aA (Nat.beq (zC M 0 8) 1) (Nat.beq (zC M 0 1) 2)) (cT M 0 11)) (nE dm afH) nc_cf4_1_3
noncomputable def RY:NN:=ck Jo nc_ch4_2.2 [(0,4),(1,20)]
structure Gk where (l2:List Ke) (com2 b2 u2 d2_0 d2_1 d2_2 now:Int)
noncomputable def Gf (p:Gk):IE:=([.ptr 0 0,.sy (.int 0 p.now)],(Hb p.l2 p.com2 p.b2 p.u2 p.d2_0 p.d2_1 p.d2_2),12)
noncomputable def XD (p:Gk) (K:KE):Bool:=K .nilS (Hb p.l2 p.com2 p.b2 p.u2 p.d2_0 p.d2_1 p.d2_2) 12
def ln (p:Gk):Prop:=0≤p.now∧p.now≤1000000
theorem aaX:Vf ln XD 1 RY aJ eC Gf:=by
 intro p K hpre hK
 refine Eq.trans (b:=(let z0:Bool:=(K .nilS (Hb p.l2 p.com2 p.b2 p.u2 p.d2_0 p.d2_1 p.d2_2) 12);iP (p.u2≤p.now) (cu z0) z0)) (by kernel_rfl) ?_
 dsimp only[ln]at hpre
 obtain⟨n0,n1⟩:=hpre
 apply iI<;>intro hc1
 refine bk ?_
 exact hK
 exact hK
noncomputable def nc_cf4_2_2:EE 50 1:=bA (fun us M=>aA (aA (Nat.beq (zC M 0 8) 2) (Nat.beq (zC M 0 1) 2)) (cT M 0 11)) (nE dm aaX) nc_ch4_2
noncomputable def Jv:NN:=ck RY nc_cf4_2_2.2 [(0,4),(1,20)]
noncomputable def acq (l2:List Ke) (com2 b2 u2 d2_0 d2_1 d2_2:Int):T:=(n2 (n2 (n2 (n0 (nX 11 4 12 3)) (ig 8 3 2 9 l2.length b2 com2 10) (n0 am)) (QU 1 2 (l2.length:Int) []) (n2 (n0 (aO l2)) am .leaf)) (nU 2 3 3 4 2 5 4 6 u2 7) (n2 (n2 (n0 (aE 1 2 3)) (bu 0) (n0 (aE 1 2 3))) (aE 1 2 3) (n2 (n0 (cP 1 d2_0 2 d2_1 3 d2_2)) (bL 0) .leaf)))
structure pW where (l2:List Ke) (com2 b2 u2 d2_0 d2_1 d2_2 x_n x_c:Int) (x_vh:Value) (x_vl:List Int) (x_mh:Value) (x_ml:List Int) (x_h:Value) (x_l:List Ke) (x_th:Value) (x_tl:List Ke) (now:Int)
abbrev FM:=pr
def qy (p:pW) (r:FM):Prop:=r.l2=p.l2++p.x_l∧r.com2=max p.com2 (min p.x_c (r.l2.length:Int))
noncomputable def Ts (p:pW):IE:=([.ptr 0 0,.sy (.int 0 p.now),dL 1,eR 3 2 p.x_n p.x_c 0 [] 0 p.x_vh p.x_vl p.x_mh p.x_ml p.x_h p.x_l p.x_th p.x_tl],(Hb p.l2 p.com2 p.b2 p.u2 p.d2_0 p.d2_1 p.d2_2),12)
noncomputable def qJ (p:pW) (K:KE) (r:FM):Bool:=K (.sl 1 0 1 (.ex 1)) (acq r.l2 r.com2 p.b2 p.u2 p.d2_0 p.d2_1 p.d2_2) 13
noncomputable def IG (p:pW) (K:KE):Bool:=ae fun r=>iP (qy p r) (qJ p K r) true
def sT (p:pW):Prop:=0≤p.now∧p.now≤1000000∧p.x_vl=[]∧p.x_ml=[]∧p.x_tl=[]∧p.x_n=(p.l2.length:Int)∧bF p.x_l∧p.l2.length+p.x_l.length≤400∧p.b2≤(p.l2.length:Int)∧0≤p.x_c∧p.x_c≤400∧0≤p.b2
theorem ly {p:pW} {K:KE} (hK:IG p K=true) {r:FM} (h:qy p r:=by dsimp only[qy]<;>(first|(exfalso;omega)|(refine⟨?_,rfl⟩;rw[apS (show p.x_l.length=0 by omega)];simp;done)|(refine⟨?_,rfl⟩;rw[hv.1,show((p.l2.length:Int) - p.x_n).toNat=0 by omega];simp;done))):qJ p K r=true:=ax h (aq hK r)
theorem aa5:Vf sT IG 1 Jv aJ bZ Ts:=by
 intro p K hpre hK
 refine Eq.trans (b:=(let z0:Bool:=(qJ p K ⟨p.l2,max p.com2 (min p.x_c (p.l2.length:Int))⟩);let z1:Bool:=(qJ p K ⟨p.l2,p.com2⟩);aL Hx jO ⟨p.x_n,p.x_c,p.x_vh,p.x_vl,p.x_mh,p.x_ml,p.x_h,p.x_l,p.x_th,p.x_tl⟩ fun p1=>mP (aI 0 p.x_n) (mP (aI 0 p.x_c) (iP (p.x_n<p.b2) (mP (aI 3 (p.l2.length:Int)) z1) (iP ((p.l2.length:Int)<p.x_n) (mP (aI 3 (p.l2.length:Int)) z1) (mP (aI 0 ((400:Int) - p.x_n)) (iP ((400 - p.x_n)<(p.x_l.length:Int)) (mP (aI 3 (p.l2.length:Int)) z1) (mP (aI 0 ((p.l2.length:Int) - p.x_n)) (iP (((p.l2.length:Int) - p.x_n)<(p.x_l.length:Int)) (mP (0≤((p.l2.length:Int) - p.x_n)∧((p.l2.length:Int) - p.x_n)≤(p.x_l.length:Int)∧(p.x_l.length:Int)≤(p.x_l.length:Int)) (ay bT bp aQ ⟨fp p.x_h 18 (((p.l2.length:Int) - p.x_n).toNat) p.x_l.length,(p.x_l.drop (((p.l2.length:Int) - p.x_n).toNat)).take (p.x_l.length - (((p.l2.length:Int) - p.x_n).toNat))⟩ fun p2 r1=>mE (.prow 8 p.l2.length) (mP (r1.o.length=r1.o.length) (mP (p.l2.length=p.l2.length) (iP (r1.o=[]) (mP (aI 3 (p.l2.length:Int)) z0) (aM fun m1:List Ke=>mP (bg (m1.map au) (r1.o.map au)) (mP (bQ 104 (p.l2.length+m1.length)) (mP (aI 3 ((p.l2++m1).length:Int)) (qJ p K ⟨p.l2++m1,max p.com2 (min p.x_c ((p.l2++m1).length:Int))⟩))))))))) (mP (aI 3 (p.l2.length:Int)) z0)))))))))) (by kernel_rfl) ?_
 dsimp only[sT]at hpre
 obtain⟨n0,n1,h_vl,h_ml,h_tl,hx⟩:=hpre
 have e_vl:=congrArg List.length h_vl
 have e_ml:=congrArg List.length h_ml
 have e_tl:=congrArg List.length h_tl
 simp only[apy]at e_vl e_ml e_tl
 obtain⟨hn,hks,hlen,hb,hq1,hq2,hb0⟩:=hx
 refine aV (by(try dsimp only[jO]);repeat(first|assumption|omega|apply And.intro)) ?_
 refine be (be ?_)
 apply iI<;>intro hc1
 refine be ?_
 exact ly hK
 apply iI<;>intro hc2
 refine be ?_
 exact ly hK
 refine be ?_
 apply iI<;>intro hc3
 refine be ?_
 exact ly hK
 refine be ?_
 apply iI<;>intro hc4
 refine cz ?_
 refine bW fun r1 hi5=> ?_
 dsimp only[aQ]at hi5
 have hv:=hi5
 have hlhi5:=hi5.2
 (try simp only[apL,apW]at hlhi5)
 refine aH (cz (aH ?_))
 apply iI<;>intro hc6
 have hc6l:(r1.o).length=0:=(by rw[hc6];rfl)
 refine be ?_
 exact ly hK
 have hc6l:0<(r1.o).length:=List.length_pos_iff.2 hc6
 refine aR r1.o ?_
 refine mI (show bg (r1.o.map au) (r1.o.map au) from cF _) (tZ (be ?_))
 exact ly hK
 refine be ?_
 exact ly hK
noncomputable def nc_ca4_2_2:EE 51 1:=bA (fun us M=>aA (aA (Nat.beq (zC M 0 8) 2) (Nat.beq (zC M 0 1) 2)) (cT M 0 11)) (nE bt aa5) eS
noncomputable def JE:NN:=bB Jv nc_ca4_2_2.2 [(0,4),(1,20),(2,15),(3,15)] (fun us=>aA (Nat.beq (aC us 2 0) 1) (Nat.beq (aC us 3 0) 3))
structure mH where (l1:List Ke) (com1 b1 u c0 c1 c2 x_n x_c:Int) (x_vh:Value) (x_vl:List Int) (x_mh:Value) (x_ml:List Int) (x_h:Value) (x_l:List Ke) (x_th:Value) (x_tl:List Ke) (now:Int)
abbrev FH:=Ab
def mY (p:mH) (r:FH):Prop:=r.c0=(p.l1.length:Int)∧r.c1=max p.c1 p.x_n∧ib 2 p.com1 r.com1 [r.c0,r.c1,p.c2]
noncomputable def SZ (p:mH):IE:=([.ptr 0 0,.sy (.int 0 p.now),dL 2,eR 4 2 p.x_n p.x_c 0 [] 0 p.x_vh p.x_vl p.x_mh p.x_ml p.x_h p.x_l p.x_th p.x_tl],(Nx p.l1 p.com1 p.b1 p.u p.c0 p.c1 p.c2),12)
noncomputable def uK (p:mH) (K:KE) (r:FH):Bool:=K .nilS (Nx p.l1 r.com1 p.b1 p.u r.c0 r.c1 p.c2) 12
noncomputable def Iw (p:mH) (K:KE):Bool:=ae fun r=>iP (mY p r) (uK p K r) true
def sG (p:mH):Prop:=0≤p.now∧p.now≤1000000∧p.x_vl=[]∧p.x_ml=[]∧p.x_l=[]∧p.x_tl=[]∧0≤p.x_n∧p.x_n≤(p.l1.length:Int)∧p.l1.length≤400∧p.x_c=0∧0≤p.b1∧p.b1≤400
theorem Kk {p:mH} {K:KE} (hK:Iw p K=true) {r:FH} (h:mY p r):uK p K r=true:=ax h (aq hK r)
theorem aaP:Vf sG Iw 1 JE aJ bZ SZ:=by
 intro p K hpre hK
 refine Eq.trans (b:=(aL Hw jN ⟨p.x_n,p.x_c,p.x_vh,p.x_vl,p.x_mh,p.x_ml,p.x_h,p.x_l,p.x_th,p.x_tl⟩ fun p1=>mP (aI 0 ((400:Int) - p.b1)) (mP (aI 0 p.x_n) (iP ((p.l1.length:Int)<p.x_n) (uK p K ⟨p.com1,p.c0,p.c1⟩) (aM fun p2:iT=>mP (kK ⟨p.l1,p.com1,p.b1,p.c0,max p.c1 p.x_n,p.c2⟩=kK p2) (ae fun r1:nA=>iP (fD p2 r1) (uK {p with l1:=p2.l,b1:=p2.b,c2:=p2.c2} K ⟨r1.com,(p2.l.length:Int),p2.c1⟩) true)))))) (by kernel_rfl) ?_
 dsimp only[sG]at hpre
 obtain⟨n0,n1,h_vl,h_ml,h_l,h_tl,hx⟩:=hpre
 have e_vl:=congrArg List.length h_vl
 have e_ml:=congrArg List.length h_ml
 have e_l:=congrArg List.length h_l
 have e_tl:=congrArg List.length h_tl
 simp only[apy]at e_vl e_ml e_l e_tl
 obtain⟨hx1,hx2,hx3,hx4,hx5,hx6⟩:=hx
 refine aV (by(try dsimp only[jN]);repeat(first|assumption|omega|apply And.intro)) ?_
 refine be (be ?_)
 apply iI<;>intro hc1
 exact Kk hK (by dsimp only[mY]<;>(first|(exfalso;omega)|exact⟨rfl,rfl,hi0⟩))
 refine fu (.mk ..) rfl fun r1 hi2=> ?_
 dsimp only[fD]at hi2
 exact Kk (p:=p) hK (by dsimp only[mY]<;>(first|(exfalso;omega)|exact⟨rfl,rfl,hi2⟩))
noncomputable def nc_ck4_2_2:EE 51 1:=bA (fun us M=>aA (aA (Nat.beq (zC M 0 8) 1) (Nat.beq (zC M 0 1) 2)) (cT M 0 11)) (nE bt aaP) nc_ck4_1_2
noncomputable def Jn:NN:=bB JE nc_ck4_2_2.2 [(0,4),(1,20),(2,15),(3,15)] (fun us=>aA (Nat.beq (aC us 2 0) 2) (Nat.beq (aC us 3 0) 4))
structure Gj where (l3:List Ke) (com3 b3 u3 d3_0 d3_1 d3_2 now:Int)
noncomputable def Ge (p:Gj):IE:=([.ptr 0 0,.sy (.int 0 p.now)],(Ha p.l3 p.com3 p.b3 p.u3 p.d3_0 p.d3_1 p.d3_2),12)
noncomputable def XB (p:Gj) (K:KE):Bool:=K .nilS (Ha p.l3 p.com3 p.b3 p.u3 p.d3_0 p.d3_1 p.d3_2) 12
def lm (p:Gj):Prop:=0≤p.now∧p.now≤1000000
theorem aaW:Vf lm XB 1 Jn aJ eC Ge:=by
 intro p K hpre hK
 refine Eq.trans (b:=(let z0:Bool:=(K .nilS (Ha p.l3 p.com3 p.b3 p.u3 p.d3_0 p.d3_1 p.d3_2) 12);iP (p.u3≤p.now) (cu z0) z0)) (by kernel_rfl) ?_
 dsimp only[lm]at hpre
 obtain⟨n0,n1⟩:=hpre
 apply iI<;>intro hc1
 refine bk ?_
 exact hK
 exact hK
noncomputable def nc_cf4_2_3:EE 50 1:=bA (fun us M=>aA (aA (Nat.beq (zC M 0 8) 3) (Nat.beq (zC M 0 1) 2)) (cT M 0 11)) (nE dm aaW) nc_cf4_2_2
noncomputable def Ju:NN:=ck Jn nc_cf4_2_3.2 [(0,4),(1,20)]
noncomputable def acp (l3:List Ke) (com3 b3 u3 d3_0 d3_1 d3_2:Int):T:=(n2 (n2 (n2 (n0 (nX 11 4 12 3)) (ig 8 3 3 9 l3.length b3 com3 10) (n0 am)) (QU 1 2 (l3.length:Int) []) (n2 (n0 (aO l3)) am .leaf)) (nU 2 3 3 4 3 5 4 6 u3 7) (n2 (n2 (n0 (aE 1 2 3)) (bu 0) (n0 (aE 1 2 3))) (aE 1 2 3) (n2 (n0 (cP 1 d3_0 2 d3_1 3 d3_2)) (bL 0) .leaf)))
structure pV where (l3:List Ke) (com3 b3 u3 d3_0 d3_1 d3_2 x_n x_c:Int) (x_vh:Value) (x_vl:List Int) (x_mh:Value) (x_ml:List Int) (x_h:Value) (x_l:List Ke) (x_th:Value) (x_tl:List Ke) (now:Int)
abbrev FL:=Ae
def qx (p:pV) (r:FL):Prop:=r.l3=p.l3++p.x_l∧r.com3=max p.com3 (min p.x_c (r.l3.length:Int))
noncomputable def Tq (p:pV):IE:=([.ptr 0 0,.sy (.int 0 p.now),dL 1,eR 3 2 p.x_n p.x_c 0 [] 0 p.x_vh p.x_vl p.x_mh p.x_ml p.x_h p.x_l p.x_th p.x_tl],(Ha p.l3 p.com3 p.b3 p.u3 p.d3_0 p.d3_1 p.d3_2),12)
noncomputable def qH (p:pV) (K:KE) (r:FL):Bool:=K (.sl 1 0 1 (.ex 1)) (acp r.l3 r.com3 p.b3 p.u3 p.d3_0 p.d3_1 p.d3_2) 13
noncomputable def IF (p:pV) (K:KE):Bool:=ae fun r=>iP (qx p r) (qH p K r) true
def sS (p:pV):Prop:=0≤p.now∧p.now≤1000000∧p.x_vl=[]∧p.x_ml=[]∧p.x_tl=[]∧p.x_n=(p.l3.length:Int)∧bF p.x_l∧p.l3.length+p.x_l.length≤400∧p.b3≤(p.l3.length:Int)∧0≤p.x_c∧p.x_c≤400∧0≤p.b3
theorem lw {p:pV} {K:KE} (hK:IF p K=true) {r:FL} (h:qx p r:=by dsimp only[qx]<;>(first|(exfalso;omega)|(refine⟨?_,rfl⟩;rw[apS (show p.x_l.length=0 by omega)];simp;done)|(refine⟨?_,rfl⟩;rw[hv.1,show((p.l3.length:Int) - p.x_n).toNat=0 by omega];simp;done))):qH p K r=true:=ax h (aq hK r)
theorem aa4:Vf sS IF 1 Ju aJ bZ Tq:=by
 intro p K hpre hK
 refine Eq.trans (b:=(let z0:Bool:=(qH p K ⟨p.l3,max p.com3 (min p.x_c (p.l3.length:Int))⟩);let z1:Bool:=(qH p K ⟨p.l3,p.com3⟩);aL Hx jO ⟨p.x_n,p.x_c,p.x_vh,p.x_vl,p.x_mh,p.x_ml,p.x_h,p.x_l,p.x_th,p.x_tl⟩ fun p1=>mP (aI 0 p.x_n) (mP (aI 0 p.x_c) (iP (p.x_n<p.b3) (mP (aI 3 (p.l3.length:Int)) z1) (iP ((p.l3.length:Int)<p.x_n) (mP (aI 3 (p.l3.length:Int)) z1) (mP (aI 0 ((400:Int) - p.x_n)) (iP ((400 - p.x_n)<(p.x_l.length:Int)) (mP (aI 3 (p.l3.length:Int)) z1) (mP (aI 0 ((p.l3.length:Int) - p.x_n)) (iP (((p.l3.length:Int) - p.x_n)<(p.x_l.length:Int)) (mP (0≤((p.l3.length:Int) - p.x_n)∧((p.l3.length:Int) - p.x_n)≤(p.x_l.length:Int)∧(p.x_l.length:Int)≤(p.x_l.length:Int)) (ay bT bp aQ ⟨fp p.x_h 18 (((p.l3.length:Int) - p.x_n).toNat) p.x_l.length,(p.x_l.drop (((p.l3.length:Int) - p.x_n).toNat)).take (p.x_l.length - (((p.l3.length:Int) - p.x_n).toNat))⟩ fun p2 r1=>mE (.prow 8 p.l3.length) (mP (r1.o.length=r1.o.length) (mP (p.l3.length=p.l3.length) (iP (r1.o=[]) (mP (aI 3 (p.l3.length:Int)) z0) (aM fun m1:List Ke=>mP (bg (m1.map au) (r1.o.map au)) (mP (bQ 104 (p.l3.length+m1.length)) (mP (aI 3 ((p.l3++m1).length:Int)) (qH p K ⟨p.l3++m1,max p.com3 (min p.x_c ((p.l3++m1).length:Int))⟩))))))))) (mP (aI 3 (p.l3.length:Int)) z0)))))))))) (by kernel_rfl) ?_
 dsimp only[sS]at hpre
 obtain⟨n0,n1,h_vl,h_ml,h_tl,hx⟩:=hpre
 have e_vl:=congrArg List.length h_vl
 have e_ml:=congrArg List.length h_ml
 have e_tl:=congrArg List.length h_tl
 simp only[apy]at e_vl e_ml e_tl
 obtain⟨hn,hks,hlen,hb,hq1,hq2,hb0⟩:=hx
 refine aV (by(try dsimp only[jO]);repeat(first|assumption|omega|apply And.intro)) ?_
 refine be (be ?_)
 apply iI<;>intro hc1
 refine be ?_
 exact lw hK
 apply iI<;>intro hc2
 refine be ?_
 exact lw hK
 refine be ?_
 apply iI<;>intro hc3
 refine be ?_
 exact lw hK
 refine be ?_
 apply iI<;>intro hc4
 refine cz ?_
 refine bW fun r1 hi5=> ?_
 dsimp only[aQ]at hi5
 have hv:=hi5
 have hlhi5:=hi5.2
 (try simp only[apL,apW]at hlhi5)
 refine aH (cz (aH ?_))
 apply iI<;>intro hc6
 have hc6l:(r1.o).length=0:=(by rw[hc6];rfl)
 refine be ?_
 exact lw hK
 have hc6l:0<(r1.o).length:=List.length_pos_iff.2 hc6
 refine aR r1.o ?_
 refine mI (show bg (r1.o.map au) (r1.o.map au) from cF _) (tZ (be ?_))
 exact lw hK
 refine be ?_
 exact lw hK
noncomputable def nc_ca4_2_3:EE 51 1:=bA (fun us M=>aA (aA (Nat.beq (zC M 0 8) 3) (Nat.beq (zC M 0 1) 2)) (cT M 0 11)) (nE bt aa4) nc_ca4_2_2
noncomputable def JD:NN:=bB Ju nc_ca4_2_3.2 [(0,4),(1,20),(2,15),(3,15)] (fun us=>aA (Nat.beq (aC us 2 0) 1) (Nat.beq (aC us 3 0) 3))
abbrev pP:=mH
structure FG where (com1 c0 c2:Int)
def mX (p:pP) (r:FG):Prop:=r.c0=(p.l1.length:Int)∧r.c2=max p.c2 p.x_n∧ib 2 p.com1 r.com1 [r.c0,p.c1,r.c2]
noncomputable def SX (p:pP):IE:=([.ptr 0 0,.sy (.int 0 p.now),dL 3,eR 4 2 p.x_n p.x_c 0 [] 0 p.x_vh p.x_vl p.x_mh p.x_ml p.x_h p.x_l p.x_th p.x_tl],(Nx p.l1 p.com1 p.b1 p.u p.c0 p.c1 p.c2),12)
noncomputable def uJ (p:pP) (K:KE) (r:FG):Bool:=K .nilS (Nx p.l1 r.com1 p.b1 p.u r.c0 p.c1 r.c2) 12
noncomputable def Iv (p:pP) (K:KE):Bool:=ae fun r=>iP (mX p r) (uJ p K r) true
def sF (p:pP):Prop:=0≤p.now∧p.now≤1000000∧p.x_vl=[]∧p.x_ml=[]∧p.x_l=[]∧p.x_tl=[]∧0≤p.x_n∧p.x_n≤(p.l1.length:Int)∧p.l1.length≤400∧p.x_c=0∧0≤p.b1∧p.b1≤400
theorem Kj {p:pP} {K:KE} (hK:Iv p K=true) {r:FG} (h:mX p r):uJ p K r=true:=ax h (aq hK r)
theorem aaO:Vf sF Iv 1 JD aJ bZ SX:=by
 intro p K hpre hK
 refine Eq.trans (b:=(aL Hw jN ⟨p.x_n,p.x_c,p.x_vh,p.x_vl,p.x_mh,p.x_ml,p.x_h,p.x_l,p.x_th,p.x_tl⟩ fun p1=>mP (aI 0 ((400:Int) - p.b1)) (mP (aI 0 p.x_n) (iP ((p.l1.length:Int)<p.x_n) (uJ p K ⟨p.com1,p.c0,p.c2⟩) (aM fun p2:iT=>mP (kK ⟨p.l1,p.com1,p.b1,p.c0,p.c1,max p.c2 p.x_n⟩=kK p2) (ae fun r1:nA=>iP (fD p2 r1) (uJ {p with l1:=p2.l,b1:=p2.b,c1:=p2.c1} K ⟨r1.com,(p2.l.length:Int),p2.c2⟩) true)))))) (by kernel_rfl) ?_
 dsimp only[sF]at hpre
 obtain⟨n0,n1,h_vl,h_ml,h_l,h_tl,hx⟩:=hpre
 have e_vl:=congrArg List.length h_vl
 have e_ml:=congrArg List.length h_ml
 have e_l:=congrArg List.length h_l
 have e_tl:=congrArg List.length h_tl
 simp only[apy]at e_vl e_ml e_l e_tl
 obtain⟨hx1,hx2,hx3,hx4,hx5,hx6⟩:=hx
 refine aV (by(try dsimp only[jN]);repeat(first|assumption|omega|apply And.intro)) ?_
 refine be (be ?_)
 apply iI<;>intro hc1
 exact Kj hK (by dsimp only[mX]<;>(first|(exfalso;omega)|exact⟨rfl,rfl,hi0⟩))
 refine fu (.mk ..) rfl fun r1 hi2=> ?_
 dsimp only[fD]at hi2
 exact Kj (p:=p) hK (by dsimp only[mX]<;>(first|(exfalso;omega)|exact⟨rfl,rfl,hi2⟩))
noncomputable def nc_ck4_2_3:EE 51 1:=bA (fun us M=>aA (aA (Nat.beq (zC M 0 8) 1) (Nat.beq (zC M 0 1) 2)) (cT M 0 11)) (nE bt aaO) nc_ck4_1_3
noncomputable def Jm:NN:=bB JD nc_ck4_2_3.2 [(0,4),(1,20),(2,15),(3,15)] (fun us=>aA (Nat.beq (aC us 2 0) 3) (Nat.beq (aC us 3 0) 4))
abbrev PX:=pU
noncomputable def aac (p:PX):IE:=([.ptr 0 0,.sy (.int 0 p.now)],(CM p.l2 p.com2),11)
noncomputable def ads (p:PX) (K:KE):Bool:=K .nilS (CM p.l2 p.com2) 11
def zc (p:PX):Prop:=0≤p.now∧p.now≤1000000
theorem afF:Vf zc ads 1 Jm aJ eC aac:=by
 intro p K hpre hK
 refine Eq.trans (b:=(iP ((2:Int)≤p.now) (cu (K .nilS (CM p.l2 p.com2) 11)) (K .nilS (CM p.l2 p.com2) 11))) (by kernel_rfl) ?_
 dsimp only[zc]at hpre
 obtain⟨n0,n1⟩:=hpre
 apply iI<;>intro hc1
 refine bk ?_
 exact hK
 exact hK
noncomputable def nc_cs4_2:EE 50 1:=bA (fun us M=>aA (aA (Nat.beq (zC M 0 8) 2) (Nat.beq (zC M 0 1) 1)) (cT M 0 11)) (nE dm afF) nc_cf4_2_3
noncomputable def RW:NN:=ck Jm nc_cs4_2.2 [(0,4),(1,20)]
abbrev PW:=Aj
noncomputable def aab (p:PW):IE:=([.ptr 0 0,.sy (.int 0 p.now)],(CL p.l3 p.com3),11)
noncomputable def adr (p:PW) (K:KE):Bool:=K .nilS (CL p.l3 p.com3) 11
def zb (p:PW):Prop:=0≤p.now∧p.now≤1000000
theorem afE:Vf zb adr 1 RW aJ eC aab:=by
 intro p K hpre hK
 refine Eq.trans (b:=(iP ((2:Int)≤p.now) (cu (K .nilS (CL p.l3 p.com3) 11)) (K .nilS (CL p.l3 p.com3) 11))) (by kernel_rfl) ?_
 dsimp only[zb]at hpre
 obtain⟨n0,n1⟩:=hpre
 apply iI<;>intro hc1
 refine bk ?_
 exact hK
 exact hK
noncomputable def nc_cs4_3:EE 50 1:=bA (fun us M=>aA (aA (Nat.beq (zC M 0 8) 3) (Nat.beq (zC M 0 1) 1)) (cT M 0 11)) (nE dm afE) nc_cs4_2
noncomputable def RU:NN:=ck RW nc_cs4_3.2 [(0,4),(1,20)]
end Go.Proofs.Tryz
