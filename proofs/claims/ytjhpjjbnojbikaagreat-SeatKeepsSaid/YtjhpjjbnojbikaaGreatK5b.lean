/- Definitions and lemmas of the proof, without a condition of their own. -/
import Derived.Test.YtjhpjjbnojbikaaGreatK5a
import Derived.KernelRfl
set_option linter.unusedSimpArgs false
set_option linter.unusedVariables false
open List renaming append_assoc→amb,flatten_cons→al8,length_append→al2,length_cons→al3,length_drop→amr,length_map→al4,length_nil→al5,length_take→ami,mem_of_getElem?→al7
open Nat renaming le_refl→amj
open Option.some renaming inj→amp
namespace Go.Proofs.Tryz
open Go Go.RowKit Go.Sy
open Go.Eng hiding aj
set_option maxRecDepth 1000000
set_option linter.unusedVariables false
set_option maxHeartbeats 4000000
attribute [local irreducible] aq
noncomputable def Kp:NN:=jV Ko Ok [(0,30)]
structure rQ where
 ps:List Value
 ss:List St
 n:Nat
 h:Value
structure UR where
 z:Prop
def uw (p:rQ) (r:UR):Prop:=(r.z↔0<(aI p.ss p.n).N)
noncomputable def pD (p:rQ):IE:=([.ptr 0 0,hv p.h],(.node .leaf (some (.opq (List Value×List St) (p.ps,p.ss) bJ)) .leaf),1)
noncomputable def BL (p:rQ) (K:KE) (r:UR):Bool:=K (.sy (.bool r.z)) (.node .leaf (some (.opq (List Value×List St) (p.ps,p.ss) bJ)) .leaf) 1
noncomputable def lv (p:rQ) (K:KE):Bool:=aj fun r=>iP (uw p r) (BL p K r) true
def nV (p:rQ):Prop:=p.ps[p.n]?=some p.h∧p.n<p.ss.length∧SI (aI p.ss p.n)
theorem UJ {s:IE} {K:KE} (w:rQ) (e:∀t,pD w=t→s=t:=by first|(intro t h;dsimp only[pD]at h;subst h;exact rfl)|fail) (g:nV w:=by first|((try dsimp only[nV,oL,oN,Int.reduceNegSucc]);first|done|exact yg|trivial|assumption|omega)|fail) (h:lv w K=true):Cl s pD nV lv K:=wS w e g h
theorem aeQ:dM Tryz.prog 19 1 (fY pD (jO nV lv)):=by
 intro us xs E ρ G F M nx w K R hE hs hd hk0 hr
 obtain⟨p,hk1⟩:=bk hk0
 obtain⟨hI,hk2⟩:=ai hk1
 obtain⟨hpre,hk3⟩:=ai (show ae (aq (nV p)) (lv p K)=true from hk2)
 clear hk0 hk1 hk2
 have e1:us=(pD p).1:=congrArg Prod.fst hI
 have e2:M=(pD p).2.1:=congrArg (fun x=>x.2.1) hI
 have e3:nx=(pD p).2.2:=congrArg (fun x=>x.2.2) hI
 subst e1;subst e2;subst e3
 refine lY (NU) (by intro u hu;cases hu) (by rintro s v s2 h;obtain⟨_,rfl,_⟩:=h;exact cP _ _) hpre.1 (dW hpre.2.1) hpre.2.2 _ xs E ρ G F _ _ w K R hE hs hd (prB_true.2 ⟨rfl,rfl,rfl,fun v s2 hpo=> ?_⟩) hr
 obtain⟨a_0,rfl,hq,e9⟩:=hpo
 have e8:p.ss.set p.n s2=p.ss:=by rw[e9];exact rm
 rw[e8]
 exact dV (p:=uw p ⟨a_0⟩) hq (aV hk3 ⟨a_0⟩)
noncomputable def WQ:NN:=jV Kp aeQ [(0,30)]
structure rR where
 ps:List Value
 ss:List St
 n:Nat
 h:Value
structure US where
 z:Int
def nX (p:rR) (r:US):Prop:=r.z=cL (aI p.ss p.n)
noncomputable def pE (p:rR):IE:=([.ptr 0 0,hv p.h],(.node .leaf (some (.opq (List Value×List St) (p.ps,p.ss) bJ)) .leaf),1)
noncomputable def qx (p:rR) (K:KE) (r:US):Bool:=K (.sy (.int 0 r.z)) (.node .leaf (some (.opq (List Value×List St) (p.ps,p.ss) bJ)) .leaf) 1
noncomputable def ix (p:rR) (K:KE):Bool:=aj fun r=>iP (nX p r) (qx p K r) true
def nW (p:rR):Prop:=p.ps[p.n]?=some p.h∧p.n<p.ss.length∧SI (aI p.ss p.n)
theorem zT {s:IE} {K:KE} (w:rR) (e:∀t,pE w=t→s=t:=by first|(intro t h;dsimp only[pE]at h;subst h;exact rfl)|fail) (g:nW w:=by first|((try dsimp only[nW,oL,oN,Int.reduceNegSucc]);first|done|exact yg|trivial|assumption|omega)|fail) (h:ix w K=true):Cl s pE nW ix K:=wS w e g h
theorem aeR:dM Tryz.prog 12 1 (fY pE (jO nW ix)):=by
 intro us xs E ρ G F M nx w K R hE hs hd hk0 hr
 obtain⟨p,hk1⟩:=bk hk0
 obtain⟨hI,hk2⟩:=ai hk1
 obtain⟨hpre,hk3⟩:=ai (show ae (aq (nW p)) (ix p K)=true from hk2)
 clear hk0 hk1 hk2
 have e1:us=(pE p).1:=congrArg Prod.fst hI
 have e2:M=(pE p).2.1:=congrArg (fun x=>x.2.1) hI
 have e3:nx=(pE p).2.2:=congrArg (fun x=>x.2.2) hI
 subst e1;subst e2;subst e3
 refine lY (NW) (by intro u hu;cases hu) (by rintro s v s2 h;obtain⟨_,rfl,_⟩:=h;exact cP _ _) hpre.1 (dW hpre.2.1) hpre.2.2 _ xs E ρ G F _ _ w K R hE hs hd (prB_true.2 ⟨rfl,rfl,rfl,fun v s2 hpo=> ?_⟩) hr
 obtain⟨a_0,rfl,hq,e9⟩:=hpo
 have e8:p.ss.set p.n s2=p.ss:=by rw[e9];exact rm
 rw[e8]
 exact dV (p:=nX p ⟨a_0⟩) hq (aV hk3 ⟨a_0⟩)
noncomputable def WR:NN:=jV WQ aeR [(0,30)]
structure rP where
 ps:List Value
 ss:List St
 n:Nat
 h:Value
structure UQ where
 hh:Value
 o:List Ke
def pZ (p:rP) (r:UQ):Prop:=r.o=bU (aI p.ss p.n)
noncomputable def pC (p:rP):IE:=([.ptr 0 0,hv p.h],(.node .leaf (some (.opq (List Value×List St) (p.ps,p.ss) bJ)) .leaf),1)
noncomputable def vb (p:rP) (K:KE) (r:UQ):Bool:=K (.sy (.imm r.hh 18 Ke r.o aD)) (.node .leaf (some (.opq (List Value×List St) (p.ps,p.ss) bJ)) .leaf) 1
noncomputable def jr (p:rP) (K:KE):Bool:=aj fun r=>iP (pZ p r) (vb p K r) true
def nU (p:rP):Prop:=p.ps[p.n]?=some p.h∧p.n<p.ss.length∧SI (aI p.ss p.n)
theorem Jf {s:IE} {K:KE} (w:rP) (e:∀t,pC w=t→s=t:=by first|(intro t h;dsimp only[pC]at h;subst h;exact rfl)|fail) (g:nU w:=by first|((try dsimp only[nU,oL,oN,Int.reduceNegSucc]);first|done|exact yg|trivial|assumption|omega)|fail) (h:jr w K=true):Cl s pC nU jr K:=wS w e g h
theorem aeN:dM Tryz.prog 13 1 (fY pC (jO nU jr)):=by
 intro us xs E ρ G F M nx w K R hE hs hd hk0 hr
 obtain⟨p,hk1⟩:=bk hk0
 obtain⟨hI,hk2⟩:=ai hk1
 obtain⟨hpre,hk3⟩:=ai (show ae (aq (nU p)) (jr p K)=true from hk2)
 clear hk0 hk1 hk2
 have e1:us=(pC p).1:=congrArg Prod.fst hI
 have e2:M=(pC p).2.1:=congrArg (fun x=>x.2.1) hI
 have e3:nx=(pC p).2.2:=congrArg (fun x=>x.2.2) hI
 subst e1;subst e2;subst e3
 refine lY (NR) (by intro u hu;cases hu) (by rintro s v s2 h;obtain⟨_,_,rfl,_⟩:=h;exact cP _ _) hpre.1 (dW hpre.2.1) hpre.2.2 _ xs E ρ G F _ _ w K R hE hs hd (prB_true.2 ⟨rfl,rfl,rfl,fun v s2 hpo=> ?_⟩) hr
 obtain⟨a_0,a_1,rfl,hq,e9⟩:=hpo
 have e8:p.ss.set p.n s2=p.ss:=by rw[e9];exact rm
 rw[e8]
 exact dV (p:=pZ p ⟨a_0,a_1⟩) hq (aV hk3 ⟨a_0,a_1⟩)
noncomputable def WN:NN:=jV WR aeN [(0,30)]
structure rN where
 ps:List Value
 ss:List St
 n:Nat
 h:Value
structure UO where
 N:Int
 hh:Value
 m:List Int
def uv (p:rN) (r:UO):Prop:=(r.N=(aI p.ss p.n).N∧r.m=(aI p.ss p.n).m)
noncomputable def pA (p:rN):IE:=([.ptr 0 0,hv p.h],(.node .leaf (some (.opq (List Value×List St) (p.ps,p.ss) bJ)) .leaf),1)
noncomputable def BJ (p:rN) (K:KE) (r:UO):Bool:=K (lU r.N r.hh r.m) (.node .leaf (some (.opq (List Value×List St) (p.ps,p.ss) bJ)) .leaf) 1
noncomputable def ll (p:rN) (K:KE):Bool:=aj fun r=>iP (uv p r) (BJ p K r) true
def nS (p:rN):Prop:=p.ps[p.n]?=some p.h∧p.n<p.ss.length∧SI (aI p.ss p.n)
theorem UI {s:IE} {K:KE} (w:rN) (e:∀t,pA w=t→s=t:=by first|(intro t h;dsimp only[pA]at h;subst h;exact rfl)|fail) (g:nS w:=by first|((try dsimp only[nS,oL,oN,Int.reduceNegSucc]);first|done|exact yg|trivial|assumption|omega)|fail) (h:ll w K=true):Cl s pA nS ll K:=wS w e g h
theorem aeJ:dM Tryz.prog 16 1 (fY pA (jO nS ll)):=by
 intro us xs E ρ G F M nx w K R hE hs hd hk0 hr
 obtain⟨p,hk1⟩:=bk hk0
 obtain⟨hI,hk2⟩:=ai hk1
 obtain⟨hpre,hk3⟩:=ai (show ae (aq (nS p)) (ll p K)=true from hk2)
 clear hk0 hk1 hk2
 have e1:us=(pA p).1:=congrArg Prod.fst hI
 have e2:M=(pA p).2.1:=congrArg (fun x=>x.2.1) hI
 have e3:nx=(pA p).2.2:=congrArg (fun x=>x.2.2) hI
 subst e1;subst e2;subst e3
 refine lY (NM) (by intro u hu;cases hu) (by rintro s v s2 h;obtain⟨_,_,_,rfl,_⟩:=h;exact cP _ _) hpre.1 (dW hpre.2.1) hpre.2.2 _ xs E ρ G F _ _ w K R hE hs hd (prB_true.2 ⟨rfl,rfl,rfl,fun v s2 hpo=> ?_⟩) hr
 obtain⟨a_0,a_1,a_2,rfl,hq,e9⟩:=hpo
 have e8:p.ss.set p.n s2=p.ss:=by rw[e9];exact rm
 rw[e8]
 exact dV (p:=uv p ⟨a_0,a_1,a_2⟩) hq (aV hk3 ⟨a_0,a_1,a_2⟩)
noncomputable def WK:NN:=jV WN aeJ [(0,30)]
structure zX where
 ps:List Value
 ss:List St
 n:Nat
 h:Value
 mh:Value
 ml:List Int
noncomputable def pB (p:zX):IE:=([.ptr 0 0,hv p.h,.sy (.imm p.mh 2 Int p.ml am)],(.node .leaf (some (.opq (List Value×List St) (p.ps,p.ss) bJ)) .leaf),1)
noncomputable def nY (p:zX) (K:KE):Bool:=K (.tup []) (.node .leaf (some (.opq (List Value×List St) (p.ps,p.ss.set p.n (gm (aI p.ss p.n) p.ml)) bJ)) .leaf) 1
def nT (p:zX):Prop:=p.ps[p.n]?=some p.h∧p.n<p.ss.length∧SI (aI p.ss p.n)∧p.ml.length≤1000
theorem akb {s:IE} {K:KE} (w:zX) (e:∀t,pB w=t→s=t:=by first|(intro t h;dsimp only[pB]at h;subst h;exact rfl)|fail) (g:nT w:=by first|((try dsimp only[nT,oL,oN,Int.reduceNegSucc]);first|done|exact yg|trivial|assumption|omega)|fail) (h:nY w K=true):Cl s pB nT nY K:=wS w e g h
theorem aeM:dM Tryz.prog 27 1 (fY pB (jO nT nY)):=by
 intro us xs E ρ G F M nx w K R hE hs hd hk0 hr
 obtain⟨p,hk1⟩:=bk hk0
 obtain⟨hI,hk2⟩:=ai hk1
 obtain⟨hpre,hk3⟩:=ai (show ae (aq (nT p)) (nY p K)=true from hk2)
 clear hk0 hk1 hk2
 have e1:us=(pB p).1:=congrArg Prod.fst hI
 have e2:M=(pB p).2.1:=congrArg (fun x=>x.2.1) hI
 have e3:nx=(pB p).2.2:=congrArg (fun x=>x.2.2) hI
 subst e1;subst e2;subst e3
 refine lY (NQ (mh:=p.mh) (ml:=p.ml)) (by intro u hu;simp only[List.mem_cons,List.not_mem_nil,or_false]at hu;subst hu;exact cP _ _) (by rintro s v s2 h;obtain⟨rfl,_⟩:=h;exact mO) hpre.1 (dW hpre.2.1) hpre.2.2 _ xs E ρ G F _ _ w K R hE hs hd (prB_true.2 ⟨rfl,rfl,rfl,fun v s2 hpo=> ?_⟩) hr
 obtain⟨rfl,e9⟩:=hpo
 have e8:p.ss.set p.n s2=p.ss.set p.n (gm (aI p.ss p.n) p.ml):=by rw[e9]
 rw[e8]
 exact hk3
noncomputable def WM:NN:=jV WK aeM [(0,30)]
structure zZ where
 ps:List Value
 ss:List St
 n:Nat
 h:Value
noncomputable def nA (p:zZ):IE:=([.ptr 0 0,hv p.h],(.node .leaf (some (.opq (List Value×List St) (p.ps,p.ss) bJ)) .leaf),1)
noncomputable def lu (p:zZ) (K:KE):Bool:=K (.tup []) (.node .leaf (some (.opq (List Value×List St) (p.ps,p.ss.set p.n (hU (aI p.ss p.n))) bJ)) .leaf) 1
def lj (p:zZ):Prop:=p.ps[p.n]?=some p.h∧p.n<p.ss.length∧SI (aI p.ss p.n)
theorem akd {s:IE} {K:KE} (w:zZ) (e:∀t,nA w=t→s=t:=by first|(intro t h;dsimp only[nA]at h;subst h;exact rfl)|fail) (g:lj w:=by first|((try dsimp only[lj,oL,oN,Int.reduceNegSucc]);first|done|exact yg|trivial|assumption|omega)|fail) (h:lu w K=true):Cl s nA lj lu K:=wS w e g h
theorem aeP:dM Tryz.prog 17 1 (fY nA (jO lj lu)):=by
 intro us xs E ρ G F M nx w K R hE hs hd hk0 hr
 obtain⟨p,hk1⟩:=bk hk0
 obtain⟨hI,hk2⟩:=ai hk1
 obtain⟨hpre,hk3⟩:=ai (show ae (aq (lj p)) (lu p K)=true from hk2)
 clear hk0 hk1 hk2
 have e1:us=(nA p).1:=congrArg Prod.fst hI
 have e2:M=(nA p).2.1:=congrArg (fun x=>x.2.1) hI
 have e3:nx=(nA p).2.2:=congrArg (fun x=>x.2.2) hI
 subst e1;subst e2;subst e3
 refine lY (NT) (by intro u hu;cases hu) (by rintro s v s2 h;obtain⟨rfl,_⟩:=h;exact mO) hpre.1 (dW hpre.2.1) hpre.2.2 _ xs E ρ G F _ _ w K R hE hs hd (prB_true.2 ⟨rfl,rfl,rfl,fun v s2 hpo=> ?_⟩) hr
 obtain⟨rfl,e9⟩:=hpo
 have e8:p.ss.set p.n s2=p.ss.set p.n (hU (aI p.ss p.n)):=by rw[e9]
 rw[e8]
 exact hk3
noncomputable def WP:NN:=jV WM aeP [(0,30)]
structure zY where
 ps:List Value
 ss:List St
 n:Nat
 h:Value
noncomputable def nz (p:zY):IE:=([.ptr 0 0,hv p.h],(.node .leaf (some (.opq (List Value×List St) (p.ps,p.ss) bJ)) .leaf),1)
noncomputable def lr (p:zY) (K:KE):Bool:=K (.tup []) (.node .leaf (some (.opq (List Value×List St) (p.ps,p.ss.set p.n (fR (aI p.ss p.n))) bJ)) .leaf) 1
def li (p:zY):Prop:=p.ps[p.n]?=some p.h∧p.n<p.ss.length∧SI (aI p.ss p.n)
theorem akc {s:IE} {K:KE} (w:zY) (e:∀t,nz w=t→s=t:=by first|(intro t h;dsimp only[nz]at h;subst h;exact rfl)|fail) (g:li w:=by first|((try dsimp only[li,oL,oN,Int.reduceNegSucc]);first|done|exact yg|trivial|assumption|omega)|fail) (h:lr w K=true):Cl s nz li lr K:=wS w e g h
theorem aeO:dM Tryz.prog 18 1 (fY nz (jO li lr)):=by
 intro us xs E ρ G F M nx w K R hE hs hd hk0 hr
 obtain⟨p,hk1⟩:=bk hk0
 obtain⟨hI,hk2⟩:=ai hk1
 obtain⟨hpre,hk3⟩:=ai (show ae (aq (li p)) (lr p K)=true from hk2)
 clear hk0 hk1 hk2
 have e1:us=(nz p).1:=congrArg Prod.fst hI
 have e2:M=(nz p).2.1:=congrArg (fun x=>x.2.1) hI
 have e3:nx=(nz p).2.2:=congrArg (fun x=>x.2.2) hI
 subst e1;subst e2;subst e3
 refine lY (NS) (by intro u hu;cases hu) (by rintro s v s2 h;obtain⟨rfl,_⟩:=h;exact mO) hpre.1 (dW hpre.2.1) hpre.2.2 _ xs E ρ G F _ _ w K R hE hs hd (prB_true.2 ⟨rfl,rfl,rfl,fun v s2 hpo=> ?_⟩) hr
 obtain⟨rfl,e9⟩:=hpo
 have e8:p.ss.set p.n s2=p.ss.set p.n (fR (aI p.ss p.n)):=by rw[e9]
 rw[e8]
 exact hk3
noncomputable def WO:NN:=jV WP aeO [(0,30)]
structure zW where
 ps:List Value
 ss:List St
 n:Nat
 h:Value
 x:Int
noncomputable def nv (p:zW):IE:=([.ptr 0 0,hv p.h,eL p.x],(.node .leaf (some (.opq (List Value×List St) (p.ps,p.ss) bJ)) .leaf),1)
noncomputable def lm (p:zW) (K:KE):Bool:=K (.tup []) (.node .leaf (some (.opq (List Value×List St) (p.ps,p.ss.set p.n (gY (aI p.ss p.n) p.x)) bJ)) .leaf) 1
def la (p:zW):Prop:=p.ps[p.n]?=some p.h∧p.n<p.ss.length∧SI (aI p.ss p.n)
theorem aj9 {s:IE} {K:KE} (w:zW) (e:∀t,nv w=t→s=t:=by first|(intro t h;dsimp only[nv]at h;subst h;exact rfl)|fail) (g:la w:=by first|((try dsimp only[la,oL,oN,Int.reduceNegSucc]);first|done|exact yg|trivial|assumption|omega)|fail) (h:lm w K=true):Cl s nv la lm K:=wS w e g h
theorem aeK:dM Tryz.prog 20 1 (fY nv (jO la lm)):=by
 intro us xs E ρ G F M nx w K R hE hs hd hk0 hr
 obtain⟨p,hk1⟩:=bk hk0
 obtain⟨hI,hk2⟩:=ai hk1
 obtain⟨hpre,hk3⟩:=ai (show ae (aq (la p)) (lm p K)=true from hk2)
 clear hk0 hk1 hk2
 have e1:us=(nv p).1:=congrArg Prod.fst hI
 have e2:M=(nv p).2.1:=congrArg (fun x=>x.2.1) hI
 have e3:nx=(nv p).2.2:=congrArg (fun x=>x.2.2) hI
 subst e1;subst e2;subst e3
 refine lY (NO (x:=p.x)) (by intro u hu;simp only[List.mem_cons,List.not_mem_nil,or_false]at hu;subst hu;exact cP _ _) (by rintro s v s2 h;obtain⟨rfl,_⟩:=h;exact mO) hpre.1 (dW hpre.2.1) hpre.2.2 _ xs E ρ G F _ _ w K R hE hs hd (prB_true.2 ⟨rfl,rfl,rfl,fun v s2 hpo=> ?_⟩) hr
 obtain⟨rfl,e9⟩:=hpo
 have e8:p.ss.set p.n s2=p.ss.set p.n (gY (aI p.ss p.n) p.x):=by rw[e9]
 rw[e8]
 exact hk3
noncomputable def WL:NN:=jV WO aeK [(0,30)]
structure rO where
 ps:List Value
 ss:List St
 n:Nat
 h:Value
 x:Ke
structure UP where
 z:Int
def AD (p:rO) (r:UP):Prop:=True
noncomputable def ny (p:rO):IE:=([.ptr 0 0,hv p.h,AJ [] p.x.v p.x.w],(.node .leaf (some (.opq (List Value×List St) (p.ps,p.ss) bJ)) .leaf),1)
noncomputable def Lk (p:rO) (K:KE) (r:UP):Bool:=K (.sy (.int 0 r.z)) (.node .leaf (some (.opq (List Value×List St) (p.ps,p.ss.set p.n (kq (aI p.ss p.n) p.x)) bJ)) .leaf) 1
noncomputable def lq (p:rO) (K:KE):Bool:=aj fun r=>iP (AD p r) (Lk p K r) true
def lc (p:rO):Prop:=p.ps[p.n]?=some p.h∧p.n<p.ss.length∧SI (aI p.ss p.n)∧vQ p.x
theorem aka {s:IE} {K:KE} (w:rO) (e:∀t,ny w=t→s=t:=by first|(intro t h;dsimp only[ny]at h;subst h;exact rfl)|fail) (g:lc w:=by first|((try dsimp only[lc,oL,oN,Int.reduceNegSucc]);first|done|exact yg|trivial|assumption|omega)|fail) (h:lq w K=true):Cl s ny lc lq K:=wS w e g h
theorem aeL:dM Tryz.prog 24 1 (fY ny (jO lc lq)):=by
 intro us xs E ρ G F M nx w K R hE hs hd hk0 hr
 obtain⟨p,hk1⟩:=bk hk0
 obtain⟨hI,hk2⟩:=ai hk1
 obtain⟨hpre,hk3⟩:=ai (show ae (aq (lc p)) (lq p K)=true from hk2)
 clear hk0 hk1 hk2
 have e1:us=(ny p).1:=congrArg Prod.fst hI
 have e2:M=(ny p).2.1:=congrArg (fun x=>x.2.1) hI
 have e3:nx=(ny p).2.2:=congrArg (fun x=>x.2.2) hI
 subst e1;subst e2;subst e3
 refine lY (NP (x:=p.x)) (by intro u hu;simp only[List.mem_cons,List.not_mem_nil,or_false]at hu;subst hu;exact cP _ _) (by rintro s v s2 h;obtain⟨_,rfl,_⟩:=h;exact cP _ _) hpre.1 (dW hpre.2.1) hpre.2.2 _ xs E ρ G F _ _ w K R hE hs hd (prB_true.2 ⟨rfl,rfl,rfl,fun v s2 hpo=> ?_⟩) hr
 obtain⟨a_0,rfl,hq,e9⟩:=hpo
 have e8:p.ss.set p.n s2=p.ss.set p.n (kq (aI p.ss p.n) p.x):=by rw[e9]
 rw[e8]
 exact dV (p:=AD p ⟨a_0⟩) hq (aV hk3 ⟨a_0⟩)
noncomputable def Fo:NN:=jV WL aeL [(0,30)]
noncomputable def ft_adoptz':NV (fun e0 e1 e2=>aB [e0,e1,e2] [] [] 0x3d3aafcba028aad6301ae7ac6b2ea97094def9f22b932c9fbb69a03ed504eaf951bb0099b9ec8b47c13ef7504d4f0c4a3787f4f89016d19bd131e51c66c4995c5675f685bd50f167222a5afb592f2b561c62080a6526087e6d5881934414d0e0f7116e4af6cfaeb885c6db674ac36e9f1cdb6697f536489f1067283356341183525bef578ea3225d25114a33a829a0f5b040cde59051913d94eb7e7a4573c4cecc6095bf4d391cf7fd113a9af4f1f6feb899f533927ec8a2d790785c9e03f9a499ef8bd196d5ca9812ce65885a2c6df6fd48c4340eef914687574d222924d388a863082):=⟨_,by conv=>rhs;reduce⟩
noncomputable abbrev Mh:XF:=ft_adoptz'.1 (eB 68 18 aD) (eC 52 2 am) (eC 68 18 aD)
theorem Cm:aK Tryz.prog 46 Mh=true:=by kernel_rfl
structure SO where
 s:So
 vn:Int
 vh:Value
 vl:List Int
structure Sd where
 s:Si
theorem KM:aA Tryz.prog 46 1 (aO (fun p:SO=>([.ptr 0 0,.int 0 (.ofNat 0),lU p.vn p.vh p.vl,.nilS],(di p.s),5)) (fun p=>kF p.s.er∧NL p.vl∧¬p.vl=[]∧0<p.vn∧p.vn<4294967295∧p.s.se<p.vn∧(p.s.be.length:Int)≤p.s.se∧p.s.me∈p.vl) (fun p K=>aj fun r:Sd=>iP ((r.s.er none)=bM (0:Int) p.s.er p.vn p.vl []∧(r.s.be.length:Int)≤r.s.se∧0<r.s.N) (K (.tup []) (dv r.s r.s r.s) 9) true)):=nE (nat:=Fo) Cm fun p K hpre hK=>by
 dsimp only at hpre hK ⊢
 obtain⟨hs,v1,v2,v3,v4,s1,b1,hm8⟩:=hpre
 have hm:=ah v1
 have mb:=hs.me
 have g9:=ah hs.su
 have g10:=ah hs.go
 have g11:=ah hs.jo
 have g3:=hs.se0
 have g4:=hs.wasl
 dsimp only[So.er]at mb g3 g4 g9 g10 g11
 have nnx:=trivial
 have nnr:=trivial
 have nnq:=trivial
 have ys {g:Prop} (h:g:=by first|(simp[bR];omega;done)|fail):g:=h
 have yd {g:Prop} (h:g:=by first|(exfalso;first|omega|exact absurd hm8 (by assumption))|fail):g:=h
 have yg {g:Prop} (h:g:=by first|(exact mb)|(exact⟨v1,v2,by omega,hm8,by first|omega|(simp only[al5];omega)⟩)|(first|exact⟨by omega,by omega⟩|assumption)|fail):g:=h
 have yp {g:Prop} (h:g:=by first|(first|(exfalso;omega)|(refine⟨Jr hm8 ?_,by simp only[al2,al3,al5];omega,v3⟩;simp only[Si.er,So.er, *]))|fail):g:=h
 have yz {g:Prop} (h:g:=by first|(simp[bR];omega;done)|fail):g:=h
 have ye {g:Prop} (h:g:=by first|(exact cR hK (.mk (.mk _ _ _ _ _ _ _ _ _ _ _ _ [] _ [] ..) ..))|fail):g:=h
 have yq {g:Prop} (h:g:=by first|(refine cb (.mk _ _ _ _ _ [] ..) (h:= ?_);exact wo)|(refine wX [(.mk ..)] (by first|exact sd|exact ys) ?_;exact wz)|fail):g:=h
 exact wz
noncomputable def uP:NN:=bY Fo KM [(0,4),(1,1),(2,15),(3,8)]
def eE (me:Int) (l:List Int):St:=if me∈l then bM 0 {An with me:=me} 1 l [] else {An with me:=me}
theorem aeY {me:Int} {l:List Int} {s:St} (h:me∈l) (e:s=bM 0 {An with me:=me} 1 l []):s=eE me l:=by unfold eE;rw[if_pos h,e]
theorem aeX {me:Int} {l:List Int} (h:¬me∈l):({An with me:=me}:St)=eE me l:=by unfold eE;rw[if_neg h]
theorem aeA {me:Int} {h1 h2:Value} (mb:0≤me∧me<8):kF (So.er ⟨me,h1,[],[],[],[],false,0,0,0,h2,[],[],0⟩):=⟨Int.le_refl 0,by show(0:Int)<4294967295;omega,mb,⟨List.nodup_nil,fun _ h=>by cases h⟩,⟨List.nodup_nil,fun _ h=>by cases h⟩,⟨List.nodup_nil,fun _ h=>by cases h⟩,⟨List.nodup_nil,fun _ h=>by cases h⟩,(fun _ h=>by cases h),Nat.zero_le _⟩
noncomputable def ft_firstV':NV (aB [] [] [] 0x2774fa55050a80c3bbb3b445ba0c597f7a08b495347aa1a1fdb6eeddda51252b96c464737d7544b8bce6bb3381727626d1dfb9b3a):=⟨_,by conv=>rhs;reduce⟩
noncomputable abbrev LW:XF:=ft_firstV'.1
theorem Ch:aK Tryz.prog 43 LW=true:=by kernel_rfl
structure SA where
 h:Value
 l:List Int
structure RT where
 mh:Value
theorem KD:aA Tryz.prog 43 0 (aO (fun p:SA=>([.int 1 (.ofNat 0),.sy (.imm p.h 2 Int p.l am)],.leaf,0)) (fun p=>NL p.l∧¬p.l=[]) (fun p K=>aj fun r:RT=>K (.tup [.agg [.int 1 (.ofNat 0),.int 3 (.ofNat 1),.sy (.imm r.mh 2 Int p.l am)],.int 0 (.ofNat 0)]) .leaf 0)):=nE (nat:=uP) Ch fun p K hpre hK=>by
 dsimp only at hpre hK ⊢
 obtain⟨v1,v2⟩:=hpre
 have hm:=ah v1
 have nnx:=trivial
 have ys {g:Prop} (h:g:=by first|(first|rfl|exact(hi).1|exact hi.1)|fail):g:=h
 have yg {g:Prop} (h:g:=by first|(refine⟨?_,?_⟩<;>first|assumption|omega)|fail):g:=h
 have yq {g:Prop} (h:g:=by first|(refine wX p.l (by first|exact sd|exact ys) ?_;exact wz)|fail):g:=h
 exact wz
noncomputable def uJ:NN:=bY uP KD [(0,1),(1,23)]
noncomputable def ft_newG':NV (fun e0 e1 e2 a0=>aB [e0,e1,e2] [a0] [] 0xd428a5d59bbb7f9c5d9788b42dcbc9d38285457f37bc14652dda9d6b455318df28265d8d1024cd39308ffa734533bccbd4a5b15aaa616222a26b764bf12a13e06ab6dfbcf4f1e2caf87cbf16da3307ee6e8c9e9deda57fa9e5dcdefed7fb32a7fbb79041b689c2750e73f93):=⟨_,by conv=>rhs;reduce⟩
noncomputable abbrev Zf:XF:=ft_newG'.1 (eC 52 2 am) (eC 68 18 aD) (eC 45 3 agQ) (.can 0 [9,4,7])
theorem IB:aK Tryz.prog 23 Zf=true:=by kernel_rfl
structure Ns where
 me:Int
 h:Value
 l:List Int
structure ahQ where
 s:Si
structure aaO where
 s:So
noncomputable def Nk (p:Ns):IE:=([.int 1 (.ofNat 0),eL p.me,.sy (.imm p.h 2 Int p.l am)],.leaf,0)
theorem Fv:aA Tryz.prog 23 0 (aO (fun p:Ns=>([.int 1 (.ofNat 0),eL p.me,.sy (.imm p.h 2 Int p.l am)],.leaf,0)) (fun p=>NL p.l∧¬p.l=[]∧(0≤p.me∧p.me<8)) (fun p K=>ae (aj fun r:ahQ=>iP ((r.s.er none)=eE p.me p.l∧(r.s.be.length:Int)≤r.s.se∧0<r.s.N) (K (.ptr 0 0) (dv r.s r.s r.s) 9) true) (aj fun r:aaO=>iP (r.s.er=eE p.me p.l∧(r.s.be.length:Int)≤r.s.se) (K (.ptr 0 0) (di r.s) 5) true))):=nE (nat:=uJ) IB fun p K hpre hK=>by
 dsimp only at hpre hK ⊢
 obtain⟨hK0,hKr0⟩:=ac hK
 have hK1:=hKr0
 obtain⟨v1,v2,mb⟩:=hpre
 have hm:=ah v1
 have nnx:=trivial
 have nnr:=trivial
 have nnq:=trivial
 have yd {g:Prop} (h:g:=by first|(exfalso;omega)|fail):g:=h
 have yg {g:Prop} (h:g:=by first|(exact⟨v1,v2⟩)|(exact⟨aeA mb,v1,v2,by omega,by omega,by omega,by simp,by assumption⟩)|fail):g:=h
 have yp {g:Prop} (h:g:=by first|(exact⟨aeY (by first|assumption|exact Classical.not_not.1 (by assumption)) (hi).1,(hi).2⟩)|(exact⟨aeX (by assumption),by simp⟩)|fail):g:=h
 have ye {g:Prop} (h:g:=by first|(exact cR hK1 (.mk (.mk _ _ [] [] [] [] _ _ _ _ _ [] [] ..) ..))|fail):g:=h
 have yq {g:Prop} (h:g:=by first|(refine cb (.mk (.mk _ _ [] [] [] [] _ _ _ _ _ [] [] ..) ..) (h:= ?_);exact wo)|fail):g:=h
 exact wz
noncomputable def Oo:NN:=bY uJ Fv [(0,1),(1,15),(2,23)]
theorem SeatsH.app {m:dS} {h:Value} {s:St} {c:aH} (hat:SeatAt h s m c):∀{l:List (Value×St)} {D:aH},SeatsH l m D→SeatsH (l++[(h,s)]) m (D++c)
 |[],D,_=>⟨c,D,List.perm_append_comm,hat,trivial⟩
 |x::l,D,⟨c0,D0,h1,h2,h3⟩=>⟨c0,D0++c,(List.Perm.append_right c h1).trans (by rw[amb]),h2,SeatsH.app hat h3⟩
structure vR where
 ps:List Value
 ss:List St
 me:Int
 h:Value
 l:List Int
structure ahL where
 z:Value
noncomputable def mG (p:vR):IE:=([.ptr 0 0,.int 1 (.ofNat 0),eL p.me,.sy (.imm p.h 2 Int p.l am)],(.node .leaf (some (.opq (List Value×List St) (p.ps,p.ss) bJ)) .leaf),1)
noncomputable def lO (p:vR) (K:KE):Bool:=aj fun r:ahL=>K (hv r.z) (.node .leaf (some (.opq (List Value×List St) ((p.ps++[r.z]),(p.ss++[eE p.me p.l])) bJ)) .leaf) 1
def lM (p:vR):Prop:=NL p.l∧¬p.l=[]∧(0≤p.me∧p.me<8)
theorem ag9 {s:IE} {K:KE} (w:vR) (e:∀t,mG w=t→s=t:=by first|(intro t h;dsimp only[mG]at h;subst h;exact rfl)|fail) (g:lM w:=by first|((try dsimp only[lM,oL,oN,Int.reduceNegSucc]);first|done|exact yg|trivial|assumption|omega)|fail) (h:lO w K=true):Cl s mG lM lO K:=wS w e g h
theorem WB:dM Tryz.prog 23 1 (fY mG (jO lM lO)):=by
 intro us xs E ρ G F M nx w K R hE hs hd hk0 hr
 obtain⟨p,hk1⟩:=bk hk0
 obtain⟨hI,hk2⟩:=ai hk1
 obtain⟨hpre,hk3⟩:=ai (show ae (aq (lM p)) (lO p K)=true from hk2)
 clear hk0 hk1 hk2
 have e1:us=(mG p).1:=congrArg Prod.fst hI
 have e2:M=(mG p).2.1:=congrArg (fun x=>x.2.1) hI
 have e3:nx=(mG p).2.2:=congrArg (fun x=>x.2.2) hI
 subst e1;subst e2;subst e3
 obtain⟨D,_,c,rfl,hq,hh,hob,hinj⟩:=hs.ex
 obtain⟨m0,hm0,hlen,hS⟩:=hq 0 _ _ _ rfl
 obtain⟨e0,he0,_⟩:=hob 0 _ rfl
 obtain⟨z0,ys,_,d1,rfl⟩:=bf hd
 show Calls Tryz.prog 23 ys.toArray w R
 have hs1:Sim E (fun _=>none) G ((c++D)::F) .leaf 0 w:=by
  refine⟨⟨[],_,[],rfl,fun i α x Φ hi=>(by rw[T.get_leaf]at hi;cases hi),hh.perm ?_,fun i o hi=>(by rw[T.get_leaf]at hi;cases hi),fun i j e f o o' hi=>(by rw[T.get_leaf]at hi;cases hi)⟩,hs.mem,fun _ _=>rfl⟩
  simp only[al8,List.nil_append,amb]
  exact List.Perm.refl _
 have hd1:ay E (fun _=>none) (Nk ⟨p.me,p.h,p.l⟩).1=some ys:=AE (E:=E) (E':=E) rfl (by
  intro u hu
  simp only[Nk,List.mem_cons,List.not_mem_nil,or_false]at hu
  rcases hu with rfl|rfl|rfl
  ·exact cP false [.int 1 (.ofNat 0)]
  ·exact cP true [.sint 1 p.me,.int 2 (.ofNat 1)]
  ·exact cP false [.imm p.h 2 Int p.l am]) d1
 refine Fv _ _ E (fun _=>none) G _ _ _ w (fun v M2 n2=>aq (v= .ptr 0 0∧∃s',SForm M2 n2 s'∧s'=eE p.me p.l)) R hE hs1 hd1 ?_ ?_
 ·refine aY ⟨p.me,p.h,p.l⟩ (aN rfl (aN hpre ?_))
  exact dI (aR fun r=>iI (fun hr=>prB_true.2 ⟨rfl,_,.inl ⟨r.s,rfl,rfl,rfl,hr.2.1,hr.2.2⟩,hr.1⟩) (fun _=>rfl)) (aR fun r=>iI (fun hr=>prB_true.2 ⟨rfl,_,.inr (.inr ⟨r.s,rfl,rfl,rfl,hr.2⟩),hr.1⟩) (fun _=>rfl))
 intro v M2 n2 E2 ρ2 w2 z hK hE2 hM hpin hs2 hdv
 obtain⟨rfl,s',hf2,rfl⟩:=prB_true.1 hK
 obtain⟨D2,_,c2,rfl,hq2,hh2,hob2,hinj2⟩:=hs2.ex
 obtain⟨b,cap,hb1,hb2⟩:∃b cap,ρ2 0=some ⟨b,cap⟩∧z= .pointer (some ⟨b,0,none⟩):=by
  simp only[den]at hdv
  cases hq3:ρ2 0 with
  |none=>rw[hq3]at hdv;cases hdv
  |some e=>rw[hq3]at hdv;exact⟨e.b,e.cap,rfl,by cases hdv;rfl⟩
 have hz1:den ⟨E.at_,E2.M⟩ ρ (hv z)=some z:=by rw[hb2];rfl
 refine hr (hv z) (OQ (p.ps++[z]) (p.ss++[eE p.me p.l])) 1 ⟨E.at_,E2.M⟩ ρ w2 z (aV hk3 ⟨z⟩) ⟨hE.1,hE2.2⟩ hM (fun i e _ q=>q) ?_ hz1
 refine⟨⟨D++c2,_,c++D2,rfl,fun i α x Φ hi=> ?_,hh2.perm ?_,fun i o hi=> ?_,fun i j e f o o' hi hj he hf' hb1 hb2 _=> ?_⟩,hs2.mem,hs.fresh⟩
 ·obtain⟨rfl,ho⟩:=OQ_get hi
  cases ho
  refine⟨E2.M,MLe.refl _,by simpa using hlen,?_⟩
  rw[List.zip_append hlen]
  exact SeatsH.app ⟨b,cap,M2,n2,ρ2,E2.at_,hb2,hf2,hb1,hE2.1,hs2.fresh,hob2,hinj2⟩ (hS.mono (hm0.trans hM))
 ·simp only[al8,←amb]
  refine List.Perm.append_right _ ?_
  have e:((c2++D2)++c)++D=c2++((D2++c)++D):=by simp only[amb]
  rw[e]
  exact(List.perm_append_comm.trans (List.Perm.append_right c2 (List.Perm.append_right D List.perm_append_comm))).symm
 ·obtain⟨rfl,rfl⟩:=OQ_get hi
  exact⟨e0,he0,.inr ⟨rfl,trivial⟩⟩
 ·obtain⟨rfl,rfl⟩:=OQ_get hi
  cases hb1
noncomputable def tx:NN:=jV Oo WB [(0,1),(1,15),(2,23)]
theorem wW {R:Type} {po po2:R→Prop} {k:R→Bool} (hK:aj (fun r=>iP (po r) (k r) true)=true) (h:∀r,po2 r→po r):aj (fun r=>iP (po2 r) (k r) true)=true:=aR fun r=>iI (fun q=>dV (h r q) (aV hK r)) fun _=>rfl
def Ja (x:Value):List PL:=[.raw x]
def zR (x:Bool):List PL:=[.sbool (x=true)]
structure Fl where
 fr:Int
 to:Int
 m:Mg
def Fl.er (x:Fl):Int×Int×Mx:=(x.fr,x.to,x.m.er)
def Jb (x:Fl):List PL:=[.sint 0 x.fr,.sint 0 x.to,.sint 1 x.m.k,.int 1 (.ofNat 0),.int 1 (.ofNat 0),.sint 3 x.m.N,.sint 3 x.m.fr,.sint 3 x.m.c,.int 3 (.ofNat 0),.sint 4 x.m.b,.sint 4 x.m.acc,.int 1 (.ofNat 0),.int 2 (.ofNat 0),.int 3 (.ofNat 0),.int 1 (.ofNat 0),.int 1 (.ofNat 0),.int 1 (.ofNat 0),.int 1 (.ofNat 0),.int 1 (.ofNat 0),.int 1 (.ofNat 0),.int 1 (.ofNat 0),.nilS,.int 1 (.ofNat 0),.str [],.int 1 (.ofNat 0),.sint 3 x.m.vn,.imm x.m.vh 2 Int x.m.vl am,.sint 1 x.m.pn,.sint 2 x.m.pl,.sbool (x.m.has=true),.imm x.m.mh 2 Int x.m.ml am,.imm x.m.h 18 Ke x.m.l aD,.imm x.m.th 18 Ke x.m.tl aD]
noncomputable abbrev AL (x0:List Fl):AObj:=.prow 76 33 Fl x0 Jb
structure Fd where
 ps:List Value
 dn:List Bool
 L:List Fl
 a:Nat
 o:Nat
 cp:Nat
 now:Int
 n:Int
 ss:List St
def ef (fly:List (Int×Int×Mx)) (fr:Int) (os:List (Int×Mx)):List (Int×Int×Mx):=fly++(os.take (400 - fly.length)).map fun x=>(fr,x.1,x.2)
def qZ (os:List (Int×Mx)):Prop:=∀y∈os,(0≤y.1∧y.1<8)∧cJ y.2
theorem ajw {l:List Ou} {i:Nat} {x:Ou} (h:qZ (l.map Ou.er)) (hx:l[i]?=some x):0≤x.to∧x.to<8:=(h _ (List.mem_map_of_mem (al7 hx))).1
theorem ab2 {F:List Fl} {fr i:Int} {l:List Ou} (hi:0≤i) (h:¬i<(l.length:Int)):F.map Fl.er=ef (F.map Fl.er) fr ((l.drop i.toNat).map Ou.er):=by
 unfold ef
 rw[List.drop_eq_nil_of_le (by omega)];simp
theorem Vc {F:List Fl} {fr:Int} {o:List (Int×Mx)} (h:¬F.length<400):F.map Fl.er=ef (F.map Fl.er) fr o:=by
 unfold ef
 rw[al4,show 400 - F.length=0 by omega];simp
theorem Vb {F F2 R:List Fl} {fr i:Int} {l:List Ou} {x z:Ou} {y:Fl} (hi:0≤i) (hx:l[i.toNat]?=some x) (hz:l[i.toNat]?=some z) (hf:F.length<400) (h2:F2=F++[y]) (hy:y.er=(fr,x.to,z.m.er)) (h:R.map Fl.er=ef (F2.map Fl.er) fr ((l.drop (i+1).toNat).map Ou.er)):R.map Fl.er=ef (F.map Fl.er) fr ((l.drop i.toNat).map Ou.er):=by
 obtain rfl:=amp (hx.symm.trans hz)
 rw[h,h2]
 unfold ef
 have e:l.drop i.toNat=x::l.drop (i+1).toNat:=by
  rw[show(i+1).toNat=i.toNat+1 by omega]
  obtain⟨h1,h2⟩:=List.getElem?_eq_some_iff.1 hx
  rw[←h2]
  exact List.drop_eq_getElem_cons h1
 rw[e]
 simp only[List.map_append,List.map_cons,List.map_nil,al2,al4,al3,al5,hy]
 rw[show 400 - F.length=(400 - (F.length+(0+1)))+1 by omega,List.take_succ_cons,List.map_cons]
 simp[Ou.er]
noncomputable def bd_l_tell':NV (df [] [] [] 0x245f43243185c81722723b475cce60ee0efb35f267e3ac11dd1d6cff871f36841a9a1691b779e29e294e9527a8215ae43594a566ab0803343dec9cb8ed71b41cd82467e25a053a2234dd000b7c807d93bbd97a4b995):=⟨_,by conv=>rhs;reduce⟩
noncomputable abbrev yP:XC:=bd_l_tell'.1
noncomputable def ft_tellG':NV (fun b0=>aB [] [] [b0] 0x31cb3d53652dadef9b3bfc):=⟨_,by conv=>rhs;reduce⟩
noncomputable abbrev Qh:XF:=ft_tellG'.1 yP
theorem DR:aK Tryz.prog 49 Qh=true:=by kernel_rfl
structure Dv where
 q:Nat→Value
 L:List Fl
 a:Nat
 o:Nat
 cp:Nat
 fr:Int
 hh:Value
 l:List Ou
 i:Int
structure RC where
 L:List Fl
 a:Nat
 o:Nat
 cp:Nat
noncomputable def Pt:bN:=cq bT 0 (fun p:Dv=>((.cons 6 (.sy (.int 0 p.i)) (.cons 2 (.sy (.imm p.hh 33 Ou p.l cE)) (.cons 1 (.sy (.int 0 p.fr)) (.cons 0 (.ptr 0 0) .nil)))),(.node (.node .leaf (some (AL p.L)) .leaf) (some (Ub p.q p.a (p.L.length - p.a) p.o (some p.cp))) .leaf),2)) (fun p=>p.a≤p.L.length∧(p.L.length:Int)≤2000000000+p.i∧p.l.length≤1000000∧0≤p.fr∧p.fr<8∧0≤p.i∧p.i≤(p.l.length:Int)∧qZ (p.l.map Ou.er)) (fun p K=>aj fun r:RC=>iP ((r.L.drop r.a).map Fl.er=ef ((p.L.drop p.a).map Fl.er) p.fr ((p.l.drop p.i.toNat).map Ou.er)∧r.a≤r.L.length∧(r.L.length:Int)≤p.L.length+(p.l.length - p.i)) (K 2 .nil (.node (.node .leaf (some (AL r.L)) .leaf) (some (Ub p.q r.a (r.L.length - r.a) r.o (some r.cp))) .leaf) 2) true)
theorem KZ:bj Tryz.prog 44 1 Pt true 0 yP:=lL (nat:=tx) (fun p:Dv=>((p.l.length:Int) - p.i).toNat) cy (fun _ _ _ _=>rfl) fun p K hpre hK=>by
 dsimp only at hpre hK ⊢
 obtain⟨g1,g2,g3,g4,g5,g6,g7,g8⟩:=hpre
 have ys {g:Prop} (h:g:=by first|(have e:=ajw g8 (by assumption);simp only[gX];omega;done)|(simp[bR];omega;done)|fail):g:=h
 have yp {g:Prop} (h:g:=by first|(first|exact⟨ab2 g6 (by assumption),g1,by omega⟩|exact⟨Vc (by rw[amr];omega),g1,by omega⟩)|fail):g:=h
 have yb {g:Prop} (h:g:=by first|(exact⟨(hi).1,by have e:=(hi).2.1;simp only[al3,al5]at e;omega,g3,g4,g5,by omega,by omega,g8⟩)|fail):g:=h
 have yx {g:Prop} (h:g:=by first|(exact wW hK fun r hz=>by(try dsimp only[oL,oN]at hz);have e:=(hi).2.1;simp only[al3,al5]at e;exact⟨Vb g6 (by assumption) (by assumption) (by rw[amr];omega) (hi).2.2 rfl hz.1,hz.2.1,by omega⟩)|fail):g:=h
 have yq {g:Prop} (h:g:=by first|(refine wX [(.mk _ _ (.mk ..) ..)] (by first|exact sd|exact ys) ?_;exact wz)|fail):g:=h
 exact wz
structure abu where
 q:Nat→Value
 L:List Fl
 a:Nat
 o:Nat
 cp:Nat
 fr:Int
 hh:Value
 l:List Ou
structure aaH where
 L:List Fl
 a:Nat
 o:Nat
 cp:Nat
theorem OC:aA Tryz.prog 49 1 (aO (fun p:abu=>([.ptr 0 0,.sy (.int 0 p.fr),.sy (.imm p.hh 33 Ou p.l cE)],(.node (.node .leaf (some (AL p.L)) .leaf) (some (Ub p.q p.a (p.L.length - p.a) p.o (some p.cp))) .leaf),2)) (fun p=>p.a≤p.L.length∧p.L.length≤2000000000∧p.l.length≤1000000∧0≤p.fr∧p.fr<8∧qZ (p.l.map Ou.er)) (fun p K=>aj fun r:aaH=>iP ((r.L.drop r.a).map Fl.er=ef ((p.L.drop p.a).map Fl.er) p.fr (p.l.map Ou.er)∧r.a≤r.L.length∧(r.L.length:Int)≤p.L.length+p.l.length) (K (.tup []) (.node (.node .leaf (some (AL r.L)) .leaf) (some (Ub p.q r.a (r.L.length - r.a) r.o (some r.cp))) .leaf) 2) true)):=nF (nat:=tx) DR (dB KZ) fun p K hpre hK=>by
 dsimp only at hpre hK ⊢
 obtain⟨g1,g2,g3,g4,g5,g8⟩:=hpre
 have yg {g:Prop} (h:g:=by first|(exact⟨g1,by omega,g3,g4,g5,by omega,by omega,g8⟩)|fail):g:=h
 have yp {g:Prop} (h:g:=by first|(have e:=hi;simpa using e)|fail):g:=h
 exact wz
noncomputable def xU:NN:=iV tx OC [(0,4),(1,20),(2,23)] [0,1,3,4]
noncomputable def Fm (f:Fd) (k0:Nat) (k1:Nat) (k2:Nat):T:=(.node (.node (.node .leaf (some (.prow 4 1 Bool f.dn zR)) .leaf) (some (.blk false 34 5 [[.sy (.prow 2 k0),.sy (.prow 3 k1),.sy (.psub 4 33 f.a k2 f.o (some f.cp)),.sy (.int 0 f.now),.sy (.int 0 f.n)]])) .leaf) (some (.opq (List Value×List St) (f.ps,f.ss) bJ)) (.node (.node .leaf (some (AL f.L)) .leaf) (some (.prow 36 1 Value f.ps Ja)) .leaf))
noncomputable def gp (f:Fd):T:=Fm f f.ps.length f.dn.length (f.L.length - f.a)
structure Fx where
 ss:List St
 dn:List Bool
 fly:List (Int×Int×Mx)
 now:Int
 n:Int
def Fd.er (f:Fd):Fx:=⟨f.ss,f.dn,(f.L.drop f.a).map Fl.er,f.now,f.n⟩
def dE (f:Fx) (t:Int×Int×Mx):Fx:=if t.2.1<f.ss.length∧f.dn[t.2.1.toNat]?=some false then {f with ss:=f.ss.set t.2.1.toNat (bm f.now (aI f.ss t.2.1.toNat) t.1 t.2.2).1,fly:=ef f.fly t.2.1 (bm f.now (aI f.ss t.2.1.toNat) t.1 t.2.2).2} else f
def cS (f:Fx) (x:Int):Fx:=if f.dn[x.toNat]?=some false then {f with now:=f.now+1,ss:=f.ss.set x.toNat (bZ (f.now+1) (aI f.ss x.toNat)).1,fly:=ef f.fly x (bZ (f.now+1) (aI f.ss x.toNat)).2} else {f with now:=f.now+1}
structure FW (f:Fd):Prop where
 ps:f.ps.length=f.ss.length
 dn:f.dn.length=f.ss.length
 ss:f.ss.length≤8
 a:f.a≤f.L.length
 L:f.L.length≤1000000000
theorem uz {o:List Ou} {l:List (Int×Mx)} (h:o.map Ou.er=l):o.length=l.length:=by rw[←h,al4]
theorem ag5 {f:Fd} {t:Fl} {L:List Fl} {a o cp:Nat} {os:List Ou} {b:Bool} (hw:FW f) (h1:t.to<f.ps.length) (h2:f.dn[t.to.toNat]?=some b) (hb:¬b=true) (ho:os.map Ou.er=(bm f.now (aI f.ss t.to.toNat) t.fr t.m.er).2) (ht:(L.drop a).map Fl.er=ef ((f.L.drop f.a).map Fl.er) t.to (os.map Ou.er)):({f with ss:=f.ss.set t.to.toNat (bm f.now (aI f.ss t.to.toNat) t.fr t.m.er).1,L:=L,a:=a,o:=o,cp:=cp}:Fd).er=dE f.er t.er:=by
 have e:b=false:=by simpa using hb
 subst e
 have q:t.er.2.1<f.er.ss.length∧f.er.dn[t.er.2.1.toNat]?=some false:=⟨by have:=hw.ps;show t.to<f.ss.length;omega,h2⟩
 unfold dE
 rw[if_pos q]
 simp only[Fd.er,ht,ho]
 rfl
theorem UG {f:Fd} {t:Fl} (hw:FW f) (h:¬(t.to<f.ps.length∧f.dn[t.to.toNat]?=some false)):f.er=dE f.er t.er:=by
 unfold dE
 rw[if_neg (fun q=>h ⟨by have:=q.1;have:=hw.ps;dsimp only[Fl.er,Fd.er]at*;omega,q.2⟩)]
theorem ab4 {f:Fd} {x:Int} {L:List Fl} {a o cp:Nat} {os:List Ou} {b:Bool} (h2:f.dn[x.toNat]?=some b) (hb:¬b=true) (ho:os.map Ou.er=(bZ (f.now+1) (aI f.ss x.toNat)).2) (ht:(L.drop a).map Fl.er=ef ((f.L.drop f.a).map Fl.er) x (os.map Ou.er)):({f with now:=f.now+1,ss:=f.ss.set x.toNat (bZ (f.now+1) (aI f.ss x.toNat)).1,L:=L,a:=a,o:=o,cp:=cp}:Fd).er=cS f.er x:=by
 have e:b=false:=by simpa using hb
 subst e
 unfold cS
 rw[if_pos (show f.er.dn[x.toNat]?=some false from h2)]
 simp only[Fd.er,ht,ho]
theorem ajk {f:Fd} {x:Int} (h:¬f.dn[x.toNat]?=some false):({f with now:=f.now+1}:Fd).er=cS f.er x:=by
 unfold cS
 rw[if_neg (show¬f.er.dn[x.toNat]?=some false from h)]
 rfl
theorem ajz {l:List Bool} {i:Nat} {b:Bool} {p:Prop} (h:l[i]?=some b) (hb:¬¬b=true):¬(p∧l[i]?=some false):=fun q=>by
 rw[q.2]at h
 cases h
 simp at hb
theorem aeU {l:List Bool} {i:Nat} {b:Bool} (h:l[i]?=some b) (hb:¬¬b=true):¬l[i]?=some false:=fun q=>by
 rw[q]at h
 cases h
 simp at hb
noncomputable def ft_comeG':NV (aB [] [] [] 0xbf9f3af6ca108c6bd17af57a54c1ee76b54a80f91dfec38c79a36dfc2adda9890340245465eed8234b15f42408d75b98eb48ec82ec5587aecf4603524f3b1aecdb0e12cf88f8eb4b2c72c5cbc4908102533aa4d195fbfc3b3c88d1bdcab64fc6f):=⟨_,by conv=>rhs;reduce⟩
noncomputable abbrev QI:XF:=ft_comeG'.1
theorem Eo:aK Tryz.prog 29 QI=true:=by kernel_rfl
structure abT where
 f:Fd
 t:Fl
structure abe where
 f:Fd
theorem Pa:dM Tryz.prog 29 2 (aO (fun p:abT=>([.ptr 0 0,.ptr 1 0,.agg [.sy (.int 0 p.t.fr),.sy (.int 0 p.t.to),.sy (.int 1 p.t.m.k),.int 1 (.ofNat 0),.int 1 (.ofNat 0),.sy (.int 3 p.t.m.N),.sy (.int 3 p.t.m.fr),.sy (.int 3 p.t.m.c),.int 3 (.ofNat 0),.sy (.int 4 p.t.m.b),.sy (.int 4 p.t.m.acc),.int 1 (.ofNat 0),.int 2 (.ofNat 0),.int 3 (.ofNat 0),.int 1 (.ofNat 0),.int 1 (.ofNat 0),.int 1 (.ofNat 0),.int 1 (.ofNat 0),.int 1 (.ofNat 0),.int 1 (.ofNat 0),.int 1 (.ofNat 0),.nilS,.int 1 (.ofNat 0),.str [],.int 1 (.ofNat 0),.sy (.int 3 p.t.m.vn),.sy (.imm p.t.m.vh 2 Int p.t.m.vl am),.sy (.int 1 p.t.m.pn),.sy (.int 2 p.t.m.pl),.sy (.bool (p.t.m.has=true)),.sy (.imm p.t.m.mh 2 Int p.t.m.ml am),.sy (.imm p.t.m.h 18 Ke p.t.m.l aD),.sy (.imm p.t.m.th 18 Ke p.t.m.tl aD)]],(gp p.f),5)) (fun p=>FW p.f∧p.f.L.length≤900000000∧0≤p.t.to∧0≤p.f.now∧p.f.now≤1000000000∧cJ p.t.m.er∧p.t.m.vn<4294967295∧0≤p.t.fr∧p.t.fr<8∧(p.t.to<(p.f.ss.length:Int)→SI (aI p.f.ss p.t.to.toNat)∧(aI p.f.ss p.t.to.toNat).N+1<4294967295∧qZ (bm p.f.now (aI p.f.ss p.t.to.toNat) p.t.fr p.t.m.er).2∧(bm p.f.now (aI p.f.ss p.t.to.toNat) p.t.fr p.t.m.er).2.length≤1000)) (fun p K=>aj fun r:abe=>iP (r.f.er=dE p.f.er p.t.er∧r.f.ps=p.f.ps∧r.f.a≤r.f.L.length∧r.f.L.length≤p.f.L.length+1000) (K (.tup []) (gp r.f) 5) true)):=nQE (nat:=xU) Eo fun p K hpre hK=>by
 dsimp only at hpre hK ⊢
 obtain⟨hw,hL,ht0,n1,n2,hm,hv,f1,f2,hs0⟩:=hpre
 have w1:=hw.ps
 have w2:=hw.dn
 have w3:=hw.ss
 have nnx:=trivial
 have nnr:=trivial
 have ys {g:Prop} (h:g:=by first|(have e2l:x3=x2:=amp ((by assumption:_=some x3).symm.trans (by assumption:_=some x2));subst e2l;rfl)|fail):g:=h
 have yg {g:Prop} (h:g:=by first|(have hs:=hs0 (by omega);exact⟨by assumption,by omega,hs.1,hs.2.1,by omega,by omega,hm,hv,by omega,by omega⟩)|(have hs:=hs0 (by omega);have he_:_=(bm p.f.now (aI p.f.ss p.t.to.toNat) p.t.fr p.t.m.er).2:=(by assumption:_=(bm _ _ _ _).2);have hl_:=uz he_;exact⟨hw.a,by omega,by omega,by omega,by omega,by rw[he_];exact hs.2.2.1⟩)|fail):g:=h
 have yp {g:Prop} (h:g:=by first|(first|exact⟨UG hw (ajz (by assumption) (by assumption)),rfl,hw.a,by omega⟩|exact⟨UG hw (fun q=>absurd q.1 (by assumption)),rfl,hw.a,by omega⟩|(have hs:=hs0 (by omega);have he_:_=(bm p.f.now (aI p.f.ss p.t.to.toNat) p.t.fr p.t.m.er).2:=(by assumption:_=(bm _ _ _ _).2);have hl_:=uz he_;have ht_:=(by assumption:_=ef _ _ _∧_);exact⟨ag5 hw (by assumption) (by assumption) (by assumption) he_ ht_.1,rfl,ht_.2.1,by omega⟩))|fail):g:=h
 have yz {g:Prop} (h:g:=by first|(have e2l:x3=x2:=amp ((by assumption:_=some x3).symm.trans (by assumption:_=some x2));subst e2l;rfl)|fail):g:=h
 have yq {g:Prop} (h:g:=by first|(refine aaa (.mk _ _ p.t.to.toNat _ _ _ (.mk ..) ..) (h:= ?_);dsimp only[jT,td,BM];exact wo)|fail):g:=h
 exact wz
noncomputable def yu:NN:=jV xU Pa [(0,4),(1,15)]
noncomputable def ft_tickG':NV (aB [] [] [] 0x55e5ee2a22580cd0db684db2791540128f8d7e42387efcd7ac4f3939923cd15cc700c94072bf2e70e5e):=⟨_,by conv=>rhs;reduce⟩
noncomputable abbrev Qg:XF:=ft_tickG'.1
theorem DQ:aK Tryz.prog 28 Qg=true:=by kernel_rfl
structure abt where
 f:Fd
 x:Int
structure aaG where
 f:Fd
theorem OA:dM Tryz.prog 28 2 (aO (fun p:abt=>([.ptr 0 0,.ptr 1 0,.sy (.int 0 p.x)],(gp p.f),5)) (fun p=>FW p.f∧p.f.L.length≤900000000∧0≤p.x∧p.x<(p.f.ss.length:Int)∧0≤p.f.now∧p.f.now<1000000000∧SI (aI p.f.ss p.x.toNat)∧(aI p.f.ss p.x.toNat).N+1<4294967295∧qZ (bZ (p.f.now+1) (aI p.f.ss p.x.toNat)).2∧(bZ (p.f.now+1) (aI p.f.ss p.x.toNat)).2.length≤1000) (fun p K=>aj fun r:aaG=>iP (r.f.er=cS p.f.er p.x∧r.f.ps=p.f.ps∧r.f.a≤r.f.L.length∧r.f.L.length≤p.f.L.length+1000) (K (.tup []) (gp r.f) 5) true)):=nQE (nat:=yu) DQ fun p K hpre hK=>by
 dsimp only at hpre hK ⊢
 obtain⟨hw,hL,x1,x2,n1,n2,hsA,hsB,hsC,hsD⟩:=hpre
 have w1:=hw.ps
 have w2:=hw.dn
 have w3:=hw.ss
 have nnr:=trivial
 have yg {g:Prop} (h:g:=by first|(exact⟨by assumption,by omega,hsA,hsB,by omega,by omega⟩)|(have he_:=(by assumption:_=(bZ _ _).2);have hl_:=uz he_;exact⟨hw.a,by omega,by omega,by omega,by omega,by rw[he_];exact hsC⟩)|fail):g:=h
 have yp {g:Prop} (h:g:=by first|(first|exact⟨ajk (aeU (by assumption) (by assumption)),rfl,hw.a,by omega⟩|(have he_:=(by assumption:_=(bZ _ _).2);have hl_:=uz he_;have ht_:=(by assumption:_=ef _ _ _∧_);exact⟨ab4 (by assumption) (by assumption) he_ ht_.1,rfl,ht_.2.1,by omega⟩))|fail):g:=h
 have yq {g:Prop} (h:g:=by first|(refine ZZ (.mk _ _ p.x.toNat ..) (h:= ?_);dsimp only[jS,tc,BK];exact wo)|fail):g:=h
 exact wz
noncomputable def mU:NN:=jV yu OA [(0,4),(1,20)]
end Go.Proofs.Tryz
namespace Go.Proofs.Tryz
open Go Go.RowKit Go.Sy
open Go.Eng hiding aj
set_option linter.unusedVariables false
structure GA (s:St):Prop where
 me:0≤s.me∧s.me<8
 su:NL s.su
 jo:NL s.jo
 go:NL s.go
 met:NL s.met
 was:bV s.was
 wasl:s.was.length≤400
 ro:0≤s.ro∧s.ro<4294967296
 se:0≤s.se
 log:0<s.N→bV s.log∧s.log.length≤400
structure SB (B:Int) (s:St):Prop where
 si:SI s
 ro:0≤s.ro∧s.ro<4294967296
 N:s.N≤B
 se:0≤s.se∧s.se≤B
structure IN (s:St):Prop where
 ok:bz s
 av:rb s
 q:∀v,s.q=some v→PQOk s v
def OB (B:Int) (os:List (Int×Mx)):Prop:=∀y∈os,(0≤y.1∧y.1<8)∧cJ y.2∧y.2.N≤B∧y.2.vn≤B
structure RB (B:Int) (r:St×List (Int×Mx)):Prop where
 s:SB B r.1
 o:OB B r.2
 l:r.2.length≤100
theorem IN.sb {B:Int} {s:St} (h:IN s) (hN:s.N≤B):SB B s:=by
 have n0:=h.ok.n0
 have se:=h.ok.se
 exact⟨⟨fun _=>⟨h.ok,h.av,h.q⟩,fun q=>absurd n0 q⟩,⟨h.ok.ro0,h.ok.ro1⟩,hN,by omega,by omega⟩
theorem SB.inn {B:Int} {s:St} (h:SB B s) (hN:0<s.N):IN s:=⟨(h.si.1 hN).1,(h.si.1 hN).2.1,(h.si.1 hN).2.2⟩
theorem SB.ga {B:Int} {s:St} (h:SB B s):GA s:=by
 by_cases hN:0<s.N
 ·have i:=(h.inn hN).ok
  exact⟨i.r.nl.2 _ i.r.me,i.su,i.jo,i.go,i.met,i.was,i.wasl,h.ro,h.se.1,fun _=>⟨i.log,i.r.len⟩⟩
 ·have i:=h.si.2 hN
  exact⟨i.me,i.su,i.jo,i.go,i.met,i.was,i.wasl,h.ro,h.se.1,fun q=>absurd q hN⟩
theorem SB.le {B C:Int} {s:St} (h:SB B s) (hc:B≤C):SB C s:=⟨h.si,h.ro,by have:=h.N;omega,h.se.1,by have:=h.se.2;omega⟩
theorem OB.le {B C:Int} {o:List (Int×Mx)} (h:OB B o) (hc:B≤C):OB C o:=fun y hy=>by
 have:=h y hy
 exact⟨this.1,this.2.1,by have:=this.2.2.1;omega,by have:=this.2.2.2;omega⟩
theorem dG {B:Int}:OB B []:=fun y hy=>by cases hy
theorem qd {B:Int} {a b:List (Int×Mx)} (ha:OB B a) (hb:OB B b):OB B (a++b):=fun y hy=>(List.mem_append.1 hy).elim (ha y) (hb y)
theorem nZ {B:Int} {x:Int} {m:Mx} (hx:0≤x∧x<8) (hm:cJ m) (h1:m.N≤B) (h2:m.vn≤B):OB B [(x,m)]:=fun y hy=>by
 simp only[List.mem_singleton]at hy
 subst hy
 exact⟨hx,hm,h1,h2⟩
theorem jU {B:Int} {me:Int} {m:Mx} {l:List Int} (hl:∀x∈l,0≤x∧x<8) (hm:cJ m) (h1:m.N≤B) (h2:m.vn≤B):OB B (cB me m l):=fun y hy=>by
 unfold cB at hy
 obtain⟨x,hx,rfl⟩:=List.mem_map.1 hy
 exact⟨hl x (List.mem_filter.1 hx).1,hm,h1,h2⟩
theorem TT {B:Int} {o:List (Int×Mx)} (h:OB B o):qZ o:=fun y hy=>⟨(h y hy).1,(h y hy).2.1⟩
theorem qv:bV []:=fun _ h=>by cases h
theorem xn {l:List Ke} {n:Nat} (h:bV l):bV (l.take n):=fun x hx=>h x (List.mem_of_mem_take hx)
theorem FH {l:List Ke} {n:Nat} (h:bV l):bV (l.drop n):=fun x hx=>h x (List.mem_of_mem_drop hx)
theorem BI {a b:List Ke} (ha:bV a) (hb:bV b):bV (a++b):=fun x hx=>(List.mem_append.1 hx).elim (ha x) (hb x)
theorem mo3 {N fr c:Int} {l:List Ke} (h0:0<N) (h1:N<4294967296) (h2:0≤fr) (h3:0≤c∧c≤400) (h4:fr+(l.length:Int)≤400) (h5:bV l):cJ {aF 3 with N:=N,fr:=fr,c:=c,l:=l}:=
 ⟨by dsimp only[aF];omega,by dsimp only[aF];omega,by dsimp only[aF];omega,by dsimp only[aF];omega,by dsimp only[aF];omega,by dsimp only[aF];omega,by dsimp only[aF];omega,by dsimp only[aF];omega,by dsimp only[aF];omega,by dsimp only[aF];omega,.inl ⟨rfl,rfl,rfl,rfl,rfl,rfl,rfl,rfl,rfl,rfl,h0,h2,by dsimp only[aF];omega,h3.1,h3.2,h4,h5⟩⟩
theorem mo4 {N fr:Int} (h0:0<N) (h1:N<4294967296) (h2:0≤fr∧fr≤400):cJ {aF 4 with N:=N,fr:=fr}:=
 ⟨by dsimp only[aF];omega,by dsimp only[aF];omega,by dsimp only[aF];omega,by dsimp only[aF];omega,by dsimp only[aF];omega,by dsimp only[aF];omega,by dsimp only[aF];omega,by dsimp only[aF];omega,by dsimp only[aF];omega,by dsimp only[aF];omega,.inr (.inl ⟨rfl,rfl,rfl,rfl,rfl,rfl,rfl,rfl,rfl,rfl,rfl,rfl,h0,h2.1,h2.2⟩)⟩
theorem mo5 {N b:Int} (h0:0<N) (h1:N<4294967296) (h2:0<b∧b<18446744073709551616):cJ {aF 5 with N:=N,b:=b}:=
 ⟨by dsimp only[aF];omega,by dsimp only[aF];omega,by dsimp only[aF];omega,by dsimp only[aF];omega,by dsimp only[aF];omega,by dsimp only[aF];omega,by dsimp only[aF];omega,by dsimp only[aF];omega,by dsimp only[aF];omega,by dsimp only[aF];omega,.inr (.inr (.inl ⟨rfl,rfl,rfl,rfl,rfl,rfl,rfl,rfl,rfl,rfl,rfl,rfl,h0,h2.1⟩))⟩
theorem mo6 {N b:Int} (h0:0<N) (h1:N<4294967296) (h2:0<b∧b<18446744073709551616):cJ {aF 6 with N:=N,b:=b}:=
 ⟨by dsimp only[aF];omega,by dsimp only[aF];omega,by dsimp only[aF];omega,by dsimp only[aF];omega,by dsimp only[aF];omega,by dsimp only[aF];omega,by dsimp only[aF];omega,by dsimp only[aF];omega,by dsimp only[aF];omega,by dsimp only[aF];omega,.inr (.inr (.inr (.inl ⟨rfl,rfl,rfl,rfl,rfl,rfl,rfl,rfl,rfl,rfl,rfl,rfl,h0,h2.1⟩)))⟩
theorem mo7 {N b:Int} (h0:0<N) (h1:N<4294967296) (h2:0<b∧b<18446744073709551616):cJ {aF 7 with N:=N,b:=b}:=
 ⟨by dsimp only[aF];omega,by dsimp only[aF];omega,by dsimp only[aF];omega,by dsimp only[aF];omega,by dsimp only[aF];omega,by dsimp only[aF];omega,by dsimp only[aF];omega,by dsimp only[aF];omega,by dsimp only[aF];omega,by dsimp only[aF];omega,.inr (.inr (.inr (.inr (.inl ⟨rfl,rfl,rfl,rfl,rfl,rfl,rfl,rfl,rfl,rfl,rfl,rfl,h0,h2.1⟩))))⟩
theorem mo9 {N b:Int} {ml:List Int} {tl:List Ke} (h0:0<N) (h1:N<4294967296) (h2:0<b∧b<18446744073709551616) (h3:NL ml) (h4:¬ml=[]) (h5:bV tl) (h6:tl.length≤400):cJ {aF 9 with N:=N,b:=b,ml:=ml,tl:=tl}:=
 ⟨by dsimp only[aF];omega,by dsimp only[aF];omega,by dsimp only[aF];omega,by dsimp only[aF];omega,by dsimp only[aF];omega,by dsimp only[aF];omega,by dsimp only[aF];omega,by dsimp only[aF];omega,by dsimp only[aF];omega,by dsimp only[aF];omega,.inr (.inr (.inr (.inr (.inr (.inr (.inl ⟨rfl,rfl,rfl,rfl,rfl,rfl,rfl,rfl,rfl,rfl,h0,h2.1,h3,h4,h5,h6⟩))))))⟩
theorem afr {n:Int} {vl:List Int} {l:List Ke} (h0:0<n) (h1:n<4294967296) (h2:NL vl) (h3:¬vl=[]) (h4:bV l) (h5:l.length≤400):cJ {aF 10 with vn:=n,vl:=vl,l:=l}:=
 ⟨by dsimp only[aF];omega,by dsimp only[aF];omega,by dsimp only[aF];omega,by dsimp only[aF];omega,by dsimp only[aF];omega,by dsimp only[aF];omega,by dsimp only[aF];omega,by dsimp only[aF];omega,by dsimp only[aF];omega,by dsimp only[aF];omega,.inr (.inr (.inr (.inr (.inr (.inr (.inr (.inl ⟨rfl,rfl,rfl,rfl,rfl,rfl,rfl,rfl,rfl,rfl,rfl,h0,h2,h3,h4,h5⟩)))))))⟩
theorem afq {p:Int} (h:0≤p∧p<8):cJ {aF 11 with pn:=p,pl:=1}:=
 ⟨by dsimp only[aF];omega,by dsimp only[aF];omega,by dsimp only[aF];omega,by dsimp only[aF];omega,by dsimp only[aF];omega,by dsimp only[aF];omega,by dsimp only[aF];omega,by dsimp only[aF];omega,by dsimp only[aF];omega,by dsimp only[aF];omega,.inr (.inr (.inr (.inr (.inr (.inr (.inr (.inr (.inl ⟨rfl,rfl,rfl,rfl,rfl,rfl,rfl,rfl,rfl,rfl,rfl,rfl,h.1,h.2,rfl⟩))))))))⟩
theorem alp {p:Int} (h:0≤p∧p<8):cJ {aF 12 with pn:=p,pl:=1}:=
 ⟨by dsimp only[aF];omega,by dsimp only[aF];omega,by dsimp only[aF];omega,by dsimp only[aF];omega,by dsimp only[aF];omega,by dsimp only[aF];omega,by dsimp only[aF];omega,by dsimp only[aF];omega,by dsimp only[aF];omega,by dsimp only[aF];omega,.inr (.inr (.inr (.inr (.inr (.inr (.inr (.inr (.inr ⟨rfl,rfl,rfl,rfl,rfl,rfl,rfl,rfl,rfl,rfl,rfl,rfl,h.1,h.2,rfl⟩))))))))⟩
theorem ud {now N B:Int} {s:St} {m:List Int} {l:List Ke} (g:GA s) (hn:0≤now∧now≤1000000000) (hm:NL m) (h0:0<N) (h1:N≤B) (hB:B<4294967295) (hl:bV l) (hll:l.length≤400):SB B (bM now s N m l):=by
 unfold bM
 split
 ·rename_i hmem
  refine⟨⟨fun _=>⟨⟨⟨hm,hmem,by simp[Function.comp_def],hll,Int.natCast_nonneg _,Int.le_refl _,Int.natCast_nonneg _,Int.le_refl _,fun x hx=> ?_⟩,h0,by dsimp only;omega,rfl,iz g.su,iz g.jo,iz g.go,g.met,hl,g.was,g.wasl,Int.le_refl 0,by dsimp only;omega,by dsimp only;omega,by dsimp only;omega,g.ro.1,g.ro.2,Int.le_refl 0,by dsimp only;omega,Int.le_refl 0,by dsimp only;omega,⟨Nat.zero_le _,Nat.zero_le _⟩,fun q=>absurd rfl q⟩,fun q=>absurd rfl q,fun v hv=>by cases hv⟩,fun q=>absurd h0 q⟩,g.ro,h1,by dsimp only;omega,h1⟩
  obtain⟨y,_,rfl⟩:=List.mem_map.1 hx
  exact⟨Int.natCast_nonneg _,Int.le_refl _⟩
 ·refine⟨⟨fun q=>absurd q (by dsimp only;omega),fun _=>⟨by dsimp only;omega,by dsimp only;omega,g.me,g.su,g.jo,g.go,g.met,?_,?_⟩⟩,g.ro,by dsimp only;omega,by dsimp only;omega,h1⟩
  ·dsimp only
   split
   ·rename_i q;exact(g.log q).1
   ·exact g.was
  ·dsimp only
   split
   ·rename_i q;exact(g.log q).2
   ·exact g.wasl
theorem Mu {now B:Int} {s:St} {v:Pq} (h:bz s) (hv:PQOk s v) (hp:¬v.ph=0) (hn:0≤now∧now≤1000000000) (hN:s.N+1≤B) (hB:B<4294967295):RB B (gR now s v):=by
 obtain⟨_,c1,c2,c3,c4⟩:=hv.ch.resolve_left fun e=>hp e.1
 have n0:=h.n0
 have b0:=h.r.ba0
 have hk:bV (s.log.take s.ba.toNat++v.ch.2):=BI (xn h.log) c3
 have hl:(s.log.take s.ba.toNat++v.ch.2).length≤400:=by rw[al2,ami];omega
 have g:GA s:=⟨h.r.nl.2 _ h.r.me,h.su,h.jo,h.go,h.met,h.was,h.wasl,⟨h.ro0,h.ro1⟩,by rw[h.se];omega,fun _=>⟨h.log,h.r.len⟩⟩
 have hm:=afr (n:=s.N+1) (by omega) (by omega) c1 c2 hk hl
 refine⟨ud g hn c1 (by omega) hN hB hk hl,qd (jU h.r.nl.2 hm (by dsimp only[aF];omega) hN) (jU (fun x hx=>c1.2 x (List.mem_filter.1 hx).1) hm (by dsimp only[aF];omega) hN),?_⟩
 have:=ah h.r.nl
 have:=ah c1
 exact Nat.le_trans rI (by omega)
theorem Jk {B:Int} {s:St} {v:Pq} (h:bz s) (hv:PQOk s v) (hN:s.N≤B):OB B (eu s.N s.me s.m v):=by
 have n0:=h.n0
 have n1:=h.n1
 have b0:=h.r.ba0
 have hmem:∀x∈gZ v.ph s.m v.gt,0≤x∧x<8:=fun x hx=>by
  unfold gZ at hx
  split at hx
  ·cases hx
  ·exact h.r.nl.2 x (List.mem_filter.1 hx).1
 unfold eu
 split
 ·rename_i hp
  obtain⟨_,c1,c2,c3,c4⟩:=hv.ch.resolve_left fun e=>by have:=e.1;omega
  exact jU hmem (mo9 n0 (by omega) ⟨hv.b0,hv.b1⟩ c1 c2 c3 (by omega)) hN (by dsimp only[aF];omega)
 ·exact jU hmem (mo5 n0 (by omega) ⟨hv.b0,hv.b1⟩) hN (by dsimp only[aF];omega)
theorem EP {s:St} {b:Int} {c:List Int×List Ke} (h:bz s) (hb:0≤b∧b<18446744073709551616) (h1:NL c.1) (h2:¬c.1=[]) (h3:bV c.2) (h4:(c.2.length:Int)≤400 - s.ba):bz {s with prm:=b,aa:=b,av:=c}:=
 ⟨h.r,h.n0,h.n1,h.se,h.su,h.jo,h.go,h.met,h.log,h.was,h.wasl,h.sa0,h.sa1,h.tr0,h.tr1,h.ro0,h.ro1,hb.1,hb.2,hb.1,hb.2,⟨ah h1,by have:=h.r.ba0;dsimp only;omega⟩,fun _=>⟨h1,h2,h3⟩⟩
theorem JO {s:St} {q:Option Pq} (h:bz s):bz {s with q:=q}:=⟨h.r,h.n0,h.n1,h.se,h.su,h.jo,h.go,h.met,h.log,h.was,h.wasl,h.sa0,h.sa1,h.tr0,h.tr1,h.ro0,h.ro1,h.prm0,h.prm1,h.aa0,h.aa1,h.av,h.avk⟩
theorem PV {s:St} {v:Pq} (h:bz s) (hv:PQOk s v):IN {s with q:=some v}:=⟨JO h,hv.avl,fun w hw=>by cases hw;exact gK hv rfl rfl rfl rfl⟩
theorem Hy {now B:Int} {s:St} {v:Pq} (h:bz s) (hv:PQOk s v) (hn:0≤now∧now≤1000000000) (hN:s.N+1≤B) (hB:B<4294967295):RB B (dw now s v):=by
 have hl:=uA (now:=now) h hv
 have key:RB B (dw now s v)∨True:=.inr trivial
 unfold dw at hl ⊢
 split
 ·rename_i hr
  rw[if_pos hr]at hl
  obtain⟨c1,c2,c3,c4⟩:=Ax h hv
  have h1:PQOk s {v with ph:=1,gt:=[],ch:=dj v.held (bK s.m s.su s.jo s.go) v.qt}:=⟨hv.b0,hv.b1,by dsimp only;omega,by dsimp only;omega,.nil,fun x hx=>(by cases hx),hv.best0,hv.best1,hv.qt,hv.qtk,hv.held,.inr ⟨by dsimp only;omega,c1,c2,c3,c4⟩,hv.avl⟩
  have hw:∀w:St×Pq,bz w.1→PQOk w.1 w.2→w.1.N=s.N→((if w.2.ph=1 then (({w.1 with q:=some w.2}:St),eu w.1.N w.1.me w.1.m w.2) else if w.2.ph=2 then gR now w.1 w.2 else ({w.1 with q:=some w.2},[])).2).length≤16→RB B (if w.2.ph=1 then (({w.1 with q:=some w.2}:St),eu w.1.N w.1.me w.1.m w.2) else if w.2.ph=2 then gR now w.1 w.2 else ({w.1 with q:=some w.2},[])):=fun w w1 w2 w3 w4=>by
   split
   ·exact⟨(PV w1 w2).sb (by dsimp only;omega),Jk w1 w2 (by omega),Nat.le_trans mE (by have:=ah w1.r.nl;omega)⟩
   ·split
    ·exact Mu w1 w2 (by omega) hn (by omega) hB
    ·exact⟨(PV w1 w2).sb (by dsimp only;omega),dG,Nat.zero_le _⟩
  dsimp only at hl ⊢
  split
  ·rename_i hb
   rw[if_pos hb]at hl
   have s1:=EP (b:=v.b) h ⟨Int.le_of_lt hv.b0,hv.b1⟩ c1 c2 c3 c4
   refine hw _ s1 ?_ rfl hl
   have p1:PQOk {s with prm:=v.b,aa:=v.b,av:=dj v.held (bK s.m s.su s.jo s.go) v.qt} {v with ph:=1,gt:=[],ch:=dj v.held (bK s.m s.su s.jo s.go) v.qt}:=⟨h1.b0,h1.b1,h1.ph0,h1.ph1,h1.nd,h1.sub,h1.best0,h1.best1,h1.qt,h1.qtk,h1.held,h1.ch,fun _=>c4⟩
   exact AC (x:=s.me) p1
  ·rename_i hb
   rw[if_neg hb]at hl
   exact hw (s,_) h h1 rfl hl
 ·split
  ·exact Mu h hv (by omega) hn hN hB
  ·exact⟨(PV h hv).sb (by dsimp only;omega),dG,Nat.zero_le _⟩
theorem ahf {now B:Int} {s:St} (h:IN s) (hn:0≤now∧now≤1000000000) (hN:s.N+1≤B) (hB:B<4294967295):RB B (ei now s)∧(ei now s).2.length≤24:=by
 unfold ei
 split
 ·exact⟨⟨h.sb (by omega),dG,Nat.zero_le _⟩,Nat.zero_le _⟩
 ·rename_i hro
  have r0:=h.ok.ro0
  have r1:=h.ok.ro1
  have me:=h.ok.r.nl.2 _ h.ok.r.me
  have i:=h.ok
  have s0:bz {s with ro:=s.ro+1,tr:=now+10}:=⟨i.r,i.n0,i.n1,i.se,i.su,i.jo,i.go,i.met,i.log,i.was,i.wasl,i.sa0,i.sa1,by dsimp only;omega,by dsimp only;omega,by dsimp only;omega,by dsimp only;omega,i.prm0,i.prm1,i.aa0,i.aa1,i.av,i.avk⟩
  have v0:PQOk {s with ro:=s.ro+1,tr:=now+10} ⟨(s.ro+1)*256+s.me,0,[],0,none,[],([],[])⟩:=tb s0.r h.av (by omega)
  have w:=Jj s0 v0 hn
  have k:=Gw now {s with ro:=s.ro+1,tr:=now+10} ⟨(s.ro+1)*256+s.me,0,[],0,none,[],([],[])⟩
  have kN:=k.1
  dsimp only at kN ⊢
  have r:=Hy (now:=now) (B:=B) w.1 w.2 hn (by omega) hB
  have l1:=ah w.1.r.nl
  have l2:=uA (now:=now) w.1 w.2
  have l3:=mE (N:=(gO now {s with ro:=s.ro+1,tr:=now+10} ⟨(s.ro+1)*256+s.me,0,[],0,none,[],([],[])⟩).1.N) (me:=(gO now {s with ro:=s.ro+1,tr:=now+10} ⟨(s.ro+1)*256+s.me,0,[],0,none,[],([],[])⟩).1.me) (m:=(gO now {s with ro:=s.ro+1,tr:=now+10} ⟨(s.ro+1)*256+s.me,0,[],0,none,[],([],[])⟩).1.m) (v:=(gO now {s with ro:=s.ro+1,tr:=now+10} ⟨(s.ro+1)*256+s.me,0,[],0,none,[],([],[])⟩).2)
  refine⟨⟨r.s,qd (Jk w.1 w.2 (by omega)) r.o,?_⟩,?_⟩<;>(rw[al2];omega)
theorem mo8 {N b:Int} {l:List Ke} {h:Int×(List Int×List Ke)×Bool} (h0:0<N) (h1:N<4294967296) (h2:0<b∧b<18446744073709551616) (h3:bV l∧l.length≤400)
  (h4:(h.2.2=true∧0<h.1∧h.1<18446744073709551616∧NL h.2.1.1∧¬h.2.1.1=[]∧bV h.2.1.2∧h.2.1.2.length≤400)∨h=(0,([],[]),false)):cJ (rq N b l h):=by
 unfold rq
 rcases h4 with h4|rfl
 ·exact⟨by dsimp only[aF];omega,by dsimp only[aF];omega,by dsimp only[aF];omega,by dsimp only[aF];omega,by dsimp only[aF];omega,by dsimp only[aF];omega,by dsimp only[aF];omega,by dsimp only[aF];omega,by dsimp only[aF];omega,by dsimp only[aF];omega,.inr (.inr (.inr (.inr (.inr (.inl ⟨rfl,rfl,rfl,rfl,rfl,rfl,rfl,h0,h2.1,h3.1,h3.2,h4.2.2.2.2.2.1,h4.2.2.2.2.2.2,.inl ⟨h4.1,h4.2.1,h4.2.2.2.1,h4.2.2.2.2.1⟩⟩)))))⟩
 ·exact⟨by dsimp only[aF];omega,by dsimp only[aF];omega,by dsimp only[aF];omega,by dsimp only[aF];omega,by dsimp only[aF];omega,by dsimp only[aF];omega,by dsimp only[aF];omega,by dsimp only[aF];omega,by dsimp only[aF];omega,by dsimp only[aF];omega,.inr (.inr (.inr (.inr (.inr (.inl ⟨rfl,rfl,rfl,rfl,rfl,rfl,rfl,h0,h2.1,h3.1,h3.2,qv,Nat.zero_le _,.inr ⟨rfl,rfl,rfl,rfl⟩⟩)))))⟩
theorem Nz {now tr b:Int} {q:Option Pq} {v:Pq} (h:(fj now q tr b).1=some v):q=some v:=by
 unfold fj at h
 cases q with
 |none=>cases h
 |some w=>
  dsimp only at h
  split at h
  ·cases h
  ·exact h
theorem abY {now tr b:Int} {q:Option Pq} (hn:0≤now∧now≤1000000000) (h:0≤tr∧tr≤1000000100):0≤(fj now q tr b).2∧(fj now q tr b).2≤1000000100:=by
 unfold fj
 cases q with
 |none=>exact h
 |some w=>
  dsimp only
  split
  ·exact⟨by dsimp only;omega,by dsimp only;omega⟩
  ·exact h
theorem Lw {now b:Int} {s:St} (h:IN s) (hn:0≤now∧now≤1000000000):IN (iJ now s b):=by
 have i:=h.ok
 have t:=abY (q:=s.q) (b:=b) hn ⟨i.tr0,i.tr1⟩
 exact⟨⟨i.r,i.n0,i.n1,i.se,i.su,i.jo,i.go,i.met,i.log,i.was,i.wasl,i.sa0,i.sa1,t.1,t.2,i.ro0,i.ro1,i.prm0,i.prm1,i.aa0,i.aa1,i.av,i.avk⟩,h.av,fun v hv=>gK (h.q v (Nz hv)) rfl rfl rfl rfl⟩
theorem Rm {now fr B:Int} {s:St} {m:Mx} (h:IN s) (hm:cJ m) (hk:m.k=5∨m.k=9) (hf:0≤fr∧fr<8) (hn:0≤now∧now≤1000000000) (ht:(m.tl.length:Int)≤400 - s.ba) (hN:s.N≤B):RB B (cQ now s fr m):=by
 have i:=h.ok
 have n0:=i.n0
 have n1:=i.n1
 have hb:0<m.b∧m.b<18446744073709551616:=⟨by
  rcases hk with hk|hk
  ·have k:=HN hm hk;unfold Nj at k;omega
  ·obtain⟨_,_,_,_,_,_,_,_,_,_,k,_⟩:=zF hm hk;exact k,by obtain⟨_,_,_,_,_,k,_⟩:=hm;exact k⟩
 have hB0:0≤B:=by omega
 unfold cQ
 split
 ·exact⟨h.sb hN,dG,Nat.zero_le _⟩
 ·split
  ·rename_i q
   exact⟨h.sb hN,nZ hf (mo7 n0 (by omega) ⟨by have:=i.prm0;omega,i.prm1⟩) hN hB0,by show 1≤100;decide⟩
  ·have hs:IN (mK now (if m.k=5 then {s with prm:=m.b} else {s with prm:=m.b,aa:=m.b,av:=(m.ml,m.tl)})):=by
    split
    ·exact⟨sQ i hn ⟨by omega,hb.2⟩,h.av,fun v hv=>gK (h.q v hv) rfl rfl rfl rfl⟩
    ·rename_i k5
     obtain⟨_,_,_,_,_,_,_,_,_,_,_,k1,k2,k3,k4⟩:=zF hm (by omega)
     have s1:=EP (b:=m.b) (c:=(m.ml,m.tl)) i ⟨by omega,hb.2⟩ k1 k2 k3 ht
     refine⟨sQ (b:=m.b) s1 hn ⟨by omega,hb.2⟩,fun _=>ht,fun v hv=> ?_⟩
     have p:=h.q v hv
     exact⟨p.b0,p.b1,p.ph0,p.ph1,p.nd,p.sub,p.best0,p.best1,p.qt,p.qtk,p.held,p.ch,fun _=>ht⟩
   have hNy:(iJ now (mK now (if m.k=5 then {s with prm:=m.b} else {s with prm:=m.b,aa:=m.b,av:=(m.ml,m.tl)})) m.b).N=s.N:=by
    unfold iJ mK
    dsimp only
    split<;>rfl
   refine⟨(Lw hs hn).sb (by rw[hNy];exact hN),?_,by show 1≤100;decide⟩
   dsimp only
   split
   ·have tl:=EL i
    have ba0:=i.r.ba0
    refine nZ hf (mo8 n0 (by omega) hb ⟨tl.1,by omega⟩ ?_) hN hB0
    unfold cH
    split
    ·exact .inr rfl
    ·rename_i ha
     have k:=i.avk ha
     exact .inl ⟨rfl,by have:=i.aa0;dsimp only;omega,i.aa1,k.1,k.2.1,k.2.2,i.av.2⟩
   ·exact nZ hf (mo6 n0 (by omega) hb) hN hB0
theorem aj3 {s:St} {x:Int} (h:IN s) (hx:0≤x∧x<4294967296):IN {s with ro:=x}:=by
 have i:=h.ok
 exact⟨⟨i.r,i.n0,i.n1,i.se,i.su,i.jo,i.go,i.met,i.log,i.was,i.wasl,i.sa0,i.sa1,i.tr0,i.tr1,hx.1,hx.2,i.prm0,i.prm1,i.aa0,i.aa1,i.av,i.avk⟩,h.av,fun v hv=>gK (h.q v hv) rfl rfl rfl rfl⟩
theorem BX {s:St} {log:List Ke} {com:Int} {hs:List (Int×Int)} (h:IN s) (hr:ROk s.m s.me log s.ba com hs) (hk:bV log):IN {s with log:=log,com:=com,hs:=hs}:=by
 have i:=h.ok
 exact⟨⟨hr,i.n0,i.n1,i.se,i.su,i.jo,i.go,i.met,hk,i.was,i.wasl,i.sa0,i.sa1,i.tr0,i.tr1,i.ro0,i.ro1,i.prm0,i.prm1,i.aa0,i.aa1,i.av,i.avk⟩,h.av,fun v hv=>gK (h.q v hv) rfl rfl rfl rfl⟩
theorem og {s:St} {su jo go met:List Int} (h:IN s) (h1:NL su) (h2:NL jo) (h3:NL go) (h4:NL met):IN {s with su:=su,jo:=jo,go:=go,met:=met}:=by
 have i:=h.ok
 exact⟨⟨i.r,i.n0,i.n1,i.se,h1,h2,h3,h4,i.log,i.was,i.wasl,i.sa0,i.sa1,i.tr0,i.tr1,i.ro0,i.ro1,i.prm0,i.prm1,i.aa0,i.aa1,i.av,i.avk⟩,h.av,fun v hv=>gK (h.q v hv) rfl rfl rfl rfl⟩
theorem ZO {now fr B:Int} {s:St} {m:Mx} (h:IN s) (hm:cJ m) (hf:0≤fr∧fr<8) (hn:0≤now∧now≤1000000000) (ht:0<m.b→(m.l.length:Int)≤400 - s.ba∧(m.tl.length:Int)≤400 - s.ba) (hN:s.N+1≤B) (hB:B<4294967295):RB B (gA now s fr m):=by
 have i:=h.ok
 have s0:bz {s with q:=none}:=JO i
 unfold gA
 split
 ·exact⟨(BX h (ahv i.r) i.log).sb (by dsimp only;omega),dG,Nat.zero_le _⟩
 ·split
  ·rename_i hk
   refine Rm h hm hk hf hn ?_ (by omega)
   have hb:0<m.b:=by
    rcases hk with hk|hk
    ·have k:=HN hm hk;unfold Nj at k;omega
    ·obtain⟨_,_,_,_,_,_,_,_,_,_,k,_⟩:=zF hm hk;exact k
   exact(ht hb).2
  ·split
   ·exact⟨h.sb (by omega),dG,Nat.zero_le _⟩
   ·rename_i v hq
    have hv:=h.q v hq
    have hv0:PQOk {s with q:=none} v:=gK hv rfl rfl rfl rfl
    split
    ·exact⟨(Lw h hn).sb (by unfold iJ;dsimp only;omega),dG,Nat.zero_le _⟩
    ·split
     ·exact⟨h.sb (by omega),dG,Nat.zero_le _⟩
     ·split
      ·rename_i h8
       have k:=KT hm h8
       have t:=ht k.2.1
       exact Hy s0 (gK (AB (x:=fr) hv ⟨k.1,t.1⟩ ⟨k.2.2.1,k.2.2.2.1⟩ fun q=>⟨(k.2.2.2.2 q).1,(k.2.2.2.2 q).2.1,(k.2.2.2.2 q).2.2,t.2⟩) rfl rfl rfl rfl) hn hN hB
      ·exact Hy s0 (gK (AC (x:=fr) hv) rfl rfl rfl rfl) hn hN hB
end Go.Proofs.Tryz
