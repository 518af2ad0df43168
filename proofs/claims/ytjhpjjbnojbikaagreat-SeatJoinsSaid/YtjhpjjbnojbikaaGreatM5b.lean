/- Definitions and lemmas of the proof, without a condition of their own. -/
import Derived.Test.YtjhpjjbnojbikaaGreatM5a
import Derived.KernelRfl
import Derived.WalkKit
import Derived.ProofKit
import Derived.OpenShut
import Derived.Below
import Derived.LaidLaws
import Derived.RowKit
set_option linter.unusedSimpArgs false
set_option linter.unusedVariables false
open Bool renaming and_eq_true→akD
open List renaming append_assoc→akt,flatten_cons→akq,length_append→akk,length_cons→akl,length_drop→akJ,length_map→akm,length_nil→akn,length_take→akA,map_cons→akr,mem_of_getElem?→akp
open Option.some renaming inj→akH
namespace Go.Proofs.Tryz
open Go Go.RowKit Go.Sy
open Go.Eng hiding aj
set_option maxRecDepth 1000000
set_option linter.unusedVariables false
set_option maxHeartbeats 4000000
attribute [local irreducible] aq
noncomputable def Vy:NN:=ia Vv ady [(0,30)]
structure zM where
 ps:List Value
 ss:List St
 n:Nat
 h:Value
noncomputable def pf (p:zM):IE:=([.ptr 0 0,hv p.h],(.node .leaf (some (.opq (List Value×List St) (p.ps,p.ss) bK)) .leaf),1)
noncomputable def nH (p:zM) (K:KE):Bool:=K (.tup []) (.node .leaf (some (.opq (List Value×List St) (p.ps,p.ss.set p.n (gB (aI p.ss p.n))) bK)) .leaf) 1
def ny (p:zM):Prop:=p.ps[p.n]?=some p.h∧p.n<p.ss.length∧SI (aI p.ss p.n)
theorem aiF {s:IE} {K:KE} (w:zM) (e:∀t,pf w=t→s=t:=by first|(intro t h;dsimp only[pf]at h;subst h;exact rfl)|fail) (g:ny w:=by first|((try dsimp only[ny,oL,oN,Int.reduceNegSucc]);first|done|exact yg|trivial|assumption|omega)|fail) (h:nH w K=true):Cl s pf ny nH K:=wS w e g h
theorem adB:dk Tryz.prog 17 1 (fg pf (iu ny nH)):=by
 intro us xs E ρ G F M nx w K R hE hs hd hk0 hr
 obtain⟨p,hk1⟩:=bj hk0
 obtain⟨hI,hk2⟩:=ai hk1
 obtain⟨hpre,hk3⟩:=ai (show ac (aq (ny p)) (nH p K)=true from hk2)
 clear hk0 hk1 hk2
 have e1:us=(pf p).1:=congrArg Prod.fst hI
 have e2:M=(pf p).2.1:=congrArg (fun x=>x.2.1) hI
 have e3:nx=(pf p).2.2:=congrArg (fun x=>x.2.2) hI
 subst e1;subst e2;subst e3
 refine lu (Nf) (by intro u hu;cases hu) (by rintro s v s2 h;obtain⟨rfl,_⟩:=h;exact mc) hpre.1 (dP hpre.2.1) hpre.2.2 _ xs E ρ G F _ _ w K R hE hs hd (prB_true.2 ⟨rfl,rfl,rfl,fun v s2 hpo=> ?_⟩) hr
 obtain⟨rfl,e9⟩:=hpo
 have e8:p.ss.set p.n s2=p.ss.set p.n (gB (aI p.ss p.n)):=by rw[e9]
 rw[e8]
 exact hk3
noncomputable def VB:NN:=ia Vy adB [(0,30)]
structure zL where
 ps:List Value
 ss:List St
 n:Nat
 h:Value
noncomputable def pe (p:zL):IE:=([.ptr 0 0,hv p.h],(.node .leaf (some (.opq (List Value×List St) (p.ps,p.ss) bK)) .leaf),1)
noncomputable def nG (p:zL) (K:KE):Bool:=K (.tup []) (.node .leaf (some (.opq (List Value×List St) (p.ps,p.ss.set p.n (fe (aI p.ss p.n))) bK)) .leaf) 1
def nw (p:zL):Prop:=p.ps[p.n]?=some p.h∧p.n<p.ss.length∧SI (aI p.ss p.n)
theorem aiE {s:IE} {K:KE} (w:zL) (e:∀t,pe w=t→s=t:=by first|(intro t h;dsimp only[pe]at h;subst h;exact rfl)|fail) (g:nw w:=by first|((try dsimp only[nw,oL,oN,Int.reduceNegSucc]);first|done|exact yg|trivial|assumption|omega)|fail) (h:nG w K=true):Cl s pe nw nG K:=wS w e g h
theorem adA:dk Tryz.prog 18 1 (fg pe (iu nw nG)):=by
 intro us xs E ρ G F M nx w K R hE hs hd hk0 hr
 obtain⟨p,hk1⟩:=bj hk0
 obtain⟨hI,hk2⟩:=ai hk1
 obtain⟨hpre,hk3⟩:=ai (show ac (aq (nw p)) (nG p K)=true from hk2)
 clear hk0 hk1 hk2
 have e1:us=(pe p).1:=congrArg Prod.fst hI
 have e2:M=(pe p).2.1:=congrArg (fun x=>x.2.1) hI
 have e3:nx=(pe p).2.2:=congrArg (fun x=>x.2.2) hI
 subst e1;subst e2;subst e3
 refine lu (Nd) (by intro u hu;cases hu) (by rintro s v s2 h;obtain⟨rfl,_⟩:=h;exact mc) hpre.1 (dP hpre.2.1) hpre.2.2 _ xs E ρ G F _ _ w K R hE hs hd (prB_true.2 ⟨rfl,rfl,rfl,fun v s2 hpo=> ?_⟩) hr
 obtain⟨rfl,e9⟩:=hpo
 have e8:p.ss.set p.n s2=p.ss.set p.n (fe (aI p.ss p.n)):=by rw[e9]
 rw[e8]
 exact hk3
noncomputable def VA:NN:=ia VB adA [(0,30)]
structure IU where
 ps:List Value
 ss:List St
 n:Nat
 h:Value
 x:Int
noncomputable def zJ (p:IU):IE:=([.ptr 0 0,hv p.h,eu p.x],(.node .leaf (some (.opq (List Value×List St) (p.ps,p.ss) bK)) .leaf),1)
noncomputable def Ew (p:IU) (K:KE):Bool:=K (.tup []) (.node .leaf (some (.opq (List Value×List St) (p.ps,p.ss.set p.n (nY (aI p.ss p.n) p.x)) bK)) .leaf) 1
def Eu (p:IU):Prop:=p.ps[p.n]?=some p.h∧p.n<p.ss.length∧SI (aI p.ss p.n)
theorem adw:dk Tryz.prog 20 1 (fg zJ (iu Eu Ew)):=by
 intro us xs E ρ G F M nx w K R hE hs hd hk0 hr
 obtain⟨p,hk1⟩:=bj hk0
 obtain⟨hI,hk2⟩:=ai hk1
 obtain⟨hpre,hk3⟩:=ai (show ac (aq (Eu p)) (Ew p K)=true from hk2)
 clear hk0 hk1 hk2
 have e1:us=(zJ p).1:=congrArg Prod.fst hI
 have e2:M=(zJ p).2.1:=congrArg (fun x=>x.2.1) hI
 have e3:nx=(zJ p).2.2:=congrArg (fun x=>x.2.2) hI
 subst e1;subst e2;subst e3
 refine lu (MZ (x:=p.x)) (by intro u hu;simp only[List.mem_cons,List.not_mem_nil,or_false]at hu;subst hu;exact cM _ _) (by rintro s v s2 h;obtain⟨rfl,_⟩:=h;exact mc) hpre.1 (dP hpre.2.1) hpre.2.2 _ xs E ρ G F _ _ w K R hE hs hd (prB_true.2 ⟨rfl,rfl,rfl,fun v s2 hpo=> ?_⟩) hr
 obtain⟨rfl,e9⟩:=hpo
 have e8:p.ss.set p.n s2=p.ss.set p.n (nY (aI p.ss p.n) p.x):=by rw[e9]
 rw[e8]
 exact hk3
noncomputable def Vx:NN:=ia VA adw [(0,30)]
structure ru where
 ps:List Value
 ss:List St
 n:Nat
 h:Value
 x:Ke
structure TP where
 z:Int
def Ak (p:ru) (r:TP):Prop:=True
noncomputable def pb (p:ru):IE:=([.ptr 0 0,hv p.h,Aq [] p.x.v p.x.w],(.node .leaf (some (.opq (List Value×List St) (p.ps,p.ss) bK)) .leaf),1)
noncomputable def Kx (p:ru) (K:KE) (r:TP):Bool:=K (.sy (.int 0 r.z)) (.node .leaf (some (.opq (List Value×List St) (p.ps,p.ss.set p.n (mV (aI p.ss p.n) p.x)) bK)) .leaf) 1
noncomputable def nC (p:ru) (K:KE):Bool:=aj fun r=>iP (Ak p r) (Kx p K r) true
def nt (p:ru):Prop:=p.ps[p.n]?=some p.h∧p.n<p.ss.length∧SI (aI p.ss p.n)∧vF p.x
theorem aiC {s:IE} {K:KE} (w:ru) (e:∀t,pb w=t→s=t:=by first|(intro t h;dsimp only[pb]at h;subst h;exact rfl)|fail) (g:nt w:=by first|((try dsimp only[nt,oL,oN,Int.reduceNegSucc]);first|done|exact yg|trivial|assumption|omega)|fail) (h:nC w K=true):Cl s pb nt nC K:=wS w e g h
theorem adx:dk Tryz.prog 24 1 (fg pb (iu nt nC)):=by
 intro us xs E ρ G F M nx w K R hE hs hd hk0 hr
 obtain⟨p,hk1⟩:=bj hk0
 obtain⟨hI,hk2⟩:=ai hk1
 obtain⟨hpre,hk3⟩:=ai (show ac (aq (nt p)) (nC p K)=true from hk2)
 clear hk0 hk1 hk2
 have e1:us=(pb p).1:=congrArg Prod.fst hI
 have e2:M=(pb p).2.1:=congrArg (fun x=>x.2.1) hI
 have e3:nx=(pb p).2.2:=congrArg (fun x=>x.2.2) hI
 subst e1;subst e2;subst e3
 refine lu (Na (x:=p.x)) (by intro u hu;simp only[List.mem_cons,List.not_mem_nil,or_false]at hu;subst hu;exact cM _ _) (by rintro s v s2 h;obtain⟨_,rfl,_⟩:=h;exact cM _ _) hpre.1 (dP hpre.2.1) hpre.2.2 _ xs E ρ G F _ _ w K R hE hs hd (prB_true.2 ⟨rfl,rfl,rfl,fun v s2 hpo=> ?_⟩) hr
 obtain⟨a_0,rfl,hq,e9⟩:=hpo
 have e8:p.ss.set p.n s2=p.ss.set p.n (mV (aI p.ss p.n) p.x):=by rw[e9]
 rw[e8]
 exact dx (p:=Ak p ⟨a_0⟩) hq (aU hk3 ⟨a_0⟩)
noncomputable def EI:NN:=ia Vx adx [(0,30)]
noncomputable def ft_adoptz':NV (fun e0 e1 e2=>aA [e0,e1,e2] [] [] 0x1bbaa49625b0d6603007b33b0edb839dd5706f7ded433dbc2e913e004206945eab7473420fb39817563ac1e71ca6134ecb8404d5b000250c779cf05ef205aefac1b5ad9723816c1760f681c61c2b7069eef7ec920975af67ada5ed8a810552fb393b35ef4ac27c744e3a8b38d500ad37e84267a1a1b33eac32b87c45cdf745213b5bde043d14f1f32174d9bef7ec28adf7e4f899f7ac39a7f60388e251d75fc17ea9013742b6c4857a9efde9466468914b59956e41d39ac29442321f4571bb0f82224ade8066b65d51b4b8fd7a3984afb640ea16f1ce2a57575ca949e936399caf7ace7):=⟨_,by conv=>rhs;reduce⟩
noncomputable abbrev Lr:XF:=ft_adoptz'.1 (eB 68 18 aF) (eC 52 2 am) (eC 68 18 aF)
theorem BQ:aK Tryz.prog 46 Lr=true:=by kernel_rfl
structure RC where
 s:So
 vn:Int
 vh:Value
 vl:List Int
structure Re where
 s:Si
theorem JY:aB Tryz.prog 46 1 (aO (fun p:RC=>([.ptr 0 0,.int 0 (.ofNat 0),ll p.vn p.vh p.vl,.nilS],(da p.s),5)) (fun p=>jY p.s.er∧NL p.vl∧¬p.vl=[]∧0<p.vn∧p.vn<4294967295∧p.s.se<p.vn∧(p.s.be.length:Int)≤p.s.se∧p.s.me∈p.vl) (fun p K=>aj fun r:Re=>iP ((r.s.er none)=bV (0:Int) p.s.er p.vn p.vl []∧(r.s.be.length:Int)≤r.s.se∧0<r.s.N) (K (.tup []) (dm r.s r.s r.s) 9) true)):=nE (nat:=EI) BQ fun p K hpre hK=>by
 dsimp only at hpre hK ⊢
 obtain⟨hs,v1,v2,v3,v4,s1,b1,hm8⟩:=hpre
 have hm:=ah v1
 have mb:=hs.me
 have g9:=ah hs.su
 have g10:=ah hs.go
 have g11:=ah hs.jo
 have g3:=hs.se0
 have g4:=hs.wasl
 dsimp only[So.er]at mb g3 g4 g9 g10 g11
 have nnx:=trivial
 have nnr:=trivial
 have nnq:=trivial
 have ys {g:Prop} (h:g:=by first|(simp[bU];omega;done)|fail):g:=h
 have yd {g:Prop} (h:g:=by first|(exfalso;first|omega|exact absurd hm8 (by assumption))|fail):g:=h
 have yg {g:Prop} (h:g:=by first|(exact mb)|(exact⟨v1,v2,by omega,hm8,by first|omega|(simp only[akn];omega)⟩)|(first|exact⟨by omega,by omega⟩|assumption)|fail):g:=h
 have yp {g:Prop} (h:g:=by first|(first|(exfalso;omega)|(refine⟨II hm8 ?_,by simp only[akk,akl,akn];omega,v3⟩;simp only[Si.er,So.er, *]))|fail):g:=h
 have yz {g:Prop} (h:g:=by first|(simp[bU];omega;done)|fail):g:=h
 have ye {g:Prop} (h:g:=by first|(exact cQ hK (.mk (.mk _ _ _ _ _ _ _ _ _ _ _ _ [] _ [] ..) ..))|fail):g:=h
 have yq {g:Prop} (h:g:=by first|(refine cn (.mk _ _ _ _ _ [] ..) (h:= ?_);exact wo)|(refine wX [(.mk ..)] (by first|exact sd|exact ys) ?_;exact wz)|fail):g:=h
 exact wz
noncomputable def uF:NN:=bW EI JY [(0,4),(1,1),(2,15),(3,8)]
def fT (me:Int) (l:List Int):St:=if me∈l then bV 0 {Jd with me:=me} 1 l [] else {Jd with me:=me}
theorem adK {me:Int} {l:List Int} {s:St} (h:me∈l) (e:s=bV 0 {Jd with me:=me} 1 l []):s=fT me l:=by unfold fT;rw[if_pos h,e]
theorem adJ {me:Int} {l:List Int} (h:¬me∈l):({Jd with me:=me}:St)=fT me l:=by unfold fT;rw[if_neg h]
theorem adm {me:Int} {h1 h2:Value} (mb:0≤me∧me<8):jY (So.er ⟨me,h1,[],[],[],[],false,0,0,0,h2,[],[],0⟩):=⟨Int.le_refl 0,by show(0:Int)<4294967295;omega,mb,⟨List.nodup_nil,fun _ h=>by cases h⟩,⟨List.nodup_nil,fun _ h=>by cases h⟩,⟨List.nodup_nil,fun _ h=>by cases h⟩,⟨List.nodup_nil,fun _ h=>by cases h⟩,(fun _ h=>by cases h),Nat.zero_le _⟩
noncomputable def ft_firstV':NV (aA [] [] [] 0x1dccca1961fdcbaa251c99b7fd897551b7ebb2ca0c23622823b3e874e9d1f5d84008de4ba9c59640b7358d56b1818b1d1051f3057):=⟨_,by conv=>rhs;reduce⟩
noncomputable abbrev Li:XF:=ft_firstV'.1
theorem BM:aK Tryz.prog 43 Li=true:=by kernel_rfl
structure Rt where
 h:Value
 l:List Int
structure QV where
 mh:Value
theorem JO:aB Tryz.prog 43 0 (aO (fun p:Rt=>([.int 1 (.ofNat 0),.sy (.imm p.h 2 Int p.l am)],.leaf,0)) (fun p=>NL p.l∧¬p.l=[]) (fun p K=>aj fun r:QV=>K (.tup [.agg [.int 1 (.ofNat 0),.int 3 (.ofNat 1),.sy (.imm r.mh 2 Int p.l am)],.int 0 (.ofNat 0)]) .leaf 0)):=nE (nat:=uF) BM fun p K hpre hK=>by
 dsimp only at hpre hK ⊢
 obtain⟨v1,v2⟩:=hpre
 have hm:=ah v1
 have nnx:=trivial
 have ys {g:Prop} (h:g:=by first|(first|rfl|exact(hi).1|exact hi.1)|fail):g:=h
 have yg {g:Prop} (h:g:=by first|(refine⟨?_,?_⟩<;>first|assumption|omega)|fail):g:=h
 have yq {g:Prop} (h:g:=by first|(refine wX p.l (by first|exact sd|exact ys) ?_;exact wz)|fail):g:=h
 exact wz
noncomputable def uz:NN:=bW uF JO [(0,1),(1,23)]
noncomputable def ft_newG':NV (fun e0 e1 e2 a0=>aA [e0,e1,e2] [a0] [] 0x119b1986d9788a1151aa1ae88c9671be1db71970effd147f0aeaf6d2c304d8d93b8b361f59ccd84fc49b6111cb28fe8e1282ec44f07a9f60db1b023ffe28908714cb37a2b85de84661823645e924cf974c8e91cdf63fd8a6f1ed742dd54d370784519d91a77792cc14e84e70):=⟨_,by conv=>rhs;reduce⟩
noncomputable abbrev XL:XF:=ft_newG'.1 (eC 52 2 am) (eC 68 18 aF) (eC 45 3 afA) (.can 0 [9,4,7])
theorem HV:aK Tryz.prog 23 XL=true:=by kernel_rfl
structure MC where
 me:Int
 h:Value
 l:List Int
structure agu where
 s:Si
structure Zr where
 s:So
noncomputable def Mt (p:MC):IE:=([.int 1 (.ofNat 0),eu p.me,.sy (.imm p.h 2 Int p.l am)],.leaf,0)
theorem EO:aB Tryz.prog 23 0 (aO (fun p:MC=>([.int 1 (.ofNat 0),eu p.me,.sy (.imm p.h 2 Int p.l am)],.leaf,0)) (fun p=>NL p.l∧¬p.l=[]∧(0≤p.me∧p.me<8)) (fun p K=>ac (aj fun r:agu=>iP ((r.s.er none)=fT p.me p.l∧(r.s.be.length:Int)≤r.s.se∧0<r.s.N) (K (.ptr 0 0) (dm r.s r.s r.s) 9) true) (aj fun r:Zr=>iP (r.s.er=fT p.me p.l∧(r.s.be.length:Int)≤r.s.se) (K (.ptr 0 0) (da r.s) 5) true))):=nE (nat:=uz) HV fun p K hpre hK=>by
 dsimp only at hpre hK ⊢
 obtain⟨hK0,hKr0⟩:=ae hK
 have hK1:=hKr0
 obtain⟨v1,v2,mb⟩:=hpre
 have hm:=ah v1
 have nnx:=trivial
 have nnr:=trivial
 have nnq:=trivial
 have yd {g:Prop} (h:g:=by first|(exfalso;omega)|fail):g:=h
 have yg {g:Prop} (h:g:=by first|(exact⟨v1,v2⟩)|(exact⟨adm mb,v1,v2,by omega,by omega,by omega,by simp,by assumption⟩)|fail):g:=h
 have yp {g:Prop} (h:g:=by first|(exact⟨adK (by first|assumption|exact Classical.not_not.1 (by assumption)) (hi).1,(hi).2⟩)|(exact⟨adJ (by assumption),by simp⟩)|fail):g:=h
 have ye {g:Prop} (h:g:=by first|(exact cQ hK1 (.mk (.mk _ _ [] [] [] [] _ _ _ _ _ [] [] ..) ..))|fail):g:=h
 have yq {g:Prop} (h:g:=by first|(refine cn (.mk (.mk _ _ [] [] [] [] _ _ _ _ _ [] [] ..) ..) (h:= ?_);exact wo)|fail):g:=h
 exact wz
noncomputable def NB:NN:=bW uz EO [(0,1),(1,15),(2,23)]
theorem SeatsH.app {m:dO} {h:Value} {s:St} {c:aH} (hat:SeatAt h s m c):∀{l:List (Value×St)} {D:aH},SeatsH l m D→SeatsH (l++[(h,s)]) m (D++c)
 |[],D,_=>⟨c,D,List.perm_append_comm,hat,trivial⟩
 |x::l,D,⟨c0,D0,h1,h2,h3⟩=>⟨c0,D0++c,(List.Perm.append_right c h1).trans (by rw[akt]),h2,SeatsH.app hat h3⟩
structure vG where
 ps:List Value
 ss:List St
 me:Int
 h:Value
 l:List Int
structure agp where
 z:Value
noncomputable def lS (p:vG):IE:=([.ptr 0 0,.int 1 (.ofNat 0),eu p.me,.sy (.imm p.h 2 Int p.l am)],(.node .leaf (some (.opq (List Value×List St) (p.ps,p.ss) bK)) .leaf),1)
noncomputable def la (p:vG) (K:KE):Bool:=aj fun r:agp=>K (hv r.z) (.node .leaf (some (.opq (List Value×List St) ((p.ps++[r.z]),(p.ss++[fT p.me p.l])) bK)) .leaf) 1
def kX (p:vG):Prop:=NL p.l∧¬p.l=[]∧(0≤p.me∧p.me<8)
theorem afT {s:IE} {K:KE} (w:vG) (e:∀t,lS w=t→s=t:=by first|(intro t h;dsimp only[lS]at h;subst h;exact rfl)|fail) (g:kX w:=by first|((try dsimp only[kX,oL,oN,Int.reduceNegSucc]);first|done|exact yg|trivial|assumption|omega)|fail) (h:la w K=true):Cl s lS kX la K:=wS w e g h
theorem Vm:dk Tryz.prog 23 1 (fg lS (iu kX la)):=by
 intro us xs E ρ G F M nx w K R hE hs hd hk0 hr
 obtain⟨p,hk1⟩:=bj hk0
 obtain⟨hI,hk2⟩:=ai hk1
 obtain⟨hpre,hk3⟩:=ai (show ac (aq (kX p)) (la p K)=true from hk2)
 clear hk0 hk1 hk2
 have e1:us=(lS p).1:=congrArg Prod.fst hI
 have e2:M=(lS p).2.1:=congrArg (fun x=>x.2.1) hI
 have e3:nx=(lS p).2.2:=congrArg (fun x=>x.2.2) hI
 subst e1;subst e2;subst e3
 obtain⟨D,_,c,rfl,hq,hh,hob,hinj⟩:=hs.ex
 obtain⟨m0,hm0,hlen,hS⟩:=hq 0 _ _ _ rfl
 obtain⟨e0,he0,_⟩:=hob 0 _ rfl
 obtain⟨z0,ys,_,d1,rfl⟩:=bf hd
 show Calls Tryz.prog 23 ys.toArray w R
 have hs1:Sim E (fun _=>none) G ((c++D)::F) .leaf 0 w:=by
  refine⟨⟨[],_,[],rfl,fun i α x Φ hi=>(by rw[T.get_leaf]at hi;cases hi),hh.perm ?_,fun i o hi=>(by rw[T.get_leaf]at hi;cases hi),fun i j e f o o' hi=>(by rw[T.get_leaf]at hi;cases hi)⟩,hs.mem,fun _ _=>rfl⟩
  simp only[akq,List.nil_append,akt]
  exact List.Perm.refl _
 have hd1:ax E (fun _=>none) (Mt ⟨p.me,p.h,p.l⟩).1=some ys:=Al (E:=E) (E':=E) rfl (by
  intro u hu
  simp only[Mt,List.mem_cons,List.not_mem_nil,or_false]at hu
  rcases hu with rfl|rfl|rfl
  ·exact cM false [.int 1 (.ofNat 0)]
  ·exact cM true [.sint 1 p.me,.int 2 (.ofNat 1)]
  ·exact cM false [.imm p.h 2 Int p.l am]) d1
 refine EO _ _ E (fun _=>none) G _ _ _ w (fun v M2 n2=>aq (v= .ptr 0 0∧∃s',SForm M2 n2 s'∧s'=fT p.me p.l)) R hE hs1 hd1 ?_ ?_
 ·refine aW ⟨p.me,p.h,p.l⟩ (aM rfl (aM hpre ?_))
  exact dD (aP fun r=>iI (fun hr=>prB_true.2 ⟨rfl,_,.inl ⟨r.s,rfl,rfl,rfl,hr.2.1,hr.2.2⟩,hr.1⟩) (fun _=>rfl)) (aP fun r=>iI (fun hr=>prB_true.2 ⟨rfl,_,.inr (.inr ⟨r.s,rfl,rfl,rfl,hr.2⟩),hr.1⟩) (fun _=>rfl))
 intro v M2 n2 E2 ρ2 w2 z hK hE2 hM hpin hs2 hdv
 obtain⟨rfl,s',hf2,rfl⟩:=prB_true.1 hK
 obtain⟨D2,_,c2,rfl,hq2,hh2,hob2,hinj2⟩:=hs2.ex
 obtain⟨b,cap,hb1,hb2⟩:∃b cap,ρ2 0=some ⟨b,cap⟩∧z= .pointer (some ⟨b,0,none⟩):=by
  simp only[den]at hdv
  cases hq3:ρ2 0 with
  |none=>rw[hq3]at hdv;cases hdv
  |some e=>rw[hq3]at hdv;exact⟨e.b,e.cap,rfl,by cases hdv;rfl⟩
 have hz1:den ⟨E.at_,E2.M⟩ ρ (hv z)=some z:=by rw[hb2];rfl
 refine hr (hv z) (OQ (p.ps++[z]) (p.ss++[fT p.me p.l])) 1 ⟨E.at_,E2.M⟩ ρ w2 z (aU hk3 ⟨z⟩) ⟨hE.1,hE2.2⟩ hM (fun i e _ q=>q) ?_ hz1
 refine⟨⟨D++c2,_,c++D2,rfl,fun i α x Φ hi=> ?_,hh2.perm ?_,fun i o hi=> ?_,fun i j e f o o' hi hj he hf' hb1 hb2 _=> ?_⟩,hs2.mem,hs.fresh⟩
 ·obtain⟨rfl,ho⟩:=OQ_get hi
  cases ho
  refine⟨E2.M,MLe.refl _,by simpa using hlen,?_⟩
  rw[List.zip_append hlen]
  exact SeatsH.app ⟨b,cap,M2,n2,ρ2,E2.at_,hb2,hf2,hb1,hE2.1,hs2.fresh,hob2,hinj2⟩ (hS.mono (hm0.trans hM))
 ·simp only[akq,←akt]
  refine List.Perm.append_right _ ?_
  have e:((c2++D2)++c)++D=c2++((D2++c)++D):=by simp only[akt]
  rw[e]
  exact(List.perm_append_comm.trans (List.Perm.append_right c2 (List.Perm.append_right D List.perm_append_comm))).symm
 ·obtain⟨rfl,rfl⟩:=OQ_get hi
  exact⟨e0,he0,.inr ⟨rfl,trivial⟩⟩
 ·obtain⟨rfl,rfl⟩:=OQ_get hi
  cases hb1
noncomputable def tc:NN:=ia NB Vm [(0,1),(1,15),(2,23)]
theorem wW {R:Type} {po po2:R→Prop} {k:R→Bool} (hK:aj (fun r=>iP (po r) (k r) true)=true) (h:∀r,po2 r→po r):aj (fun r=>iP (po2 r) (k r) true)=true:=aP fun r=>iI (fun q=>dx (h r q) (aU hK r)) fun _=>rfl
def afB (x:Value):List PL:=[.raw x]
def TD (x:Bool):List PL:=[.sbool (x=true)]
structure Fl where
 fr:Int
 to:Int
 m:Mg
def Fl.er (x:Fl):Int×Int×Mx:=(x.fr,x.to,x.m.er)
def rf (x:Fl):List PL:=[.sint 0 x.fr,.sint 0 x.to,.sint 1 x.m.k,.int 1 (.ofNat 0),.int 1 (.ofNat 0),.sint 3 x.m.N,.sint 3 x.m.fr,.sint 3 x.m.c,.int 3 (.ofNat 0),.sint 4 x.m.b,.sint 4 x.m.acc,.int 1 (.ofNat 0),.int 2 (.ofNat 0),.int 3 (.ofNat 0),.int 1 (.ofNat 0),.int 1 (.ofNat 0),.int 1 (.ofNat 0),.int 1 (.ofNat 0),.int 1 (.ofNat 0),.int 1 (.ofNat 0),.int 1 (.ofNat 0),.nilS,.int 1 (.ofNat 0),.str [],.int 1 (.ofNat 0),.sint 3 x.m.vn,.imm x.m.vh 2 Int x.m.vl am,.sint 1 x.m.pn,.sint 2 x.m.pl,.sbool (x.m.has=true),.imm x.m.mh 2 Int x.m.ml am,.imm x.m.h 18 Ke x.m.l aF,.imm x.m.th 18 Ke x.m.tl aF]
structure Fd where
 ps:List Value
 dn:List Bool
 L:List Fl
 a:Nat
 o:Nat
 cp:Nat
 now:Int
 n:Int
 ss:List St
def eF (fly:List (Int×Int×Mx)) (fr:Int) (os:List (Int×Mx)):List (Int×Int×Mx):=fly++(os.take (400 - fly.length)).map fun x=>(fr,x.1,x.2)
def qH (os:List (Int×Mx)):Prop:=∀y∈os,(0≤y.1∧y.1<8)∧cE y.2
theorem ah4 {l:List Ou} {i:Nat} {x:Ou} (h:qH (l.map Ou.er)) (hx:l[i]?=some x):0≤x.to∧x.to<8:=(h _ (List.mem_map_of_mem (akp hx))).1
theorem aaN {F:List Fl} {fr i:Int} {l:List Ou} (hi:0≤i) (h:¬i<(l.length:Int)):F.map Fl.er=eF (F.map Fl.er) fr ((l.drop i.toNat).map Ou.er):=by
 unfold eF
 rw[List.drop_eq_nil_of_le (by omega)];simp
theorem Ub {F:List Fl} {fr:Int} {o:List (Int×Mx)} (h:¬F.length<400):F.map Fl.er=eF (F.map Fl.er) fr o:=by
 unfold eF
 rw[akm,show 400 - F.length=0 by omega];simp
theorem Ua {F F2 R:List Fl} {fr i:Int} {l:List Ou} {x z:Ou} {y:Fl} (hi:0≤i) (hx:l[i.toNat]?=some x) (hz:l[i.toNat]?=some z) (hf:F.length<400) (h2:F2=F++[y]) (hy:y.er=(fr,x.to,z.m.er)) (h:R.map Fl.er=eF (F2.map Fl.er) fr ((l.drop (i+1).toNat).map Ou.er)):R.map Fl.er=eF (F.map Fl.er) fr ((l.drop i.toNat).map Ou.er):=by
 obtain rfl:=akH (hx.symm.trans hz)
 rw[h,h2]
 unfold eF
 have e:l.drop i.toNat=x::l.drop (i+1).toNat:=by
  rw[show(i+1).toNat=i.toNat+1 by omega]
  obtain⟨h1,h2⟩:=List.getElem?_eq_some_iff.1 hx
  rw[←h2]
  exact List.drop_eq_getElem_cons h1
 rw[e]
 simp only[List.map_append,akr,List.map_nil,akk,akm,akl,akn,hy]
 rw[show 400 - F.length=(400 - (F.length+(0+1)))+1 by omega,List.take_succ_cons,akr]
 simp[Ou.er]
noncomputable def bd_l_tell':NV (cS [] [] [] 0x2ba27fedbdce3ec91f18fe35d88dcddc2e2e51d9afe22920c65eb4f1bfcb1c4b21e892c15f9d2a4900634920bfc8ee051dd7cb6e54236ca8cd1f6ccc7611ee9acb37ff9f2f551ce7e382b6bd4a011dd62c126528e3):=⟨_,by conv=>rhs;reduce⟩
noncomputable abbrev yF:XC:=bd_l_tell'.1
noncomputable def ft_tellG':NV (fun b0=>aA [] [] [b0] 0x272e70a5a3ade00267e671):=⟨_,by conv=>rhs;reduce⟩
noncomputable abbrev Po:XF:=ft_tellG'.1 yF
theorem Dt:aK Tryz.prog 49 Po=true:=by kernel_rfl
structure CY where
 q:Nat→Value
 L:List Fl
 a:Nat
 o:Nat
 cp:Nat
 fr:Int
 hh:Value
 l:List Ou
 i:Int
structure QG where
 L:List Fl
 a:Nat
 o:Nat
 cp:Nat
noncomputable def OE:bM:=ce bQ 0 (fun p:CY=>((.cons 6 (.sy (.int 0 p.i)) (.cons 2 (.sy (.imm p.hh 33 Ou p.l cB)) (.cons 1 (.sy (.int 0 p.fr)) (.cons 0 (.ptr 0 0) .nil)))),(.node (.node .leaf (some (.prow 76 33 Fl p.L rf)) .leaf) (some (Tb p.q p.a (p.L.length - p.a) p.o (some p.cp))) .leaf),2)) (fun p=>p.a≤p.L.length∧(p.L.length:Int)≤2000000000+p.i∧p.l.length≤1000000∧0≤p.fr∧p.fr<8∧0≤p.i∧p.i≤(p.l.length:Int)∧qH (p.l.map Ou.er)) (fun p K=>aj fun r:QG=>iP ((r.L.drop r.a).map Fl.er=eF ((p.L.drop p.a).map Fl.er) p.fr ((p.l.drop p.i.toNat).map Ou.er)∧r.a≤r.L.length∧(r.L.length:Int)≤p.L.length+(p.l.length - p.i)) (K 2 .nil (.node (.node .leaf (some (.prow 76 33 Fl r.L rf)) .leaf) (some (Tb p.q r.a (r.L.length - r.a) r.o (some r.cp))) .leaf) 2) true)
theorem Kl:bg Tryz.prog 44 1 OE true 0 yF:=lL (nat:=tc) (fun p:CY=>((p.l.length:Int) - p.i).toNat) cq (fun _ _ _ _=>rfl) fun p K hpre hK=>by
 dsimp only at hpre hK ⊢
 obtain⟨g1,g2,g3,g4,g5,g6,g7,g8⟩:=hpre
 have ys {g:Prop} (h:g:=by first|(have e:=ah4 g8 (by assumption);simp only[mP];omega;done)|(simp[bU];omega;done)|fail):g:=h
 have yp {g:Prop} (h:g:=by first|(first|exact⟨aaN g6 (by assumption),g1,by omega⟩|exact⟨Ub (by rw[akJ];omega),g1,by omega⟩)|fail):g:=h
 have yb {g:Prop} (h:g:=by first|(exact⟨(hi).1,by have e:=(hi).2.1;simp only[akl,akn]at e;omega,g3,g4,g5,by omega,by omega,g8⟩)|fail):g:=h
 have yx {g:Prop} (h:g:=by first|(exact wW hK fun r hz=>by(try dsimp only[oL,oN]at hz);have e:=(hi).2.1;simp only[akl,akn]at e;exact⟨Ua g6 (by assumption) (by assumption) (by rw[akJ];omega) (hi).2.2 rfl hz.1,hz.2.1,by omega⟩)|fail):g:=h
 have yq {g:Prop} (h:g:=by first|(refine wX [(.mk _ _ (.mk ..) ..)] (by first|exact sd|exact ys) ?_;exact wz)|fail):g:=h
 exact wz
structure aag where
 q:Nat→Value
 L:List Fl
 a:Nat
 o:Nat
 cp:Nat
 fr:Int
 hh:Value
 l:List Ou
structure Zj where
 L:List Fl
 a:Nat
 o:Nat
 cp:Nat
theorem NJ:aB Tryz.prog 49 1 (aO (fun p:aag=>([.ptr 0 0,.sy (.int 0 p.fr),.sy (.imm p.hh 33 Ou p.l cB)],(.node (.node .leaf (some (.prow 76 33 Fl p.L rf)) .leaf) (some (Tb p.q p.a (p.L.length - p.a) p.o (some p.cp))) .leaf),2)) (fun p=>p.a≤p.L.length∧p.L.length≤2000000000∧p.l.length≤1000000∧0≤p.fr∧p.fr<8∧qH (p.l.map Ou.er)) (fun p K=>aj fun r:Zj=>iP ((r.L.drop r.a).map Fl.er=eF ((p.L.drop p.a).map Fl.er) p.fr (p.l.map Ou.er)∧r.a≤r.L.length∧(r.L.length:Int)≤p.L.length+p.l.length) (K (.tup []) (.node (.node .leaf (some (.prow 76 33 Fl r.L rf)) .leaf) (some (Tb p.q r.a (r.L.length - r.a) r.o (some r.cp))) .leaf) 2) true)):=nF (nat:=tc) Dt (dC Kl) fun p K hpre hK=>by
 dsimp only at hpre hK ⊢
 obtain⟨g1,g2,g3,g4,g5,g8⟩:=hpre
 have yg {g:Prop} (h:g:=by first|(exact⟨g1,by omega,g3,g4,g5,by omega,by omega,g8⟩)|fail):g:=h
 have yp {g:Prop} (h:g:=by first|(have e:=hi;simpa using e)|fail):g:=h
 exact wz
noncomputable def xK:NN:=iD tc NJ [(0,4),(1,20),(2,23)] [0,1,3,4]
noncomputable def Fm (f:Fd) (k0:Nat) (k1:Nat) (k2:Nat):T:=(.node (.node (.node .leaf (some (.prow 4 1 Bool f.dn TD)) .leaf) (some (.blk false 34 5 [[.sy (.prow 2 k0),.sy (.prow 3 k1),.sy (.psub 4 33 f.a k2 f.o (some f.cp)),.sy (.int 0 f.now),.sy (.int 0 f.n)]])) .leaf) (some (.opq (List Value×List St) (f.ps,f.ss) bK)) (.node (.node .leaf (some (.prow 76 33 Fl f.L rf)) .leaf) (some (.prow 36 1 Value f.ps afB)) .leaf))
noncomputable def dy (f:Fd):T:=Fm f f.ps.length f.dn.length (f.L.length - f.a)
structure Fx where
 ss:List St
 dn:List Bool
 fly:List (Int×Int×Mx)
 now:Int
 n:Int
def Fd.er (f:Fd):Fx:=⟨f.ss,f.dn,(f.L.drop f.a).map Fl.er,f.now,f.n⟩
def eW (f:Fx) (t:Int×Int×Mx):Fx:=if t.2.1<f.ss.length∧f.dn[t.2.1.toNat]?=some false then {f with ss:=f.ss.set t.2.1.toNat (bm f.now (aI f.ss t.2.1.toNat) t.1 t.2.2).1,fly:=eF f.fly t.2.1 (bm f.now (aI f.ss t.2.1.toNat) t.1 t.2.2).2} else f
def ep (f:Fx) (x:Int):Fx:=if f.dn[x.toNat]?=some false then {f with now:=f.now+1,ss:=f.ss.set x.toNat (cg (f.now+1) (aI f.ss x.toNat)).1,fly:=eF f.fly x (cg (f.now+1) (aI f.ss x.toNat)).2} else {f with now:=f.now+1}
structure FW (f:Fd):Prop where
 ps:f.ps.length=f.ss.length
 dn:f.dn.length=f.ss.length
 ss:f.ss.length≤8
 a:f.a≤f.L.length
 L:f.L.length≤1000000000
theorem uk {o:List Ou} {l:List (Int×Mx)} (h:o.map Ou.er=l):o.length=l.length:=by rw[←h,akm]
theorem afO {f:Fd} {t:Fl} {L:List Fl} {a o cp:Nat} {os:List Ou} {b:Bool} (hw:FW f) (h1:t.to<f.ps.length) (h2:f.dn[t.to.toNat]?=some b) (hb:¬b=true) (ho:os.map Ou.er=(bm f.now (aI f.ss t.to.toNat) t.fr t.m.er).2) (ht:(L.drop a).map Fl.er=eF ((f.L.drop f.a).map Fl.er) t.to (os.map Ou.er)):({f with ss:=f.ss.set t.to.toNat (bm f.now (aI f.ss t.to.toNat) t.fr t.m.er).1,L:=L,a:=a,o:=o,cp:=cp}:Fd).er=eW f.er t.er:=by
 have e:b=false:=by simpa using hb
 subst e
 have q:t.er.2.1<f.er.ss.length∧f.er.dn[t.er.2.1.toNat]?=some false:=⟨by have:=hw.ps;show t.to<f.ss.length;omega,h2⟩
 unfold eW
 rw[if_pos q]
 simp only[Fd.er,ht,ho]
 rfl
theorem TG {f:Fd} {t:Fl} (hw:FW f) (h:¬(t.to<f.ps.length∧f.dn[t.to.toNat]?=some false)):f.er=eW f.er t.er:=by
 unfold eW
 rw[if_neg (fun q=>h ⟨by have:=q.1;have:=hw.ps;dsimp only[Fl.er,Fd.er]at*;omega,q.2⟩)]
theorem aaP {f:Fd} {x:Int} {L:List Fl} {a o cp:Nat} {os:List Ou} {b:Bool} (h2:f.dn[x.toNat]?=some b) (hb:¬b=true) (ho:os.map Ou.er=(cg (f.now+1) (aI f.ss x.toNat)).2) (ht:(L.drop a).map Fl.er=eF ((f.L.drop f.a).map Fl.er) x (os.map Ou.er)):({f with now:=f.now+1,ss:=f.ss.set x.toNat (cg (f.now+1) (aI f.ss x.toNat)).1,L:=L,a:=a,o:=o,cp:=cp}:Fd).er=ep f.er x:=by
 have e:b=false:=by simpa using hb
 subst e
 unfold ep
 rw[if_pos (show f.er.dn[x.toNat]?=some false from h2)]
 simp only[Fd.er,ht,ho]
theorem ahW {f:Fd} {x:Int} (h:¬f.dn[x.toNat]?=some false):({f with now:=f.now+1}:Fd).er=ep f.er x:=by
 unfold ep
 rw[if_neg (show¬f.er.dn[x.toNat]?=some false from h)]
 rfl
theorem ah7 {l:List Bool} {i:Nat} {b:Bool} {p:Prop} (h:l[i]?=some b) (hb:¬¬b=true):¬(p∧l[i]?=some false):=fun q=>by
 rw[q.2]at h
 cases h
 simp at hb
theorem adG {l:List Bool} {i:Nat} {b:Bool} (h:l[i]?=some b) (hb:¬¬b=true):¬l[i]?=some false:=fun q=>by
 rw[q]at h
 cases h
 simp at hb
noncomputable def ft_comeG':NV (aA [] [] [] 0x16b32a03b40b5c00c54db6062482a140d863565e2d83213ab621fb158b577a0aa65cc529e82fc0e25074a8e35d04aa7e105d05711ae577277ed435739925518e5c745e06354aff68076b616f6d8809cc59eb65182ca4b6e7f8d590123e0420796):=⟨_,by conv=>rhs;reduce⟩
noncomputable abbrev PQ:XF:=ft_comeG'.1
theorem DR:aK Tryz.prog 29 PQ=true:=by kernel_rfl
structure aaE where
 f:Fd
 t:Fl
structure ZP where
 f:Fd
theorem Oh:dk Tryz.prog 29 2 (aO (fun p:aaE=>([.ptr 0 0,.ptr 1 0,.agg [.sy (.int 0 p.t.fr),.sy (.int 0 p.t.to),.sy (.int 1 p.t.m.k),.int 1 (.ofNat 0),.int 1 (.ofNat 0),.sy (.int 3 p.t.m.N),.sy (.int 3 p.t.m.fr),.sy (.int 3 p.t.m.c),.int 3 (.ofNat 0),.sy (.int 4 p.t.m.b),.sy (.int 4 p.t.m.acc),.int 1 (.ofNat 0),.int 2 (.ofNat 0),.int 3 (.ofNat 0),.int 1 (.ofNat 0),.int 1 (.ofNat 0),.int 1 (.ofNat 0),.int 1 (.ofNat 0),.int 1 (.ofNat 0),.int 1 (.ofNat 0),.int 1 (.ofNat 0),.nilS,.int 1 (.ofNat 0),.str [],.int 1 (.ofNat 0),.sy (.int 3 p.t.m.vn),.sy (.imm p.t.m.vh 2 Int p.t.m.vl am),.sy (.int 1 p.t.m.pn),.sy (.int 2 p.t.m.pl),.sy (.bool (p.t.m.has=true)),.sy (.imm p.t.m.mh 2 Int p.t.m.ml am),.sy (.imm p.t.m.h 18 Ke p.t.m.l aF),.sy (.imm p.t.m.th 18 Ke p.t.m.tl aF)]],(dy p.f),5)) (fun p=>FW p.f∧p.f.L.length≤900000000∧0≤p.t.to∧0≤p.f.now∧p.f.now≤1000000000∧cE p.t.m.er∧p.t.m.vn<4294967295∧0≤p.t.fr∧p.t.fr<8∧(p.t.to<(p.f.ss.length:Int)→SI (aI p.f.ss p.t.to.toNat)∧(aI p.f.ss p.t.to.toNat).N+1<4294967295∧qH (bm p.f.now (aI p.f.ss p.t.to.toNat) p.t.fr p.t.m.er).2∧(bm p.f.now (aI p.f.ss p.t.to.toNat) p.t.fr p.t.m.er).2.length≤1000)) (fun p K=>aj fun r:ZP=>iP (r.f.er=eW p.f.er p.t.er∧r.f.ps=p.f.ps∧r.f.a≤r.f.L.length∧r.f.L.length≤p.f.L.length+1000) (K (.tup []) (dy r.f) 5) true)):=nQE (nat:=xK) DR fun p K hpre hK=>by
 dsimp only at hpre hK ⊢
 obtain⟨hw,hL,ht0,n1,n2,hm,hv,f1,f2,hs0⟩:=hpre
 have w1:=hw.ps
 have w2:=hw.dn
 have w3:=hw.ss
 have nnx:=trivial
 have nnr:=trivial
 have ys {g:Prop} (h:g:=by first|(have e2l:x3=x2:=akH ((by assumption:_=some x3).symm.trans (by assumption:_=some x2));subst e2l;rfl)|fail):g:=h
 have yg {g:Prop} (h:g:=by first|(have hs:=hs0 (by omega);exact⟨by assumption,by omega,hs.1,hs.2.1,by omega,by omega,hm,hv,by omega,by omega⟩)|(have hs:=hs0 (by omega);have he_:_=(bm p.f.now (aI p.f.ss p.t.to.toNat) p.t.fr p.t.m.er).2:=(by assumption:_=(bm _ _ _ _).2);have hl_:=uk he_;exact⟨hw.a,by omega,by omega,by omega,by omega,by rw[he_];exact hs.2.2.1⟩)|fail):g:=h
 have yp {g:Prop} (h:g:=by first|(first|exact⟨TG hw (ah7 (by assumption) (by assumption)),rfl,hw.a,by omega⟩|exact⟨TG hw (fun q=>absurd q.1 (by assumption)),rfl,hw.a,by omega⟩|(have hs:=hs0 (by omega);have he_:_=(bm p.f.now (aI p.f.ss p.t.to.toNat) p.t.fr p.t.m.er).2:=(by assumption:_=(bm _ _ _ _).2);have hl_:=uk he_;have ht_:=(by assumption:_=eF _ _ _∧_);exact⟨afO hw (by assumption) (by assumption) (by assumption) he_ ht_.1,rfl,ht_.2.1,by omega⟩))|fail):g:=h
 have yz {g:Prop} (h:g:=by first|(have e2l:x3=x2:=akH ((by assumption:_=some x3).symm.trans (by assumption:_=some x2));subst e2l;rfl)|fail):g:=h
 have yq {g:Prop} (h:g:=by first|(refine YH (.mk _ _ p.t.to.toNat _ _ _ (.mk ..) ..) (h:= ?_);dsimp only[jA,sO,Br];exact wo)|fail):g:=h
 exact wz
noncomputable def xZ:NN:=ia xK Oh [(0,4),(1,15)]
noncomputable def ft_tickG':NV (aA [] [] [] 0x2da71c77456da219ebdebcc992ea89b6de83ec27655123927ff62373953263e245bdfd2a9357cd3274a):=⟨_,by conv=>rhs;reduce⟩
noncomputable abbrev Pn:XF:=ft_tickG'.1
theorem Ds:aK Tryz.prog 28 Pn=true:=by kernel_rfl
structure aaf where
 f:Fd
 x:Int
structure Zi where
 f:Fd
theorem NI:dk Tryz.prog 28 2 (aO (fun p:aaf=>([.ptr 0 0,.ptr 1 0,.sy (.int 0 p.x)],(dy p.f),5)) (fun p=>FW p.f∧p.f.L.length≤900000000∧0≤p.x∧p.x<(p.f.ss.length:Int)∧0≤p.f.now∧p.f.now<1000000000∧SI (aI p.f.ss p.x.toNat)∧(aI p.f.ss p.x.toNat).N+1<4294967295∧qH (cg (p.f.now+1) (aI p.f.ss p.x.toNat)).2∧(cg (p.f.now+1) (aI p.f.ss p.x.toNat)).2.length≤1000) (fun p K=>aj fun r:Zi=>iP (r.f.er=ep p.f.er p.x∧r.f.ps=p.f.ps∧r.f.a≤r.f.L.length∧r.f.L.length≤p.f.L.length+1000) (K (.tup []) (dy r.f) 5) true)):=nQE (nat:=xZ) Ds fun p K hpre hK=>by
 dsimp only at hpre hK ⊢
 obtain⟨hw,hL,x1,x2,n1,n2,hsA,hsB,hsC,hsD⟩:=hpre
 have w1:=hw.ps
 have w2:=hw.dn
 have w3:=hw.ss
 have nnr:=trivial
 have yg {g:Prop} (h:g:=by first|(exact⟨by assumption,by omega,hsA,hsB,by omega,by omega⟩)|(have he_:=(by assumption:_=(cg _ _).2);have hl_:=uk he_;exact⟨hw.a,by omega,by omega,by omega,by omega,by rw[he_];exact hsC⟩)|fail):g:=h
 have yp {g:Prop} (h:g:=by first|(first|exact⟨ahW (adG (by assumption) (by assumption)),rfl,hw.a,by omega⟩|(have he_:=(by assumption:_=(cg _ _).2);have hl_:=uk he_;have ht_:=(by assumption:_=eF _ _ _∧_);exact⟨aaP (by assumption) (by assumption) he_ ht_.1,rfl,ht_.2.1,by omega⟩))|fail):g:=h
 have yq {g:Prop} (h:g:=by first|(refine YG (.mk _ _ p.x.toNat ..) (h:= ?_);dsimp only[jz,sM,Bo];exact wo)|fail):g:=h
 exact wz
noncomputable def jF:NN:=ia xZ NI [(0,4),(1,20)]
end Go.Proofs.Tryz
namespace Go.Proofs.Tryz
open Go Go.RowKit Go.Sy
open Go.Eng hiding aj
set_option linter.unusedVariables false
structure GA (s:St):Prop where
 me:0≤s.me∧s.me<8
 su:NL s.su
 jo:NL s.jo
 go:NL s.go
 met:NL s.met
 was:bS s.was
 wasl:s.was.length≤400
 ro:0≤s.ro∧s.ro<4294967296
 se:0≤s.se
 log:0<s.N→bS s.log∧s.log.length≤400
structure SB (B:Int) (s:St):Prop where
 si:SI s
 ro:0≤s.ro∧s.ro<4294967296
 N:s.N≤B
 se:0≤s.se∧s.se≤B
structure IN (s:St):Prop where
 ok:bA s
 av:qJ s
 q:∀v,s.q=some v→PQOk s v
def OB (B:Int) (os:List (Int×Mx)):Prop:=∀y∈os,(0≤y.1∧y.1<8)∧cE y.2∧y.2.N≤B∧y.2.vn≤B
structure RB (B:Int) (r:St×List (Int×Mx)):Prop where
 s:SB B r.1
 o:OB B r.2
 l:r.2.length≤100
theorem IN.sb {B:Int} {s:St} (h:IN s) (hN:s.N≤B):SB B s:=by
 have n0:=h.ok.n0
 have se:=h.ok.se
 exact⟨⟨fun _=>⟨h.ok,h.av,h.q⟩,fun q=>absurd n0 q⟩,⟨h.ok.ro0,h.ok.ro1⟩,hN,by omega,by omega⟩
theorem SB.inn {B:Int} {s:St} (h:SB B s) (hN:0<s.N):IN s:=⟨(h.si.1 hN).1,(h.si.1 hN).2.1,(h.si.1 hN).2.2⟩
theorem SB.ga {B:Int} {s:St} (h:SB B s):GA s:=by
 by_cases hN:0<s.N
 ·have i:=(h.inn hN).ok
  exact⟨i.r.nl.2 _ i.r.me,i.su,i.jo,i.go,i.met,i.was,i.wasl,h.ro,h.se.1,fun _=>⟨i.log,i.r.len⟩⟩
 ·have i:=h.si.2 hN
  exact⟨i.me,i.su,i.jo,i.go,i.met,i.was,i.wasl,h.ro,h.se.1,fun q=>absurd q hN⟩
theorem SB.le {B C:Int} {s:St} (h:SB B s) (hc:B≤C):SB C s:=⟨h.si,h.ro,by have:=h.N;omega,h.se.1,by have:=h.se.2;omega⟩
theorem OB.le {B C:Int} {o:List (Int×Mx)} (h:OB B o) (hc:B≤C):OB C o:=fun y hy=>by
 have:=h y hy
 exact⟨this.1,this.2.1,by have:=this.2.2.1;omega,by have:=this.2.2.2;omega⟩
theorem dA {B:Int}:OB B []:=fun y hy=>by cases hy
theorem pK {B:Int} {a b:List (Int×Mx)} (ha:OB B a) (hb:OB B b):OB B (a++b):=fun y hy=>(List.mem_append.1 hy).elim (ha y) (hb y)
theorem nI {B:Int} {x:Int} {m:Mx} (hx:0≤x∧x<8) (hm:cE m) (h1:m.N≤B) (h2:m.vn≤B):OB B [(x,m)]:=fun y hy=>by
 simp only[List.mem_singleton]at hy
 subst hy
 exact⟨hx,hm,h1,h2⟩
theorem jC {B:Int} {me:Int} {m:Mx} {l:List Int} (hl:∀x∈l,0≤x∧x<8) (hm:cE m) (h1:m.N≤B) (h2:m.vn≤B):OB B (cI me m l):=fun y hy=>by
 unfold cI at hy
 obtain⟨x,hx,rfl⟩:=List.mem_map.1 hy
 exact⟨hl x (List.mem_filter.1 hx).1,hm,h1,h2⟩
theorem SQ {B:Int} {o:List (Int×Mx)} (h:OB B o):qH o:=fun y hy=>⟨(h y hy).1,(h y hy).2.1⟩
theorem pW:bS []:=fun _ h=>by cases h
theorem wG {l:List Ke} {n:Nat} (h:bS l):bS (l.take n):=fun x hx=>h x (List.mem_of_mem_take hx)
theorem EW {l:List Ke} {n:Nat} (h:bS l):bS (l.drop n):=fun x hx=>h x (List.mem_of_mem_drop hx)
theorem Bn {a b:List Ke} (ha:bS a) (hb:bS b):bS (a++b):=fun x hx=>(List.mem_append.1 hx).elim (ha x) (hb x)
theorem mo3 {N fr c:Int} {l:List Ke} (h0:0<N) (h1:N<4294967296) (h2:0≤fr) (h3:0≤c∧c≤400) (h4:fr+(l.length:Int)≤400) (h5:bS l):cE {aE 3 with N:=N,fr:=fr,c:=c,l:=l}:=
 ⟨by dsimp only[aE];omega,by dsimp only[aE];omega,by dsimp only[aE];omega,by dsimp only[aE];omega,by dsimp only[aE];omega,by dsimp only[aE];omega,by dsimp only[aE];omega,by dsimp only[aE];omega,by dsimp only[aE];omega,by dsimp only[aE];omega,.inl ⟨rfl,rfl,rfl,rfl,rfl,rfl,rfl,rfl,rfl,rfl,h0,h2,by dsimp only[aE];omega,h3.1,h3.2,h4,h5⟩⟩
theorem mo4 {N fr:Int} (h0:0<N) (h1:N<4294967296) (h2:0≤fr∧fr≤400):cE {aE 4 with N:=N,fr:=fr}:=
 ⟨by dsimp only[aE];omega,by dsimp only[aE];omega,by dsimp only[aE];omega,by dsimp only[aE];omega,by dsimp only[aE];omega,by dsimp only[aE];omega,by dsimp only[aE];omega,by dsimp only[aE];omega,by dsimp only[aE];omega,by dsimp only[aE];omega,.inr (.inl ⟨rfl,rfl,rfl,rfl,rfl,rfl,rfl,rfl,rfl,rfl,rfl,rfl,h0,h2.1,h2.2⟩)⟩
theorem mo5 {N b:Int} (h0:0<N) (h1:N<4294967296) (h2:0<b∧b<18446744073709551616):cE {aE 5 with N:=N,b:=b}:=
 ⟨by dsimp only[aE];omega,by dsimp only[aE];omega,by dsimp only[aE];omega,by dsimp only[aE];omega,by dsimp only[aE];omega,by dsimp only[aE];omega,by dsimp only[aE];omega,by dsimp only[aE];omega,by dsimp only[aE];omega,by dsimp only[aE];omega,.inr (.inr (.inl ⟨rfl,rfl,rfl,rfl,rfl,rfl,rfl,rfl,rfl,rfl,rfl,rfl,h0,h2.1⟩))⟩
theorem mo6 {N b:Int} (h0:0<N) (h1:N<4294967296) (h2:0<b∧b<18446744073709551616):cE {aE 6 with N:=N,b:=b}:=
 ⟨by dsimp only[aE];omega,by dsimp only[aE];omega,by dsimp only[aE];omega,by dsimp only[aE];omega,by dsimp only[aE];omega,by dsimp only[aE];omega,by dsimp only[aE];omega,by dsimp only[aE];omega,by dsimp only[aE];omega,by dsimp only[aE];omega,.inr (.inr (.inr (.inl ⟨rfl,rfl,rfl,rfl,rfl,rfl,rfl,rfl,rfl,rfl,rfl,rfl,h0,h2.1⟩)))⟩
theorem mo7 {N b:Int} (h0:0<N) (h1:N<4294967296) (h2:0<b∧b<18446744073709551616):cE {aE 7 with N:=N,b:=b}:=
 ⟨by dsimp only[aE];omega,by dsimp only[aE];omega,by dsimp only[aE];omega,by dsimp only[aE];omega,by dsimp only[aE];omega,by dsimp only[aE];omega,by dsimp only[aE];omega,by dsimp only[aE];omega,by dsimp only[aE];omega,by dsimp only[aE];omega,.inr (.inr (.inr (.inr (.inl ⟨rfl,rfl,rfl,rfl,rfl,rfl,rfl,rfl,rfl,rfl,rfl,rfl,h0,h2.1⟩))))⟩
theorem mo9 {N b:Int} {ml:List Int} {tl:List Ke} (h0:0<N) (h1:N<4294967296) (h2:0<b∧b<18446744073709551616) (h3:NL ml) (h4:¬ml=[]) (h5:bS tl) (h6:tl.length≤400):cE {aE 9 with N:=N,b:=b,ml:=ml,tl:=tl}:=
 ⟨by dsimp only[aE];omega,by dsimp only[aE];omega,by dsimp only[aE];omega,by dsimp only[aE];omega,by dsimp only[aE];omega,by dsimp only[aE];omega,by dsimp only[aE];omega,by dsimp only[aE];omega,by dsimp only[aE];omega,by dsimp only[aE];omega,.inr (.inr (.inr (.inr (.inr (.inr (.inl ⟨rfl,rfl,rfl,rfl,rfl,rfl,rfl,rfl,rfl,rfl,h0,h2.1,h3,h4,h5,h6⟩))))))⟩
theorem aed {n:Int} {vl:List Int} {l:List Ke} (h0:0<n) (h1:n<4294967296) (h2:NL vl) (h3:¬vl=[]) (h4:bS l) (h5:l.length≤400):cE {aE 10 with vn:=n,vl:=vl,l:=l}:=
 ⟨by dsimp only[aE];omega,by dsimp only[aE];omega,by dsimp only[aE];omega,by dsimp only[aE];omega,by dsimp only[aE];omega,by dsimp only[aE];omega,by dsimp only[aE];omega,by dsimp only[aE];omega,by dsimp only[aE];omega,by dsimp only[aE];omega,.inr (.inr (.inr (.inr (.inr (.inr (.inr (.inl ⟨rfl,rfl,rfl,rfl,rfl,rfl,rfl,rfl,rfl,rfl,rfl,h0,h2,h3,h4,h5⟩)))))))⟩
theorem aec {p:Int} (h:0≤p∧p<8):cE {aE 11 with pn:=p,pl:=1}:=
 ⟨by dsimp only[aE];omega,by dsimp only[aE];omega,by dsimp only[aE];omega,by dsimp only[aE];omega,by dsimp only[aE];omega,by dsimp only[aE];omega,by dsimp only[aE];omega,by dsimp only[aE];omega,by dsimp only[aE];omega,by dsimp only[aE];omega,.inr (.inr (.inr (.inr (.inr (.inr (.inr (.inr (.inl ⟨rfl,rfl,rfl,rfl,rfl,rfl,rfl,rfl,rfl,rfl,rfl,rfl,h.1,h.2,rfl⟩))))))))⟩
theorem ajJ {p:Int} (h:0≤p∧p<8):cE {aE 12 with pn:=p,pl:=1}:=
 ⟨by dsimp only[aE];omega,by dsimp only[aE];omega,by dsimp only[aE];omega,by dsimp only[aE];omega,by dsimp only[aE];omega,by dsimp only[aE];omega,by dsimp only[aE];omega,by dsimp only[aE];omega,by dsimp only[aE];omega,by dsimp only[aE];omega,.inr (.inr (.inr (.inr (.inr (.inr (.inr (.inr (.inr ⟨rfl,rfl,rfl,rfl,rfl,rfl,rfl,rfl,rfl,rfl,rfl,rfl,h.1,h.2,rfl⟩))))))))⟩
theorem tT {now N B:Int} {s:St} {m:List Int} {l:List Ke} (g:GA s) (hn:0≤now∧now≤1000000000) (hm:NL m) (h0:0<N) (h1:N≤B) (hB:B<4294967295) (hl:bS l) (hll:l.length≤400):SB B (bV now s N m l):=by
 unfold bV
 split
 ·rename_i hmem
  refine⟨⟨fun _=>⟨⟨⟨hm,hmem,by simp[Function.comp_def],hll,Int.natCast_nonneg _,Int.le_refl _,Int.natCast_nonneg _,Int.le_refl _,fun x hx=> ?_⟩,h0,by dsimp only;omega,rfl,ib g.su,ib g.jo,ib g.go,g.met,hl,g.was,g.wasl,Int.le_refl 0,by dsimp only;omega,by dsimp only;omega,by dsimp only;omega,g.ro.1,g.ro.2,Int.le_refl 0,by dsimp only;omega,Int.le_refl 0,by dsimp only;omega,⟨Nat.zero_le _,Nat.zero_le _⟩,fun q=>absurd rfl q⟩,fun q=>absurd rfl q,fun v hv=>by cases hv⟩,fun q=>absurd h0 q⟩,g.ro,h1,by dsimp only;omega,h1⟩
  obtain⟨y,_,rfl⟩:=List.mem_map.1 hx
  exact⟨Int.natCast_nonneg _,Int.le_refl _⟩
 ·refine⟨⟨fun q=>absurd q (by dsimp only;omega),fun _=>⟨by dsimp only;omega,by dsimp only;omega,g.me,g.su,g.jo,g.go,g.met,?_,?_⟩⟩,g.ro,by dsimp only;omega,by dsimp only;omega,h1⟩
  ·dsimp only
   split
   ·rename_i q;exact(g.log q).1
   ·exact g.was
  ·dsimp only
   split
   ·rename_i q;exact(g.log q).2
   ·exact g.wasl
theorem LC {now B:Int} {s:St} {v:Pq} (h:bA s) (hv:PQOk s v) (hp:¬v.ph=0) (hn:0≤now∧now≤1000000000) (hN:s.N+1≤B) (hB:B<4294967295):RB B (ja now s v):=by
 obtain⟨_,c1,c2,c3,c4⟩:=hv.ch.resolve_left fun e=>hp e.1
 have n0:=h.n0
 have b0:=h.r.ba0
 have hk:bS (s.log.take s.ba.toNat++v.ch.2):=Bn (wG h.log) c3
 have hl:(s.log.take s.ba.toNat++v.ch.2).length≤400:=by rw[akk,akA];omega
 have g:GA s:=⟨h.r.nl.2 _ h.r.me,h.su,h.jo,h.go,h.met,h.was,h.wasl,⟨h.ro0,h.ro1⟩,by rw[h.se];omega,fun _=>⟨h.log,h.r.len⟩⟩
 have hm:=aed (n:=s.N+1) (by omega) (by omega) c1 c2 hk hl
 refine⟨tT g hn c1 (by omega) hN hB hk hl,pK (jC h.r.nl.2 hm (by dsimp only[aE];omega) hN) (jC (fun x hx=>c1.2 x (List.mem_filter.1 hx).1) hm (by dsimp only[aE];omega) hN),?_⟩
 have:=ah h.r.nl
 have:=ah c1
 exact Nat.le_trans rk (by omega)
theorem Iz {B:Int} {s:St} {v:Pq} (h:bA s) (hv:PQOk s v) (hN:s.N≤B):OB B (eO s.N s.me s.m v):=by
 have n0:=h.n0
 have n1:=h.n1
 have b0:=h.r.ba0
 have hmem:∀x∈gK v.ph s.m v.gt,0≤x∧x<8:=fun x hx=>by
  unfold gK at hx
  split at hx
  ·cases hx
  ·exact h.r.nl.2 x (List.mem_filter.1 hx).1
 unfold eO
 split
 ·rename_i hp
  obtain⟨_,c1,c2,c3,c4⟩:=hv.ch.resolve_left fun e=>by have:=e.1;omega
  exact jC hmem (mo9 n0 (by omega) ⟨hv.b0,hv.b1⟩ c1 c2 c3 (by omega)) hN (by dsimp only[aE];omega)
 ·exact jC hmem (mo5 n0 (by omega) ⟨hv.b0,hv.b1⟩) hN (by dsimp only[aE];omega)
theorem Em {s:St} {b:Int} {c:List Int×List Ke} (h:bA s) (hb:0≤b∧b<18446744073709551616) (h1:NL c.1) (h2:¬c.1=[]) (h3:bS c.2) (h4:(c.2.length:Int)≤400 - s.ba):bA {s with prm:=b,aa:=b,av:=c}:=
 ⟨h.r,h.n0,h.n1,h.se,h.su,h.jo,h.go,h.met,h.log,h.was,h.wasl,h.sa0,h.sa1,h.tr0,h.tr1,h.ro0,h.ro1,hb.1,hb.2,hb.1,hb.2,⟨ah h1,by have:=h.r.ba0;dsimp only;omega⟩,fun _=>⟨h1,h2,h3⟩⟩
theorem Jh {s:St} {q:Option Pq} (h:bA s):bA {s with q:=q}:=⟨h.r,h.n0,h.n1,h.se,h.su,h.jo,h.go,h.met,h.log,h.was,h.wasl,h.sa0,h.sa1,h.tr0,h.tr1,h.ro0,h.ro1,h.prm0,h.prm1,h.aa0,h.aa1,h.av,h.avk⟩
theorem Pc {s:St} {v:Pq} (h:bA s) (hv:PQOk s v):IN {s with q:=some v}:=⟨Jh h,hv.avl,fun w hw=>by cases hw;exact gv hv rfl rfl rfl rfl⟩
theorem GV {now B:Int} {s:St} {v:Pq} (h:bA s) (hv:PQOk s v) (hn:0≤now∧now≤1000000000) (hN:s.N+1≤B) (hB:B<4294967295):RB B (dK now s v):=by
 have hl:=ul (now:=now) h hv
 have key:RB B (dK now s v)∨True:=.inr trivial
 unfold dK at hl ⊢
 split
 ·rename_i hr
  rw[if_pos hr]at hl
  obtain⟨c1,c2,c3,c4⟩:=Af h hv
  have h1:PQOk s {v with ph:=1,gt:=[],ch:=ed v.held (cN s.m s.su s.jo s.go) v.qt}:=⟨hv.b0,hv.b1,by dsimp only;omega,by dsimp only;omega,.nil,fun x hx=>(by cases hx),hv.best0,hv.best1,hv.qt,hv.qtk,hv.held,.inr ⟨by dsimp only;omega,c1,c2,c3,c4⟩,hv.avl⟩
  have hw:∀w:St×Pq,bA w.1→PQOk w.1 w.2→w.1.N=s.N→((if w.2.ph=1 then (({w.1 with q:=some w.2}:St),eO w.1.N w.1.me w.1.m w.2) else if w.2.ph=2 then ja now w.1 w.2 else ({w.1 with q:=some w.2},[])).2).length≤16→RB B (if w.2.ph=1 then (({w.1 with q:=some w.2}:St),eO w.1.N w.1.me w.1.m w.2) else if w.2.ph=2 then ja now w.1 w.2 else ({w.1 with q:=some w.2},[])):=fun w w1 w2 w3 w4=>by
   split
   ·exact⟨(Pc w1 w2).sb (by dsimp only;omega),Iz w1 w2 (by omega),Nat.le_trans lO (by have:=ah w1.r.nl;omega)⟩
   ·split
    ·exact LC w1 w2 (by omega) hn (by omega) hB
    ·exact⟨(Pc w1 w2).sb (by dsimp only;omega),dA,Nat.zero_le _⟩
  dsimp only at hl ⊢
  split
  ·rename_i hb
   rw[if_pos hb]at hl
   have s1:=Em (b:=v.b) h ⟨Int.le_of_lt hv.b0,hv.b1⟩ c1 c2 c3 c4
   refine hw _ s1 ?_ rfl hl
   have p1:PQOk {s with prm:=v.b,aa:=v.b,av:=ed v.held (cN s.m s.su s.jo s.go) v.qt} {v with ph:=1,gt:=[],ch:=ed v.held (cN s.m s.su s.jo s.go) v.qt}:=⟨h1.b0,h1.b1,h1.ph0,h1.ph1,h1.nd,h1.sub,h1.best0,h1.best1,h1.qt,h1.qtk,h1.held,h1.ch,fun _=>c4⟩
   exact Aj (x:=s.me) p1
  ·rename_i hb
   rw[if_neg hb]at hl
   exact hw (s,_) h h1 rfl hl
 ·split
  ·exact LC h hv (by omega) hn hN hB
  ·exact⟨(Pc h hv).sb (by dsimp only;omega),dA,Nat.zero_le _⟩
theorem afZ {now B:Int} {s:St} (h:IN s) (hn:0≤now∧now≤1000000000) (hN:s.N+1≤B) (hB:B<4294967295):RB B (ey now s)∧(ey now s).2.length≤24:=by
 unfold ey
 split
 ·exact⟨⟨h.sb (by omega),dA,Nat.zero_le _⟩,Nat.zero_le _⟩
 ·rename_i hro
  have r0:=h.ok.ro0
  have r1:=h.ok.ro1
  have me:=h.ok.r.nl.2 _ h.ok.r.me
  have i:=h.ok
  have s0:bA {s with ro:=s.ro+1,tr:=now+10}:=⟨i.r,i.n0,i.n1,i.se,i.su,i.jo,i.go,i.met,i.log,i.was,i.wasl,i.sa0,i.sa1,by dsimp only;omega,by dsimp only;omega,by dsimp only;omega,by dsimp only;omega,i.prm0,i.prm1,i.aa0,i.aa1,i.av,i.avk⟩
  have v0:PQOk {s with ro:=s.ro+1,tr:=now+10} ⟨(s.ro+1)*256+s.me,0,[],0,none,[],([],[])⟩:=sL s0.r h.av (by omega)
  have w:=Iy s0 v0 hn
  have k:=FS now {s with ro:=s.ro+1,tr:=now+10} ⟨(s.ro+1)*256+s.me,0,[],0,none,[],([],[])⟩
  have kN:=k.1
  dsimp only at kN ⊢
  have r:=GV (now:=now) (B:=B) w.1 w.2 hn (by omega) hB
  have l1:=ah w.1.r.nl
  have l2:=ul (now:=now) w.1 w.2
  have l3:=lO (N:=(gI now {s with ro:=s.ro+1,tr:=now+10} ⟨(s.ro+1)*256+s.me,0,[],0,none,[],([],[])⟩).1.N) (me:=(gI now {s with ro:=s.ro+1,tr:=now+10} ⟨(s.ro+1)*256+s.me,0,[],0,none,[],([],[])⟩).1.me) (m:=(gI now {s with ro:=s.ro+1,tr:=now+10} ⟨(s.ro+1)*256+s.me,0,[],0,none,[],([],[])⟩).1.m) (v:=(gI now {s with ro:=s.ro+1,tr:=now+10} ⟨(s.ro+1)*256+s.me,0,[],0,none,[],([],[])⟩).2)
  refine⟨⟨r.s,pK (Iz w.1 w.2 (by omega)) r.o,?_⟩,?_⟩<;>(rw[akk];omega)
theorem mo8 {N b:Int} {l:List Ke} {h:Int×(List Int×List Ke)×Bool} (h0:0<N) (h1:N<4294967296) (h2:0<b∧b<18446744073709551616) (h3:bS l∧l.length≤400)
  (h4:(h.2.2=true∧0<h.1∧h.1<18446744073709551616∧NL h.2.1.1∧¬h.2.1.1=[]∧bS h.2.1.2∧h.2.1.2.length≤400)∨h=(0,([],[]),false)):cE (qS N b l h):=by
 unfold qS
 rcases h4 with h4|rfl
 ·exact⟨by dsimp only[aE];omega,by dsimp only[aE];omega,by dsimp only[aE];omega,by dsimp only[aE];omega,by dsimp only[aE];omega,by dsimp only[aE];omega,by dsimp only[aE];omega,by dsimp only[aE];omega,by dsimp only[aE];omega,by dsimp only[aE];omega,.inr (.inr (.inr (.inr (.inr (.inl ⟨rfl,rfl,rfl,rfl,rfl,rfl,rfl,h0,h2.1,h3.1,h3.2,h4.2.2.2.2.2.1,h4.2.2.2.2.2.2,.inl ⟨h4.1,h4.2.1,h4.2.2.2.1,h4.2.2.2.2.1⟩⟩)))))⟩
 ·exact⟨by dsimp only[aE];omega,by dsimp only[aE];omega,by dsimp only[aE];omega,by dsimp only[aE];omega,by dsimp only[aE];omega,by dsimp only[aE];omega,by dsimp only[aE];omega,by dsimp only[aE];omega,by dsimp only[aE];omega,by dsimp only[aE];omega,.inr (.inr (.inr (.inr (.inr (.inl ⟨rfl,rfl,rfl,rfl,rfl,rfl,rfl,h0,h2.1,h3.1,h3.2,pW,Nat.zero_le _,.inr ⟨rfl,rfl,rfl,rfl⟩⟩)))))⟩
theorem MM {now tr b:Int} {q:Option Pq} {v:Pq} (h:(fk now q tr b).1=some v):q=some v:=by
 unfold fk at h
 cases q with
 |none=>cases h
 |some w=>
  dsimp only at h
  split at h
  ·cases h
  ·exact h
theorem aaJ {now tr b:Int} {q:Option Pq} (hn:0≤now∧now≤1000000000) (h:0≤tr∧tr≤1000000100):0≤(fk now q tr b).2∧(fk now q tr b).2≤1000000100:=by
 unfold fk
 cases q with
 |none=>exact h
 |some w=>
  dsimp only
  split
  ·exact⟨by dsimp only;omega,by dsimp only;omega⟩
  ·exact h
theorem KK {now b:Int} {s:St} (h:IN s) (hn:0≤now∧now≤1000000000):IN (mU now s b):=by
 have i:=h.ok
 have t:=aaJ (q:=s.q) (b:=b) hn ⟨i.tr0,i.tr1⟩
 exact⟨⟨i.r,i.n0,i.n1,i.se,i.su,i.jo,i.go,i.met,i.log,i.was,i.wasl,i.sa0,i.sa1,t.1,t.2,i.ro0,i.ro1,i.prm0,i.prm1,i.aa0,i.aa1,i.av,i.avk⟩,h.av,fun v hv=>gv (h.q v (MM hv)) rfl rfl rfl rfl⟩
theorem Qt {now fr B:Int} {s:St} {m:Mx} (h:IN s) (hm:cE m) (hk:m.k=5∨m.k=9) (hf:0≤fr∧fr<8) (hn:0≤now∧now≤1000000000) (ht:(m.tl.length:Int)≤400 - s.ba) (hN:s.N≤B):RB B (dt now s fr m):=by
 have i:=h.ok
 have n0:=i.n0
 have n1:=i.n1
 have hb:0<m.b∧m.b<18446744073709551616:=⟨by
  rcases hk with hk|hk
  ·have k:=Hk hm hk;unfold Ms at k;omega
  ·obtain⟨_,_,_,_,_,_,_,_,_,_,k,_⟩:=zq hm hk;exact k,by obtain⟨_,_,_,_,_,k,_⟩:=hm;exact k⟩
 have hB0:0≤B:=by omega
 unfold dt
 split
 ·exact⟨h.sb hN,dA,Nat.zero_le _⟩
 ·split
  ·rename_i q
   exact⟨h.sb hN,nI hf (mo7 n0 (by omega) ⟨by have:=i.prm0;omega,i.prm1⟩) hN hB0,by show 1≤100;decide⟩
  ·have hs:IN (qP now (if m.k=5 then {s with prm:=m.b} else {s with prm:=m.b,aa:=m.b,av:=(m.ml,m.tl)})):=by
    split
    ·exact⟨sB i hn ⟨by omega,hb.2⟩,h.av,fun v hv=>gv (h.q v hv) rfl rfl rfl rfl⟩
    ·rename_i k5
     obtain⟨_,_,_,_,_,_,_,_,_,_,_,k1,k2,k3,k4⟩:=zq hm (by omega)
     have s1:=Em (b:=m.b) (c:=(m.ml,m.tl)) i ⟨by omega,hb.2⟩ k1 k2 k3 ht
     refine⟨sB (b:=m.b) s1 hn ⟨by omega,hb.2⟩,fun _=>ht,fun v hv=> ?_⟩
     have p:=h.q v hv
     exact⟨p.b0,p.b1,p.ph0,p.ph1,p.nd,p.sub,p.best0,p.best1,p.qt,p.qtk,p.held,p.ch,fun _=>ht⟩
   have hNy:(mU now (qP now (if m.k=5 then {s with prm:=m.b} else {s with prm:=m.b,aa:=m.b,av:=(m.ml,m.tl)})) m.b).N=s.N:=by
    unfold mU qP
    dsimp only
    split<;>rfl
   refine⟨(KK hs hn).sb (by rw[hNy];exact hN),?_,by show 1≤100;decide⟩
   dsimp only
   split
   ·have tl:=Ei i
    have ba0:=i.r.ba0
    refine nI hf (mo8 n0 (by omega) hb ⟨tl.1,by omega⟩ ?_) hN hB0
    unfold mG
    split
    ·exact .inr rfl
    ·rename_i ha
     have k:=i.avk ha
     exact .inl ⟨rfl,by have:=i.aa0;dsimp only;omega,i.aa1,k.1,k.2.1,k.2.2,i.av.2⟩
   ·exact nI hf (mo6 n0 (by omega) hb) hN hB0
theorem aiw {s:St} {x:Int} (h:IN s) (hx:0≤x∧x<4294967296):IN {s with ro:=x}:=by
 have i:=h.ok
 exact⟨⟨i.r,i.n0,i.n1,i.se,i.su,i.jo,i.go,i.met,i.log,i.was,i.wasl,i.sa0,i.sa1,i.tr0,i.tr1,hx.1,hx.2,i.prm0,i.prm1,i.aa0,i.aa1,i.av,i.avk⟩,h.av,fun v hv=>gv (h.q v hv) rfl rfl rfl rfl⟩
theorem BC {s:St} {log:List Ke} {com:Int} {hs:List (Int×Int)} (h:IN s) (hr:ROk s.m s.me log s.ba com hs) (hk:bS log):IN {s with log:=log,com:=com,hs:=hs}:=by
 have i:=h.ok
 exact⟨⟨hr,i.n0,i.n1,i.se,i.su,i.jo,i.go,i.met,hk,i.was,i.wasl,i.sa0,i.sa1,i.tr0,i.tr1,i.ro0,i.ro1,i.prm0,i.prm1,i.aa0,i.aa1,i.av,i.avk⟩,h.av,fun v hv=>gv (h.q v hv) rfl rfl rfl rfl⟩
theorem qd {s:St} {su jo go met:List Int} (h:IN s) (h1:NL su) (h2:NL jo) (h3:NL go) (h4:NL met):IN {s with su:=su,jo:=jo,go:=go,met:=met}:=by
 have i:=h.ok
 exact⟨⟨i.r,i.n0,i.n1,i.se,h1,h2,h3,h4,i.log,i.was,i.wasl,i.sa0,i.sa1,i.tr0,i.tr1,i.ro0,i.ro1,i.prm0,i.prm1,i.aa0,i.aa1,i.av,i.avk⟩,h.av,fun v hv=>gv (h.q v hv) rfl rfl rfl rfl⟩
theorem Yv {now fr B:Int} {s:St} {m:Mx} (h:IN s) (hm:cE m) (hf:0≤fr∧fr<8) (hn:0≤now∧now≤1000000000) (ht:0<m.b→(m.l.length:Int)≤400 - s.ba∧(m.tl.length:Int)≤400 - s.ba) (hN:s.N+1≤B) (hB:B<4294967295):RB B (gU now s fr m):=by
 have i:=h.ok
 have s0:bA {s with q:=none}:=Jh i
 unfold gU
 split
 ·exact⟨(BC h (age i.r) i.log).sb (by dsimp only;omega),dA,Nat.zero_le _⟩
 ·split
  ·rename_i hk
   refine Qt h hm hk hf hn ?_ (by omega)
   have hb:0<m.b:=by
    rcases hk with hk|hk
    ·have k:=Hk hm hk;unfold Ms at k;omega
    ·obtain⟨_,_,_,_,_,_,_,_,_,_,k,_⟩:=zq hm hk;exact k
   exact(ht hb).2
  ·split
   ·exact⟨h.sb (by omega),dA,Nat.zero_le _⟩
   ·rename_i v hq
    have hv:=h.q v hq
    have hv0:PQOk {s with q:=none} v:=gv hv rfl rfl rfl rfl
    split
    ·exact⟨(KK h hn).sb (by unfold mU;dsimp only;omega),dA,Nat.zero_le _⟩
    ·split
     ·exact⟨h.sb (by omega),dA,Nat.zero_le _⟩
     ·split
      ·rename_i h8
       have k:=Kg hm h8
       have t:=ht k.2.1
       exact GV s0 (gv (Ai (x:=fr) hv ⟨k.1,t.1⟩ ⟨k.2.2.1,k.2.2.2.1⟩ fun q=>⟨(k.2.2.2.2 q).1,(k.2.2.2.2 q).2.1,(k.2.2.2.2 q).2.2,t.2⟩) rfl rfl rfl rfl) hn hN hB
      ·exact GV s0 (gv (Aj (x:=fr) hv) rfl rfl rfl rfl) hn hN hB
theorem afF {now fr B:Int} {s:St} {m:Mx} (h:IN s) (hm:cE m) (hf:0≤fr∧fr<8) (hn:0≤now∧now≤1000000000) (hN:s.N+1≤B) (hB:B<4294967295):RB B (fZ now s fr m):=by
 unfold fZ
 split
 ·exact⟨h.sb (by omega),dA,Nat.zero_le _⟩
 ·rename_i hg
  have r0:=h.ok.ro0
  have r1:=h.ok.ro1
  exact Yv (aiw h (by omega)) hm hf hn (fun hb=>⟨by dsimp only;omega,by dsimp only;omega⟩) hN hB
theorem EF {m l:List Int} {p:Int} (hm:NL m) (hl:NL l):NL (eM m l p):=by
 unfold eM
 split
 ·rename_i q
  have:=wb hl (hm.2 p q.1)
  unfold dU at this
  rwa[if_neg q.2]at this
 ·exact hl
theorem acR {m:List Int} {me ba com fr c:Int} {log l:List Ke} {sh:Bool} (h:bS log) (hl:bS l):bS (gE m me log ba com sh fr l c).1:=by
 unfold gE
 split
 ·split
  ·exact Bn h (EW hl)
  ·exact h
 ·exact h
theorem KH {s:St} (h:bA s):cE (BB s):=aed h.n0 (by have:=h.n1;omega) h.r.nl (List.ne_nil_of_mem h.r.me) (wG h.log) (by have:=h.r.len;rw[akA];omega)
theorem Xy {now fr B:Int} {s:St} {m:Mx} (h:SB B s) (hm:cE m) (h1:m.N≤B) (h2:m.vn≤B) (hf:0≤fr∧fr<8) (hn:0≤now∧now≤1000000000) (hB:B+1<4294967295):RB (B+1) (bm now s fr m):=by
 have g:=h.ga
 have hN:=h.N
 have hse:=h.se
 have one:∀{x:Int×Mx},[x].length≤100:=fun{x}=>by show 1≤100;decide
 have hle:∀{me:Int} {x:Mx} {p:Int},(cI me x [p]).length≤100:=fun{me x p}=>Nat.le_trans kC (by show 1≤100;decide)
 unfold bm
 split
 ·rename_i hk
  have k:=AW hm hk
  obtain⟨_,_,_,_,_,_,_,_,_,_,k1,k2,k3,k4,k5⟩:=k
  refine⟨?_,dA,Nat.zero_le _⟩
  dsimp only
  split
  ·exact tT g hn k2 (by omega) (by omega) (by omega) k4 k5
  ·exact h.le (by omega)
 ·split
  ·rename_i hk
   have k:=zr hm hk.1
   obtain⟨_,_,_,_,_,_,_,_,_,k0,k1,k2,k3,k4,k5,k6⟩:=k
   unfold tR
   split
   ·rename_i hN0
    have i:=h.inn hN0
    have n1:=i.ok.n1
    unfold eU
    dsimp only
    split
    ·split
     ·exact⟨(i.sb (by omega)),dA,Nat.zero_le _⟩
     ·have r:=ir (sh:=s.sh) (fr:=m.fr) (l:=m.l) (c:=m.c) i.ok.r
      have hl:=r.len
      exact⟨(BC (hs:=s.hs) i r (acR i.ok.log k6)).sb (by dsimp only;omega),nI hf (mo4 hN0 (by omega) (by omega)) (by dsimp only[aE];omega) (by dsimp only[aE];omega),one⟩
    ·split
     ·exact⟨(i.sb (by omega)),dA,Nat.zero_le _⟩
     ·exact⟨(i.sb (by omega)),nI hf (mo4 (fr:=0) hN0 (by omega) (by omega)) (by dsimp only[aE];omega) (by dsimp only[aE];omega),one⟩
   ·unfold oZ
    split
    ·exact⟨h.le (by omega),dA,Nat.zero_le _⟩
    ·exact⟨h.le (by omega),nI hf (aec g.me) (by dsimp only[aE];omega) (by dsimp only[aE];omega),one⟩
  ·split
   ·rename_i q
    exact⟨h.le (by omega),jC (fun x hx=>by simp only[List.mem_singleton]at hx;subst hx;exact hf) (KH (h.inn q.1).ok) (by dsimp only[BB,aE];omega) (by dsimp only[BB,aE];omega),hle⟩
   ·split
    ·rename_i q
     obtain⟨_,_,_,_,_,_,_,_,_,_,_,p1,p2,_⟩:=uL hm q.2
     have i:=h.inn q.1
     unfold dw
     split
     ·exact⟨(qd (su:=s.su) (go:=s.go) (met:=s.met) (jo:=s.jo) i i.ok.su i.ok.jo i.ok.go i.ok.met).sb (by dsimp only;omega),jC (fun x hx=>by simp only[List.mem_singleton]at hx;subst hx;exact⟨p1,p2⟩) (KH i.ok) (by dsimp only[aE];omega) (by dsimp only[aE];omega),hle⟩
     ·exact⟨(qd (su:=s.su) (go:=s.go) (met:=s.met) i i.ok.su (wb i.ok.jo ⟨p1,p2⟩) i.ok.go i.ok.met).sb (by dsimp only;omega),dA,Nat.zero_le _⟩
    ·split
     ·refine⟨?_,dA,Nat.zero_le _⟩
      dsimp only
      split
      ·rename_i q
       have i:=h.inn q.1
       exact(qd (su:=s.su) (jo:=s.jo) (met:=s.met) i i.ok.su i.ok.jo (EF i.ok.r.nl i.ok.go) i.ok.met).sb (by dsimp only;omega)
      ·exact h.le (by omega)
     ·rename_i q
      have hN0:0<s.N:=Classical.not_not.1 fun e=>q (.inl e)
      exact afF (h.inn hN0) hm hf hn (by omega) hB
theorem aaO {B:Int} {s:St} (h:bA s) (hN:s.N≤B):OB B (rJ s)∧(rJ s).length≤16:=by
 have n0:=h.n0
 have n1:=h.n1
 have me:=h.r.nl.2 _ h.r.me
 have l8:=ah h.r.nl
 have ha:OB B (lW s.me s.m s.go)∧(lW s.me s.m s.go).length≤8:=by
  unfold lW
  split
  ·exact⟨jC h.r.nl.2 (ajJ me) (by dsimp only[aE];omega) (by dsimp only[aE];omega),Nat.le_trans kC l8⟩
  ·exact⟨dA,Nat.zero_le _⟩
 have hb:OB B (rK s.N s.m s.me s.log s.com s.hs)∧(rK s.N s.m s.me s.log s.com s.hs).length≤8:=by
  unfold rK
  split
  ·refine⟨fun y hy=> ?_,by rw[akm,akJ];omega⟩
   obtain⟨p,hp,rfl⟩:=List.mem_map.1 hy
   have hb:=fW h.r p
   have hl:=h.r.len
   have c0:=h.r.com0
   have c1:=h.r.com1
   unfold iT kU
   refine⟨h.r.nl.2 p (List.mem_of_mem_drop hp),?_,by dsimp only[aE];omega,by dsimp only[aE];omega⟩
   split
   ·exact mo3 n0 (by omega) hb.1 (by omega) (by dsimp only;rw[akA,akJ];omega) (wG (EW h.log))
   ·exact mo3 n0 (by omega) (Int.le_refl 0) (by omega) (by show(0:Int)+0≤400;decide) pW
  ·exact⟨dA,Nat.zero_le _⟩
 unfold rJ
 exact⟨pK ha.1 hb.1,by rw[akk];omega⟩
theorem Ef {now B:Int} {s:St} (h:SB B s) (hn:0≤now∧now≤1000000000) (hB:B+1<4294967295):RB (B+1) (cg now s):=by
 have g:=h.ga
 have hN:=h.N
 have hse:=h.se
 unfold cg
 split
 ·refine⟨h.le (by omega),?_,?_⟩
  ·dsimp only
   split
   ·exact jC g.met.2 (aec g.me) (by dsimp only[aE];omega) (by dsimp only[aE];omega)
   ·exact dA
  ·dsimp only
   split
   ·exact Nat.le_trans kC (by have:=ah g.met;omega)
   ·exact Nat.zero_le _
 ·rename_i q
  have hN0:0<s.N:=Classical.not_not.1 q
  have i:=h.inn hN0
  have t:=aaO i.ok hN
  split
  ·rename_i v hv
   refine⟨h.le (by omega),pK (t.1.le (by omega)) ((Iz i.ok (i.q v hv) hN).le (by omega)),?_⟩
   have:=ah i.ok.r.nl
   have:=lO (N:=s.N) (me:=s.me) (m:=s.m) (v:=v)
   rw[akk];omega
  ·split
   ·obtain⟨r,bl⟩:=afZ (B:=B+1) i hn (by omega) hB
    exact⟨r.s,pK (t.1.le (by omega)) r.o,by rw[akk];omega⟩
   ·exact⟨h.le (by omega),t.1.le (by omega),by have:=t.2;dsimp only;omega⟩
theorem ie {B:Int} {s:St} (h:SB B s):SB B (gB s):=by
 unfold gB
 split
 ·exact h
 ·rename_i q
  have g:=h.ga
  exact⟨⟨fun e=>absurd e q,fun _=>⟨(h.si.2 q).se0,(h.si.2 q).se1,g.me,g.su,g.jo,g.go,g.met,g.was,g.wasl⟩⟩,h.ro,h.N,h.se⟩
theorem oC {B:Int} {s:St} (h:SB B s):SB B (fe s):=by
 unfold fe
 split
 ·rename_i q
  have i:=h.inn q
  exact(qd (su:=s.su) (jo:=s.jo) (met:=s.met) i i.ok.su i.ok.jo (EF i.ok.r.nl i.ok.go) i.ok.met).sb h.N
 ·exact h
theorem acT {B:Int} {s:St} {x:Ke} (h:SB B s) (hx:vF x):SB B (mV s x):=by
 unfold mV
 split
 ·rename_i q
  have i:=h.inn q
  refine(BC i (agc x i.ok.r) ?_).sb h.N
  unfold gX
  split
  ·exact Bn i.ok.log fun y hy=>by simp only[List.mem_singleton]at hy;subst hy;exact hx
  ·exact i.ok.log
 ·exact h
theorem WO {B:Int} {s:St} {l:List Int} (h:SB B s) (hl:NL l):SB B (jt s l):=by
 by_cases q:0<s.N
 ·have i:=h.inn q
  exact(qd (su:=s.su) (go:=s.go) (jo:=s.jo) (met:=l) i i.ok.su i.ok.jo i.ok.go hl).sb h.N
 ·have g:=h.ga
  exact⟨⟨fun e=>absurd e q,fun _=>⟨(h.si.2 q).se0,(h.si.2 q).se1,g.me,g.su,g.jo,g.go,hl,g.was,g.wasl⟩⟩,h.ro,h.N,h.se⟩
theorem jE:NL []:=⟨List.nodup_nil,fun _ h=>by cases h⟩
theorem JB {me:Int} {l:List Int} (hm:0≤me∧me<8) (hl:NL l) (hne:¬l=[]):SB 1 (fT me l):=by
 unfold fT
 split
 ·exact tT ⟨hm,jE,jE,jE,jE,pW,Nat.zero_le _,⟨Int.le_refl 0,by show(0:Int)<4294967296;decide⟩,Int.le_refl 0,fun e=>absurd e (by show¬(0:Int)<0;decide)⟩ (by decide) hl (by decide) (by decide) (by decide) pW (Nat.zero_le _)
 ·exact⟨⟨fun e=>absurd e (by show¬(0:Int)<0;decide),fun _=>⟨Int.le_refl 0,by show(0:Int)<4294967295;decide,hm,jE,jE,jE,jE,pW,Nat.zero_le _⟩⟩,⟨Int.le_refl 0,by show(0:Int)<4294967296;decide⟩,by show(0:Int)≤1;decide,Int.le_refl 0,by show(0:Int)≤1;decide⟩
def TOk (B:Int) (y:Int×Int×Mx):Prop:=(0≤y.1∧y.1<8)∧(0≤y.2.1∧y.2.1<8)∧cE y.2.2∧y.2.2.N≤B∧y.2.2.vn≤B
structure FI (B:Int) (f:Fx):Prop where
 ss:f.ss.length≤8
 dn:f.dn.length=f.ss.length
 s:∀x∈f.ss,SB B x
 fly:∀y∈f.fly,TOk B y
 now:0≤f.now
theorem TOk.le {B C:Int} {y:Int×Int×Mx} (h:TOk B y) (hc:B≤C):TOk C y:=⟨h.1,h.2.1,h.2.2.1,by have:=h.2.2.2.1;omega,by have:=h.2.2.2.2;omega⟩
theorem iV {ss:List St} {n:Nat} (h:n<ss.length):aI ss n∈ss:=akp (dP h)
theorem Eg {B fr:Int} {F:List (Int×Int×Mx)} {os:List (Int×Mx)} (h:∀y∈F,TOk B y) (hf:0≤fr∧fr<8) (ho:OB B os):∀y∈eF F fr os,TOk B y:=fun y hy=>by
 unfold eF at hy
 rcases List.mem_append.1 hy with hy|hy
 ·exact h y hy
 ·obtain⟨x,hx,rfl⟩:=List.mem_map.1 hy
  have:=ho x (List.mem_of_mem_take hx)
  exact⟨hf,this.1,this.2.1,this.2.2.1,this.2.2.2⟩
theorem oB {ss:List St} {n:Nat} {a x:St} (h:x∈ss.set n a):x∈ss∨x=a:=List.mem_or_eq_of_mem_set h
theorem TA {B C:Int} {f:Fx} (h:FI B f) (hc:B≤C):FI C f:=⟨h.ss,h.dn,fun x hx=>(h.s x hx).le hc,fun y hy=>(h.fly y hy).le hc,h.now⟩
theorem Fe {B:Int} {f:Fx} {t:Int×Int×Mx} (h:FI B f) (ht:TOk B t) (hn:f.now≤1000000000) (hB:B+1<4294967295) (hl:t.2.1<f.ss.length):RB (B+1) (bm f.now (aI f.ss t.2.1.toNat) t.1 t.2.2):=
 Xy (h.s _ (iV (by have:=ht.2.1;omega))) ht.2.2.1 ht.2.2.2.1 ht.2.2.2.2 ht.1 ⟨h.now,hn⟩ hB
theorem Fp {B:Int} {f:Fx} {t:Int×Int×Mx} (h:FI B f) (ht:TOk B t) (hn:f.now≤1000000000) (hB:B+1<4294967295):FI (B+1) (eW f t):=by
 unfold eW
 split
 ·rename_i q
  have r:=Fe h ht hn hB q.1
  refine⟨by rw[List.length_set];exact h.ss,by rw[List.length_set];exact h.dn,fun x hx=> ?_,Eg (fun y hy=>(h.fly y hy).le (by omega)) ht.2.1 r.o,h.now⟩
  rcases oB hx with hx|rfl
  ·exact(h.s x hx).le (by omega)
  ·exact r.s
 ·exact TA h (by omega)
theorem Yn {B x:Int} {f:Fx} (h:FI B f) (hx:0≤x∧x<f.ss.length) (hn:f.now+1≤1000000000) (hB:B+1<4294967295):FI (B+1) (ep f x):=by
 have h0:=h.now
 have h8:=h.ss
 unfold ep
 split
 ·have r:=Ef (now:=f.now+1) (h.s _ (iV (n:=x.toNat) (by omega))) (by omega) hB
  refine⟨by rw[List.length_set];exact h.ss,by rw[List.length_set];exact h.dn,fun y hy=> ?_,Eg (fun y hy=>(h.fly y hy).le (by omega)) (by omega) r.o,by dsimp only;omega⟩
  rcases oB hy with hy|rfl
  ·exact(h.s y hy).le (by omega)
  ·exact r.s
 ·have:=TA h (show B≤B+1 by omega)
  exact⟨this.ss,this.dn,this.s,this.fly,by dsimp only;omega⟩
theorem come_ss {f:Fx} {t:Int×Int×Mx}:(eW f t).ss.length=f.ss.length∧(eW f t).dn=f.dn∧(eW f t).now=f.now:=by
 unfold eW
 split
 ·exact⟨List.length_set,rfl,rfl⟩
 ·exact⟨rfl,rfl,rfl⟩
theorem tick_ss {f:Fx} {x:Int}:(ep f x).ss.length=f.ss.length∧(ep f x).dn=f.dn∧(ep f x).now=f.now+1:=by
 unfold ep
 split
 ·exact⟨List.length_set,rfl,rfl⟩
 ·exact⟨rfl,rfl,rfl⟩
structure FC (k:Int) (f:Fd):Prop where
 w:FW f
 i:∃B,FI B f.er∧B+k≤4000000000
 now:f.now+k≤999999999
 L:(f.L.length:Int)+1000*k≤900000000
theorem FC.le {k j:Int} {f:Fd} (h:FC k f) (hj:j≤k):FC j f:=by
 obtain⟨B,h1,h2⟩:=h.i
 exact⟨h.w,⟨B,h1,by omega⟩,by have:=h.now;omega,by have:=h.L;omega⟩
theorem HD {f g:Fd} {X:Fx} (h:FW f) (he:g.er=X) (hx:X.ss.length=f.ss.length∧X.dn=f.dn) (hp:g.ps=f.ps) (ha:g.a≤g.L.length) (hl:g.L.length≤1000000000):FW g:=by
 have e1:g.ss=X.ss:=congrArg Fx.ss he
 have e2:g.dn=X.dn:=congrArg Fx.dn he
 exact⟨by rw[hp,e1,hx.1];exact h.ps,by rw[e2,hx.2,e1,hx.1];exact h.dn,by rw[e1,hx.1];exact h.ss,ha,hl⟩
theorem Fo {f:Fd} {x:Fl} {i:Nat} (hx:f.L[f.a+i]?=some x) (hi:i=0):f.L.drop f.a=x::f.L.drop (f.a+1):=by
 subst hi
 have hl:=(List.getElem?_eq_some_iff.1 hx).1
 rw[List.drop_eq_getElem_cons (by omega)]
 have:=(List.getElem?_eq_some_iff.1 hx).2
 simp only[Nat.add_zero]at this
 rw[this]
def na (f:Fd) (o cp:Nat):Fd:={f with a:=f.a+1,o:=o,cp:=cp}
theorem ug {B:Int} {f:Fd} {x:Fl} {i o cp:Nat} (h:FI B f.er) (hx:f.L[f.a+i]?=some x) (hi:i=0):FI B (na f o cp).er∧TOk B x.er:=by
 have e:=Fo hx hi
 have hf:∀y∈(x::f.L.drop (f.a+1)).map Fl.er,TOk B y:=by rw[←e];exact h.fly
 exact⟨⟨h.ss,h.dn,h.s,fun y hy=>hf y (by rw[akr];exact List.mem_cons_of_mem _ hy),h.now⟩,hf _ (by rw[akr];exact List.mem_cons_self)⟩
theorem FC.at {k:Int} {f:Fd} (h:FC k f) (hk:0≤k):∃B,FI B f.er∧B≤4000000000∧0≤f.now:=by
 obtain⟨B,h1,h2⟩:=h.i
 exact⟨B,h1,by omega,h1.now⟩
theorem Qk {f:Fd} {t:Fl} {B:Int} (hw:FW f) (h:FI B f.er) (hB:B+1≤4000000001) (hn:f.now≤1000000000) (hL:f.L.length≤900000000) (ht:TOk B t.er):
  FW f∧f.L.length≤900000000∧0≤t.to∧0≤f.now∧f.now≤1000000000∧cE t.m.er∧t.m.vn<4294967295∧0≤t.fr∧t.fr<8∧(t.to<(f.ss.length:Int)→SI (aI f.ss t.to.toNat)∧(aI f.ss t.to.toNat).N+1<4294967295∧qH (bm f.now (aI f.ss t.to.toNat) t.fr t.m.er).2∧(bm f.now (aI f.ss t.to.toNat) t.fr t.m.er).2.length≤1000):=by
 obtain⟨⟨t1,t2⟩,⟨t3,t4⟩,t5,t6,t7⟩:=ht
 have t7:t.m.vn≤B:=t7
 refine⟨hw,hL,t3,h.now,hn,t5,by omega,t1,t2,fun q=> ?_⟩
 have r:=Fe (t:=t.er) h ⟨⟨t1,t2⟩,⟨t3,t4⟩,t5,t6,t7⟩ hn (by omega) q
 have s:=h.s _ (iV (n:=t.to.toNat) (show t.to.toNat<f.er.ss.length by have t3:0≤t.to:=t3;show t.to.toNat<f.ss.length;omega))
 have sN:=s.N
 have rl:=r.l
 exact⟨s.si,by show(aI f.er.ss t.to.toNat).N+1<4294967295;omega,SQ r.o,by show(bm f.er.now (aI f.er.ss t.er.2.1.toNat) t.er.1 t.er.2.2).2.length≤1000;omega⟩
theorem MR {f:Fd} {x B:Int} (hw:FW f) (h:FI B f.er) (hB:B+1≤4000000001) (hn:f.now<1000000000) (hL:f.L.length≤900000000) (hx:0≤x∧x<f.ss.length):
  FW f∧f.L.length≤900000000∧0≤x∧x<(f.ss.length:Int)∧0≤f.now∧f.now<1000000000∧SI (aI f.ss x.toNat)∧(aI f.ss x.toNat).N+1<4294967295∧qH (cg (f.now+1) (aI f.ss x.toNat)).2∧(cg (f.now+1) (aI f.ss x.toNat)).2.length≤1000:=by
 have h0:=h.now
 have h0:0≤f.now:=h0
 have s:=h.s _ (iV (n:=x.toNat) (show x.toNat<f.er.ss.length by show x.toNat<f.ss.length;omega))
 have sN:=s.N
 have r:=Ef (now:=f.now+1) s (by omega) (by omega)
 have rl:=r.l
 exact⟨hw,hL,hx.1,hx.2,h0,hn,s.si,by show(aI f.er.ss x.toNat).N+1<4294967295;omega,SQ r.o,by show(cg (f.now+1) (aI f.er.ss x.toNat)).2.length≤1000;omega⟩
def PO (f g:Fd) (X:Fx) (k:Int):Prop:=g.er=X∧g.ps=f.ps∧∀c,0≤c→FC (k+c) f→FC c g
theorem Ev {f g:Fd} {x:Int} (hx:0≤x∧x<f.ss.length) (h:g.er=ep f.er x∧g.ps=f.ps∧g.a≤g.L.length∧g.L.length≤f.L.length+1000):PO f g (ep f.er x) 1:=by
 refine⟨h.1,h.2.1,fun c hc hf=> ?_⟩
 have hL:=hf.L
 have hn:=hf.now
 obtain⟨B,h1,h2⟩:=hf.i
 have e:g.now=f.now+1:=(congrArg Fx.now h.1).trans tick_ss.2.2
 refine⟨HD hf.w h.1 ⟨tick_ss.1,tick_ss.2.1⟩ h.2.1 h.2.2.1 (by omega),⟨B+1,?_,by omega⟩,by omega,by omega⟩
 rw[h.1]
 exact Yn h1 hx (show f.now+1≤1000000000 by omega) (by omega)
theorem PO.trans {f g r:Fd} {X Y:Fx} {a b c:Int} (h1:PO f g X a) (h2:PO g r Y b) (hc:c=a+b) (hb:0≤b):PO f r Y c:=by
 subst hc
 exact⟨h2.1,h2.2.1.trans h1.2.1,fun d hd hf=>h2.2.2 d hd (h1.2.2 (b+d) (by omega) (by rw[←Int.add_assoc];exact hf))⟩
theorem PO.refl {f:Fd} {k:Int} (hk:0≤k):PO f f f.er k:=⟨rfl,rfl,fun c hc hf=>hf.le (by omega)⟩
theorem PO.eq {f g:Fd} {X Y:Fx} {k:Int} (h:PO f g X k) (e:X=Y):PO f g Y k:=e▸h
def fX:Nat→Fx→Fx
 |0,f=>f
 |n+1,f=>match f.fly with
  |[]=>f
  |t::r=>fX n (eW {f with fly:=r} t)
def fO:Nat→Int→Fx→Fx
 |0,_,f=>f
 |n+1,x,f=>fO n (x+1) (ep f x)
def Jn (f:Fx):Fx:=fX 3000 (fO f.ss.length 0 f)
def cW:Nat→Fx→Fx
 |0,f=>f
 |n+1,f=>cW n (Jn f)
theorem Ju {f:Fd} {x:Fl} {i o cp:Nat} (hx:f.L[f.a+i]?=some x) (hi:i=0):PO f (na f o cp) (na f o cp).er 0:=by
 refine⟨rfl,rfl,fun c hc hf=> ?_⟩
 obtain⟨B,h1,h2⟩:=hf.i
 have hl:=(List.getElem?_eq_some_iff.1 hx).1
 exact⟨⟨hf.w.ps,hf.w.dn,hf.w.ss,by show f.a+1≤f.L.length;omega,hf.w.L⟩,⟨B,(ug h1 hx hi).1,by omega⟩,by have:=hf.now;show f.now+c≤_;omega,by have:=hf.L;show(f.L.length:Int)+1000*c≤_;omega⟩
theorem Ir {f g r:Fd} {x:Fl} {j o cp:Nat} {i:Int} (h0:0≤i) (h1:i<3000) (hx:f.L[f.a+j]?=some x) (hj:j=0) (hc:g.er=eW (na f o cp).er x.er∧g.ps=f.ps∧g.a≤g.L.length∧g.L.length≤f.L.length+1000)
  (hz:PO g r (fX (3000 - (i+1)).toNat g.er) (3000 - (i+1))):PO f r (fX (3000 - i).toNat f.er) (3000 - i):=by
 have e:=Fo hx hj
 have k1:=Ju (o:=o) (cp:=cp) hx hj
 have ht:∀B,FI B (na f o cp).er→TOk B x.er→True:=fun _ _ _=>trivial
 have key:PO f g (eW (na f o cp).er x.er) 1:=by
  refine⟨hc.1,hc.2.1,fun c hc0 hf=> ?_⟩
  have hL:=hf.L
  have hn:=hf.now
  obtain⟨B,b1,b2⟩:=hf.i
  have p:=ug (o:=o) (cp:=cp) b1 hx hj
  have e2:g.now=f.now:=(congrArg Fx.now hc.1).trans come_ss.2.2
  refine⟨HD (f:=na f o cp) (k1.2.2 (1+c) (by omega) (by rw[Int.zero_add];exact hf)).w hc.1 ⟨come_ss.1,come_ss.2.1⟩ hc.2.1 hc.2.2.1 (by omega),⟨B+1,?_,by omega⟩,by omega,by omega⟩
  rw[hc.1]
  exact Fp p.1 p.2 (show f.now≤1000000000 by omega) (by omega)
 refine(key.trans hz (by omega) (by omega)).eq ?_
 rw[show(3000 - i).toNat=(3000 - (i+1)).toNat+1 by omega]
 have e3:f.er.fly=x.er::(na f o cp).er.fly:=by
  show(f.L.drop f.a).map Fl.er=_
  rw[e];rfl
 rw[fX,e3,hc.1]
 rfl
end Go.Proofs.Tryz
