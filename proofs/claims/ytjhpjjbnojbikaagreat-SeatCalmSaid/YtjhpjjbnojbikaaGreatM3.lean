/- Definitions and lemmas of the proof, without a condition of their own. -/
import Derived.Test.YtjhpjjbnojbikaaGreatM2
import Derived.KernelRfl
import Derived.RangeFuncBox
import Derived.RangeFuncLeaves
import Derived.RangeFuncFrom
import Derived.RangeFuncNested
import Derived.Shelf.Abstract
import Derived.WalkKit
import Derived.OwnWalkIn
import Derived.TacticsInMore
import Derived.LoopNIn
import Derived.LoopIn
import Derived.Maps.AppendAt
import Derived.Test.YtjhpjjbnojbikaaGreatProg
import Derived.BigRegionIn
import Derived.Stop.RegionWithIn
open List renaming cons_append→akr,length_append→akk,length_cons→akl,length_drop→akG,length_map→akm,length_nil→akn,length_take→aky,mem_of_getElem?→akp,nil_append→aks
open Nat renaming eq_of_beq_eq_true→ako,le_refl→akz
open Option.some renaming inj→akE,injEq→akC
namespace Go.Proofs.Tryz
open Go Go.RowKit Go.Sy
open Go.Eng hiding ah
set_option maxRecDepth 1000000
set_option linter.unusedVariables false
set_option maxHeartbeats 4000000
theorem tk {α:Type} {l:List α} {i:Nat} {x:α} (h:l[i]?=some x):l.take i++[x]=l.take (i+1):=by rw[List.take_add_one,h];rfl
theorem tkd {α:Type} {l:List α} {a i:Nat} {x:α} (h:l[a+i]?=some x):(l.drop a).take i++[x]=(l.drop a).take (i+1):=tk (by rw[List.getElem?_drop];exact h)
def jx:XC:=(.aft (.seq (g_ 1 [p_ 0 12 (.bin 3 0 (.t 11) (.t 10))]) (.seq (.cond (.t 12) .skip (.exit 2)) (.seq (.block 3 (.seq (g_ 4 [p_ 0 13 (.ixs 18 (.t 9) (.t 11)),r_ 1 14 (.ld true 18 (.t 13)),e_ 2 5 (.al 68 [.int 1 (.ofNat 0),.int 1 (.ofNat 0),.int 2 (.ofNat 0),.int 3 (.ofNat 0),.int 1 (.ofNat 0),.int 1 (.ofNat 0),.int 1 (.ofNat 0),.int 1 (.ofNat 0),.int 1 (.ofNat 0),.int 1 (.ofNat 0),.int 1 (.ofNat 0),.int 3 (.ofNat 0),.nilS,.int 1 (.ofNat 0),.str [],.nilS,.int 1 (.ofNat 0),.int 2 (.ofNat 0)]),bm 3 (.st 18 (.t 5) (.t 14))]) (g_ 6 [p_ 0 15 (m_ 3),r_ 1 16 (.ld true 18 (.t 5)),c_ 2 17 67 [.t 16],e_ 3 18 (.bsl 68 18 1 [.int 1 (.ofNat 0),.int 1 (.ofNat 0),.int 2 (.ofNat 0),.int 3 (.ofNat 0),.int 1 (.ofNat 0),.int 1 (.ofNat 0),.int 1 (.ofNat 0),.int 1 (.ofNat 0),.int 1 (.ofNat 0),.int 1 (.ofNat 0),.int 1 (.ofNat 0),.int 3 (.ofNat 0),.nilS,.int 1 (.ofNat 0),.str [],.nilS,.int 1 (.ofNat 0),.int 2 (.ofNat 0)] [(0,18)] [.t 17]),e_ 4 19 (.app 68 18 104 (.t 15) (.t 18)),p_ 5 3 (m_ 19)]))) (g_ 2 [p_ 0 20 (.bin 0 0 (.t 11) (i_ 1)),p_ 1 11 (m_ 20)])))) [(0,[.can 1 [3,9,10,11]]),(2,[.can 1 [3]])])
def yJ:XF:=.mk 27 (.one 2) (.seq (g_ 1 [p_ 0 2 (.mv (.c .nilS))]) (.seq (g_ 4 [p_ 0 6 (m_ 0),p_ 1 7 (k_ 6),e_ 2 8 (.mks 68 18 104 [.int 1 (.ofNat 0),.int 1 (.ofNat 0),.int 2 (.ofNat 0),.int 3 (.ofNat 0),.int 1 (.ofNat 0),.int 1 (.ofNat 0),.int 1 (.ofNat 0),.int 1 (.ofNat 0),.int 1 (.ofNat 0),.int 1 (.ofNat 0),.int 1 (.ofNat 0),.int 3 (.ofNat 0),.nilS,.int 1 (.ofNat 0),.str [],.nilS,.int 1 (.ofNat 0),.int 2 (.ofNat 0)] (i_ 0) (.t 7)),p_ 3 3 (m_ 8)]) (.seq (.seq (g_ 3 [p_ 0 9 (m_ 0),p_ 1 10 (k_ 9),p_ 2 11 (.mv (i_ 0))]) (.block 2 (.pre [.can 1 [3,9,10,11],.born 3 68 18 Ke ai,.up 11,.can 1 [3,9,10,11]] (.inv 0 jx)))) (.seq (g_ 7 [p_ 0 21 (m_ 3),p_ 1 22 (m_ 3),p_ 2 23 (k_ 22),p_ 3 24 (m_ 3),p_ 4 25 (k_ 24),r_ 5 26 (.sls 18 (.t 21) none (some (.t 23)) (some (.t 25))),p_ 6 2 (m_ 26)]) .ret))))
theorem FT:aW Tryz.prog 54 yJ=true:=by kernel_rfl
structure cP where
 l:List Ke
 o:List Ke
 i:Int
structure pD where
 o:List Ke
def gn (p:cP) (r:pD):Prop:=r.o=p.l∧r.o.length=p.l.length
noncomputable def dM (p:cP):IL:=((.cons 11 (.sy (.int 0 p.i)) (.cons 10 (.sy (.int 0 (p.l.length:Int))) (.cons 9 (.sy (.prow 0 p.l.length)) (.cons 3 (.sy (.prow 1 p.o.length)) .nil)))),(.node (.node .leaf (some (.prow 68 18 Ke p.o ai)) .leaf) (some (.prow 68 18 Ke p.l ai)) .leaf),2)
noncomputable def iA (p:cP) (K:KC):Bool:=ah fun r:pD=>iP (gn p r) (K 2 (.cons 3 (.sy (.prow 1 r.o.length)) .nil) (.node (.node .leaf (some (.prow 68 18 Ke r.o ai)) .leaf) (some (.prow 68 18 Ke p.l ai)) .leaf) 2) true
def dX (p:cP):Prop:=p.l.length≤1000000∧0≤p.i∧p.i≤(p.l.length:Int)∧p.o=p.l.take p.i.toNat
theorem FV {p:cP} {K:KC} (hK:iA p K=true) (r:pD) (h:gn p r):K 2 (.cons 3 (.sy (.prow 1 r.o.length)) .nil) (.node (.node .leaf (some (.prow 68 18 Ke r.o ai)) .leaf) (some (.prow 68 18 Ke p.l ai)) .leaf) 2=true:=aA h (au hK r)
noncomputable def ji (p:cP) (K:KC):Bool:=ac (aF (dX p)) (iA p K)
noncomputable def mh:gB:=fun j S M nx K=>(Bool.rec (false) (ax fun p:cP=>ac (aF ((S,M,nx)=dM p)) (ji p K)) (Nat.beq j 0))
def dx (p:cP):Nat:=((p.l.length:Int) - p.i).toNat
noncomputable def vD (s:IL) (n:Nat) (K:KC):Bool:=ax fun q=>mP (s=dM q∧dx q<n) (ji q K)
theorem IZ {p q:cP} {K:KC} {s:IL} (hm:dx q<dx p:=by dsimp only[dx]<;>(omega)) (hp:dX q:=by dsimp only[dX]<;>(refine⟨g0,by omega,by omega,?_⟩;rw[show(p.i+1).toNat=p.i.toNat+1 by omega,g3];exact tk (by assumption))) (hK:iA q K=true:=by exact hK) (e:s=dM q:=by rfl):vD s (dx p) K=true:=aH q (bT ⟨e,hm⟩ (bT hp hK))
theorem GV (p:cP) (K:KC) (hpre:dX p) (hK:iA p K=true):(cC (bg rq) mh 600 jx (dM p).1 (dM p).2.1 (dM p).2.2 (fun e S M nx=>Nat.casesOn e (ax fun q:cP=>ac (aF ((S,M,nx)=dM q∧dx q<dx p)) (ji q K)) (fun e2=>K (Nat.succ e2) S M nx)))=true:=by
 refine Eq.trans (b:=(iP (p.i<(p.l.length:Int)) (mP (0≤p.i∧p.i<(p.l.length:Int)) (mP (p.i.toNat<p.l.length) (ah fun x1:Ke=>iP (p.l[p.i.toNat]?=some x1) (mP (p.o.length=p.o.length) (ax fun m1:List Ke=>mP (bz (m1.map ai) [[.int 1 (.ofNat 2),.int 1 (.ofNat 0),.int 2 (.ofNat 0),.int 3 (.ofNat 0),.int 1 (.ofNat 0),.int 1 (.ofNat 0),.int 1 (.ofNat 0),.int 1 (.ofNat 0),.int 1 (.ofNat 0),.int 1 (.ofNat 0),.int 1 (.ofNat 0),.int 3 (.ofNat 0),.nilS,.int 1 (.ofNat 0),.str [],.nilS,.sint 1 x1.v,.sint 2 x1.w]]) (mP (aC 104 (p.o.length+m1.length)) (mP (aL 0 (p.i+(1:Int))) (vD ((.cons 11 (.sy (.int 0 (p.i+(1:Int)))) (.cons 10 (.sy (.int 0 (p.l.length:Int))) (.cons 9 (.sy (.prow 0 p.l.length)) (.cons 3 (.sy (.prow 1 ((p.o++m1).length))) .nil)))),(.node (.node .leaf (some (.prow 68 18 Ke (p.o++m1) ai)) .leaf) (some (.prow 68 18 Ke p.l ai)) .leaf),2) (dx p) K))))) true))) (K 2 (.cons 3 (.sy (.prow 1 p.o.length)) .nil) (.node (.node .leaf (some (.prow 68 18 Ke p.o ai)) .leaf) (some (.prow 68 18 Ke p.l ai)) .leaf) 2))) (by kernel_rfl) ?_
 dsimp only[dX]at hpre
 obtain⟨g0,g1,g2,g3⟩:=hpre
 refine iI (fun hc1=> ?_) (fun hc1=> ?_)
 refine gy (cZ ?_)
 refine aj (fun x1=> ?_)
 refine iI (fun hi2=> ?_) (fun _=>rfl)
 refine aK ?_
 refine aH ([⟨x1.v,x1.w⟩]:List Ke) ?_
 refine mI (show bz (([⟨x1.v,x1.w⟩]:List Ke).map ai) [[.int 1 (.ofNat 2),.int 1 (.ofNat 0),.int 2 (.ofNat 0),.int 3 (.ofNat 0),.int 1 (.ofNat 0),.int 1 (.ofNat 0),.int 1 (.ofNat 0),.int 1 (.ofNat 0),.int 1 (.ofNat 0),.int 1 (.ofNat 0),.int 1 (.ofNat 0),.int 3 (.ofNat 0),.nilS,.int 1 (.ofNat 0),.str [],.nilS,.sint 1 x1.v,.sint 2 x1.w]] from cR _) (mI (by simp only[aC,akl,akn,g3,aky];omega) ?_)
 refine aQ ?_
 exact IZ (q:=⟨p.l,p.o++([⟨x1.v,x1.w⟩]:List Ke),p.i+(1:Int)⟩)
 exact FV hK ⟨p.o⟩ (by dsimp only[gn]<;>(have e:p.o=p.l:=(by rw[g3];exact List.take_of_length_le (by omega));exact⟨e,by(first|(rw[e];done)|(rw[e];simp;omega))⟩))
theorem HP:dp Tryz.prog 27 1 mh true 0 jx:=by
 exact gD (lf:=600) bD (ay qo) (by rfl) dM dx ji (fun b j x h=>by cases h) (fun S M nx K h=>by obtain⟨p,h⟩:=bJ h;exact⟨p,(ae h).1,(ae h).2⟩) (fun p K h=>GV p K (ae h).1 (ae h).2)
structure cY where
 l:List Ke
structure sW where
 o:List Ke
def bY (p:cY) (r:sW):Prop:=r.o=p.l∧r.o.length=p.l.length
noncomputable def dC (p:cY):IE:=([.sy (.prow 0 p.l.length)],(.node .leaf (some (.prow 68 18 Ke p.l ai)) .leaf),1)
noncomputable def pn (p:cY) (K:KE):Bool:=ah fun r:sW=>iP (bY p r) (K (.sy (.pfix 1 r.o.length r.o.length)) (.node (.node .leaf (some (.prow 68 18 Ke r.o ai)) .leaf) (some (.prow 68 18 Ke p.l ai)) .leaf) 2) true
def bM (p:cY):Prop:=p.l.length≤1000000
theorem KU {p:cY} {K:KE} (hK:pn p K=true) (r:sW) (h:bY p r):K (.sy (.pfix 1 r.o.length r.o.length)) (.node (.node .leaf (some (.prow 68 18 Ke r.o ai)) .leaf) (some (.prow 68 18 Ke p.l ai)) .leaf) 2=true:=aA h (au hK r)
theorem Ls (p:cY) (K:KE) (hpre:bM p) (hK:pn p K=true):(aY 1 (bg rq) mh 600 yJ (dC p).1 (dC p).2.1 (dC p).2.2 K)=true:=by
 refine Eq.trans (b:=(mP ((0:Int)=0∧0≤(p.l.length:Int)∧(p.l.length:Int)≤9223372036854775807∧((104:Nat):Int)*(p.l.length:Int)≤140737488355328) (mP (([]:List Unit)=[]) (bf (((.cons 11 (.sy (.int 0 0)) (.cons 10 (.sy (.int 0 (p.l.length:Int))) (.cons 9 (.sy (.prow 0 p.l.length)) (.cons 3 (.sy (.prow 1 0)) .nil)))),(.node (.node .leaf (some (.prow 68 18 Ke ([]:List Ke) ai)) .leaf) (some (.prow 68 18 Ke p.l ai)) .leaf),2)) dM dX gn fun p1 r1=>mP (r1.o.length=r1.o.length∧(0:Int)=0∧(r1.o.length:Int)=(r1.o.length:Int)∧(r1.o.length:Int)=(r1.o.length:Int)) (K (.sy (.pfix 1 r1.o.length r1.o.length)) (.node (.node .leaf (some (.prow 68 18 Ke r1.o ai)) .leaf) (some (.prow 68 18 Ke p1.l ai)) .leaf) 2))))) (by kernel_rfl) ?_
 dsimp only[bM]at hpre
 have h1:=hpre
 refine mI (⟨rfl,by omega⟩) (aK ?_)
 refine aB (⟨p.l,([]:List Ke),(0:Int)⟩:cP) rfl (by(try dsimp only[dX]);refine⟨h1,by omega,by omega,rfl⟩) fun r1 hi1=> ?_
 dsimp only[gn]at hi1
 refine mI (by first|omega|(simp;done)|(simp;omega)) ?_
 exact KU hK ⟨r1.o⟩ (by dsimp only[bY]<;>assumption)
noncomputable def kq:=aZ rq 1 (be dC (cm bM pn)) 54 [(0,25)]
theorem kT:aE Tryz.prog kq:=az (cS (f:=54) (k:=1) (lp:=mh) (lf:=600) bD (ay qo) FT (by rfl) (fun b j x h=>(bZ HP (fun h=>(by cases h)) h)) fun p K h=>Ls p K (ae h).1 (ae h).2) qo
def nB:XC:=jx
def yI:XF:=.mk 27 (.one 2) (.seq (g_ 1 [p_ 0 2 (.mv (.c .nilS))]) (.seq (g_ 4 [p_ 0 6 (m_ 0),p_ 1 7 (k_ 6),e_ 2 8 (.mks 68 18 104 [.int 1 (.ofNat 0),.int 1 (.ofNat 0),.int 2 (.ofNat 0),.int 3 (.ofNat 0),.int 1 (.ofNat 0),.int 1 (.ofNat 0),.int 1 (.ofNat 0),.int 1 (.ofNat 0),.int 1 (.ofNat 0),.int 1 (.ofNat 0),.int 1 (.ofNat 0),.int 3 (.ofNat 0),.nilS,.int 1 (.ofNat 0),.str [],.nilS,.int 1 (.ofNat 0),.int 2 (.ofNat 0)] (i_ 0) (.t 7)),p_ 3 3 (m_ 8)]) (.seq (.seq (g_ 3 [p_ 0 9 (m_ 0),p_ 1 10 (k_ 9),p_ 2 11 (.mv (i_ 0))]) (.block 2 (.pre [.can 1 [3,9,10,11],.born 3 68 18 Ke ai,.up 11,.can 1 [3,9,10,11]] (.inv 0 nB)))) (.seq (g_ 7 [p_ 0 21 (m_ 3),p_ 1 22 (m_ 3),p_ 2 23 (k_ 22),p_ 3 24 (m_ 3),p_ 4 25 (k_ 24),r_ 5 26 (.sls 18 (.t 21) none (some (.t 23)) (some (.t 25))),p_ 6 2 (m_ 26)]) .ret))))
theorem FS:aW Tryz.prog 54 yI=true:=by kernel_rfl
structure cO where
 l:List Ke
 a:Nat
 n:Nat
 o:List Ke
 i:Int
structure pC where
 o:List Ke
def gm (p:cO) (r:pC):Prop:=r.o=(p.l.drop p.a).take p.n∧r.o.length=p.n
noncomputable def dL (p:cO):IL:=((.cons 11 (.sy (.int 0 p.i)) (.cons 10 (.sy (.int 0 (p.n:Int))) (.cons 9 (.sy (.psub 0 18 p.a p.n 0 none)) (.cons 3 (.sy (.prow 1 p.o.length)) .nil)))),(.node (.node .leaf (some (.prow 68 18 Ke p.o ai)) .leaf) (some (.prow 68 18 Ke p.l ai)) .leaf),2)
noncomputable def iz (p:cO) (K:KC):Bool:=ah fun r:pC=>iP (gm p r) (K 2 (.cons 3 (.sy (.prow 1 r.o.length)) .nil) (.node (.node .leaf (some (.prow 68 18 Ke r.o ai)) .leaf) (some (.prow 68 18 Ke p.l ai)) .leaf) 2) true
def dW (p:cO):Prop:=p.a+p.n≤p.l.length∧p.n≤1000000∧0≤p.i∧p.i≤(p.n:Int)∧p.o=(p.l.drop p.a).take p.i.toNat
theorem FU {p:cO} {K:KC} (hK:iz p K=true) (r:pC) (h:gm p r):K 2 (.cons 3 (.sy (.prow 1 r.o.length)) .nil) (.node (.node .leaf (some (.prow 68 18 Ke r.o ai)) .leaf) (some (.prow 68 18 Ke p.l ai)) .leaf) 2=true:=aA h (au hK r)
noncomputable def jh (p:cO) (K:KC):Bool:=ac (aF (dW p)) (iz p K)
noncomputable def mg:gB:=fun j S M nx K=>(Bool.rec (false) (ax fun p:cO=>ac (aF ((S,M,nx)=dL p)) (jh p K)) (Nat.beq j 0))
def dw (p:cO):Nat:=((p.n:Int) - p.i).toNat
noncomputable def vC (s:IL) (n:Nat) (K:KC):Bool:=ax fun q=>mP (s=dL q∧dw q<n) (jh q K)
theorem IY {p q:cO} {K:KC} {s:IL} (hm:dw q<dw p:=by dsimp only[dw]<;>(omega)) (hp:dW q:=by dsimp only[dW]<;>(refine⟨g0,g1,by omega,by omega,?_⟩;rw[show(p.i+1).toNat=p.i.toNat+1 by omega,g4];exact tkd (by assumption))) (hK:iz q K=true:=by exact hK) (e:s=dL q:=by rfl):vC s (dw p) K=true:=aH q (bT ⟨e,hm⟩ (bT hp hK))
theorem GU (p:cO) (K:KC) (hpre:dW p) (hK:iz p K=true):(cC (bg kq) mg 600 nB (dL p).1 (dL p).2.1 (dL p).2.2 (fun e S M nx=>Nat.casesOn e (ax fun q:cO=>ac (aF ((S,M,nx)=dL q∧dw q<dw p)) (jh q K)) (fun e2=>K (Nat.succ e2) S M nx)))=true:=by
 refine Eq.trans (b:=(iP (p.i<(p.n:Int)) (mP (0≤p.i∧p.i<(p.n:Int)) (mP ((p.a+p.i.toNat)<p.l.length) (ah fun x1:Ke=>iP (p.l[p.a+p.i.toNat]?=some x1) (mP (p.o.length=p.o.length) (ax fun m1:List Ke=>mP (bz (m1.map ai) [[.int 1 (.ofNat 2),.int 1 (.ofNat 0),.int 2 (.ofNat 0),.int 3 (.ofNat 0),.int 1 (.ofNat 0),.int 1 (.ofNat 0),.int 1 (.ofNat 0),.int 1 (.ofNat 0),.int 1 (.ofNat 0),.int 1 (.ofNat 0),.int 1 (.ofNat 0),.int 3 (.ofNat 0),.nilS,.int 1 (.ofNat 0),.str [],.nilS,.sint 1 x1.v,.sint 2 x1.w]]) (mP (aC 104 (p.o.length+m1.length)) (mP (aL 0 (p.i+(1:Int))) (vC ((.cons 11 (.sy (.int 0 (p.i+(1:Int)))) (.cons 10 (.sy (.int 0 (p.n:Int))) (.cons 9 (.sy (.psub 0 18 p.a p.n 0 none)) (.cons 3 (.sy (.prow 1 ((p.o++m1).length))) .nil)))),(.node (.node .leaf (some (.prow 68 18 Ke (p.o++m1) ai)) .leaf) (some (.prow 68 18 Ke p.l ai)) .leaf),2) (dw p) K))))) true))) (K 2 (.cons 3 (.sy (.prow 1 p.o.length)) .nil) (.node (.node .leaf (some (.prow 68 18 Ke p.o ai)) .leaf) (some (.prow 68 18 Ke p.l ai)) .leaf) 2))) (by kernel_rfl) ?_
 dsimp only[dW]at hpre
 obtain⟨g0,g1,g2,g3,g4⟩:=hpre
 refine iI (fun hc1=> ?_) (fun hc1=> ?_)
 refine gy (cZ ?_)
 refine aj (fun x1=> ?_)
 refine iI (fun hi2=> ?_) (fun _=>rfl)
 refine aK ?_
 refine aH ([⟨x1.v,x1.w⟩]:List Ke) ?_
 refine mI (show bz (([⟨x1.v,x1.w⟩]:List Ke).map ai) [[.int 1 (.ofNat 2),.int 1 (.ofNat 0),.int 2 (.ofNat 0),.int 3 (.ofNat 0),.int 1 (.ofNat 0),.int 1 (.ofNat 0),.int 1 (.ofNat 0),.int 1 (.ofNat 0),.int 1 (.ofNat 0),.int 1 (.ofNat 0),.int 1 (.ofNat 0),.int 3 (.ofNat 0),.nilS,.int 1 (.ofNat 0),.str [],.nilS,.sint 1 x1.v,.sint 2 x1.w]] from cR _) (mI (by simp only[aC,akl,akn,g4,aky,akG];omega) ?_)
 refine aQ ?_
 exact IY (q:=⟨p.l,p.a,p.n,p.o++([⟨x1.v,x1.w⟩]:List Ke),p.i+(1:Int)⟩)
 exact FU hK ⟨p.o⟩ (by dsimp only[gm]<;>(have e:p.o=(p.l.drop p.a).take p.n:=(by rw[g4];exact congrArg (fun m=>List.take m _) (by omega));exact⟨e,by(first|(rw[e];done)|(rw[e];simp;omega))⟩))
theorem HO:dp Tryz.prog 27 1 mg true 0 nB:=by
 exact gD (lf:=600) bD (ay kT) (by rfl) dL dw jh (fun b j x h=>by cases h) (fun S M nx K h=>by obtain⟨p,h⟩:=bJ h;exact⟨p,(ae h).1,(ae h).2⟩) (fun p K h=>GU p K (ae h).1 (ae h).2)
structure dj where
 l:List Ke
 a:Nat
 n:Nat
structure sV where
 o:List Ke
def cq (p:dj) (r:sV):Prop:=r.o=(p.l.drop p.a).take p.n∧r.o.length=p.n
noncomputable def dP (p:dj):IE:=([.sy (.psub 0 18 p.a p.n 0 none)],(.node .leaf (some (.prow 68 18 Ke p.l ai)) .leaf),1)
noncomputable def pm (p:dj) (K:KE):Bool:=ah fun r:sV=>iP (cq p r) (K (.sy (.pfix 1 r.o.length r.o.length)) (.node (.node .leaf (some (.prow 68 18 Ke r.o ai)) .leaf) (some (.prow 68 18 Ke p.l ai)) .leaf) 2) true
def ce (p:dj):Prop:=p.a+p.n≤p.l.length∧p.n≤1000000
theorem KT {p:dj} {K:KE} (hK:pm p K=true) (r:sV) (h:cq p r):K (.sy (.pfix 1 r.o.length r.o.length)) (.node (.node .leaf (some (.prow 68 18 Ke r.o ai)) .leaf) (some (.prow 68 18 Ke p.l ai)) .leaf) 2=true:=aA h (au hK r)
theorem Lr (p:dj) (K:KE) (hpre:ce p) (hK:pm p K=true):(aY 1 (bg kq) mg 600 yI (dP p).1 (dP p).2.1 (dP p).2.2 K)=true:=by
 refine Eq.trans (b:=(mP ((0:Int)=0∧0≤(p.n:Int)∧(p.n:Int)≤9223372036854775807∧((104:Nat):Int)*(p.n:Int)≤140737488355328) (mP (([]:List Unit)=[]) (bf (((.cons 11 (.sy (.int 0 0)) (.cons 10 (.sy (.int 0 (p.n:Int))) (.cons 9 (.sy (.psub 0 18 p.a p.n 0 none)) (.cons 3 (.sy (.prow 1 0)) .nil)))),(.node (.node .leaf (some (.prow 68 18 Ke ([]:List Ke) ai)) .leaf) (some (.prow 68 18 Ke p.l ai)) .leaf),2)) dL dW gm fun p1 r1=>mP (r1.o.length=r1.o.length∧(0:Int)=0∧(r1.o.length:Int)=(r1.o.length:Int)∧(r1.o.length:Int)=(r1.o.length:Int)) (K (.sy (.pfix 1 r1.o.length r1.o.length)) (.node (.node .leaf (some (.prow 68 18 Ke r1.o ai)) .leaf) (some (.prow 68 18 Ke p1.l ai)) .leaf) 2))))) (by kernel_rfl) ?_
 dsimp only[ce]at hpre
 obtain⟨h1,h2⟩:=hpre
 refine mI (⟨rfl,by omega⟩) (aK ?_)
 refine aB (⟨p.l,p.a,p.n,([]:List Ke),(0:Int)⟩:cO) rfl (by(try dsimp only[dW]);refine⟨h1,h2,by omega,by omega,rfl⟩) fun r1 hi1=> ?_
 dsimp only[gm]at hi1
 refine mI (by first|omega|(simp;done)|(simp;omega)) ?_
 exact KT hK ⟨r1.o⟩ (by dsimp only[cq]<;>assumption)
noncomputable def kp:=aZ kq 1 (be dP (cm ce pm)) 54 [(0,26)]
theorem kS:aE Tryz.prog kp:=az (cS (f:=54) (k:=1) (lp:=mg) (lf:=600) bD (ay kT) FS (by rfl) (fun b j x h=>(bZ HO (fun h=>(by cases h)) h)) fun p K h=>Lr p K (ae h).1 (ae h).2) kT
def px:XC:=(.aft (.seq (g_ 1 [p_ 0 12 (.bin 3 0 (.t 11) (.t 10))]) (.seq (.cond (.t 12) .skip (.exit 2)) (.seq (.block 3 (.seq (g_ 4 [p_ 0 13 (.ixs 18 (.t 9) (.t 11)),r_ 1 14 (.ld true 18 (.t 13)),e_ 2 5 (.al 68 [.int 1 (.ofNat 0),.int 1 (.ofNat 0),.int 2 (.ofNat 0),.int 3 (.ofNat 0),.int 1 (.ofNat 0),.int 1 (.ofNat 0),.int 1 (.ofNat 0),.int 1 (.ofNat 0),.int 1 (.ofNat 0),.int 1 (.ofNat 0),.int 1 (.ofNat 0),.int 3 (.ofNat 0),.nilS,.int 1 (.ofNat 0),.str [],.nilS,.int 1 (.ofNat 0),.int 2 (.ofNat 0)]),bm 3 (.st 18 (.t 5) (.t 14))]) (g_ 6 [p_ 0 15 (m_ 3),r_ 1 16 (.ld true 18 (.t 5)),c_ 2 17 67 [.t 16],e_ 3 18 (.bsl 68 18 1 [.int 1 (.ofNat 0),.int 1 (.ofNat 0),.int 2 (.ofNat 0),.int 3 (.ofNat 0),.int 1 (.ofNat 0),.int 1 (.ofNat 0),.int 1 (.ofNat 0),.int 1 (.ofNat 0),.int 1 (.ofNat 0),.int 1 (.ofNat 0),.int 1 (.ofNat 0),.int 3 (.ofNat 0),.nilS,.int 1 (.ofNat 0),.str [],.nilS,.int 1 (.ofNat 0),.int 2 (.ofNat 0)] [(0,18)] [.t 17]),e_ 4 19 (.app 68 18 104 (.t 15) (.t 18)),p_ 5 3 (m_ 19)]))) (g_ 2 [p_ 0 20 (.bin 0 0 (.t 11) (i_ 1)),p_ 1 11 (m_ 20)])))) [(0,[.can 0 [3,9,10,11]]),(2,[.can 0 [3]])])
def BF:XF:=.mk 27 (.one 2) (.seq (g_ 1 [p_ 0 2 (.mv (.c .nilS))]) (.seq (g_ 4 [p_ 0 6 (m_ 0),p_ 1 7 (k_ 6),e_ 2 8 (.mks 68 18 104 [.int 1 (.ofNat 0),.int 1 (.ofNat 0),.int 2 (.ofNat 0),.int 3 (.ofNat 0),.int 1 (.ofNat 0),.int 1 (.ofNat 0),.int 1 (.ofNat 0),.int 1 (.ofNat 0),.int 1 (.ofNat 0),.int 1 (.ofNat 0),.int 1 (.ofNat 0),.int 3 (.ofNat 0),.nilS,.int 1 (.ofNat 0),.str [],.nilS,.int 1 (.ofNat 0),.int 2 (.ofNat 0)] (i_ 0) (.t 7)),p_ 3 3 (m_ 8)]) (.seq (.seq (g_ 3 [p_ 0 9 (m_ 0),p_ 1 10 (k_ 9),p_ 2 11 (.mv (i_ 0))]) (.block 2 (.pre [.can 0 [3,9,10,11],.born 3 68 18 Ke ai,.up 11,.can 0 [3,9,10,11]] (.inv 0 px)))) (.seq (g_ 7 [p_ 0 21 (m_ 3),p_ 1 22 (m_ 3),p_ 2 23 (k_ 22),p_ 3 24 (m_ 3),p_ 4 25 (k_ 24),r_ 5 26 (.sls 18 (.t 21) none (some (.t 23)) (some (.t 25))),p_ 6 2 (m_ 26)]) .ret))))
theorem HW:aW Tryz.prog 54 BF=true:=by kernel_rfl
structure cX where
 h:Value
 l:List Ke
 o:List Ke
 i:Int
structure qF where
 o:List Ke
def gW (p:cX) (r:qF):Prop:=r.o=p.l∧r.o.length=p.l.length
noncomputable def dU (p:cX):IL:=((.cons 11 (.sy (.int 0 p.i)) (.cons 10 (.sy (.int 0 (p.l.length:Int))) (.cons 9 (.sy (.imm p.h 18 Ke p.l ai)) (.cons 3 (.sy (.prow 0 p.o.length)) .nil)))),(.node .leaf (some (.prow 68 18 Ke p.o ai)) .leaf),1)
noncomputable def jq (p:cX) (K:KC):Bool:=ah fun r:qF=>iP (gW p r) (K 2 (.cons 3 (.sy (.prow 0 r.o.length)) .nil) (.node .leaf (some (.prow 68 18 Ke r.o ai)) .leaf) 1) true
def er (p:cX):Prop:=p.l.length≤1000000∧0≤p.i∧p.i≤(p.l.length:Int)∧p.o=p.l.take p.i.toNat
theorem HY {p:cX} {K:KC} (hK:jq p K=true) (r:qF) (h:gW p r):K 2 (.cons 3 (.sy (.prow 0 r.o.length)) .nil) (.node .leaf (some (.prow 68 18 Ke r.o ai)) .leaf) 1=true:=aA h (au hK r)
noncomputable def kn (p:cX) (K:KC):Bool:=ac (aF (er p)) (jq p K)
noncomputable def mT:gB:=fun j S M nx K=>(Bool.rec (false) (ax fun p:cX=>ac (aF ((S,M,nx)=dU p)) (kn p K)) (Nat.beq j 0))
def dK (p:cX):Nat:=((p.l.length:Int) - p.i).toNat
noncomputable def wJ (s:IL) (n:Nat) (K:KC):Bool:=ax fun q=>mP (s=dU q∧dK q<n) (kn q K)
theorem Lc {p q:cX} {K:KC} {s:IL} (hm:dK q<dK p:=by dsimp only[dK]<;>(omega)) (hp:er q:=by dsimp only[er]<;>(refine⟨g0,by omega,by omega,?_⟩;rw[show(p.i+1).toNat=p.i.toNat+1 by omega,g3];exact tk (by assumption))) (hK:jq q K=true:=by exact hK) (e:s=dU q:=by rfl):wJ s (dK p) K=true:=aH q (bT ⟨e,hm⟩ (bT hp hK))
theorem Jw (p:cX) (K:KC) (hpre:er p) (hK:jq p K=true):(cC (bg kp) mT 600 px (dU p).1 (dU p).2.1 (dU p).2.2 (fun e S M nx=>Nat.casesOn e (ax fun q:cX=>ac (aF ((S,M,nx)=dU q∧dK q<dK p)) (kn q K)) (fun e2=>K (Nat.succ e2) S M nx)))=true:=by
 refine Eq.trans (b:=(iP (p.i<(p.l.length:Int)) (mP (0≤p.i∧p.i<(p.l.length:Int)) (ah fun x1:Ke=>iP (p.l[p.i.toNat]?=some x1) (mP (p.o.length=p.o.length) (ax fun m1:List Ke=>mP (bz (m1.map ai) [[.int 1 (.ofNat 2),.int 1 (.ofNat 0),.int 2 (.ofNat 0),.int 3 (.ofNat 0),.int 1 (.ofNat 0),.int 1 (.ofNat 0),.int 1 (.ofNat 0),.int 1 (.ofNat 0),.int 1 (.ofNat 0),.int 1 (.ofNat 0),.int 1 (.ofNat 0),.int 3 (.ofNat 0),.nilS,.int 1 (.ofNat 0),.str [],.nilS,.sint 1 x1.v,.sint 2 x1.w]]) (mP (aC 104 (p.o.length+m1.length)) (mP (aL 0 (p.i+(1:Int))) (wJ ((.cons 11 (.sy (.int 0 (p.i+(1:Int)))) (.cons 10 (.sy (.int 0 (p.l.length:Int))) (.cons 9 (.sy (.imm p.h 18 Ke p.l ai)) (.cons 3 (.sy (.prow 0 ((p.o++m1).length))) .nil)))),(.node .leaf (some (.prow 68 18 Ke (p.o++m1) ai)) .leaf),1) (dK p) K))))) true)) (K 2 (.cons 3 (.sy (.prow 0 p.o.length)) .nil) (.node .leaf (some (.prow 68 18 Ke p.o ai)) .leaf) 1))) (by kernel_rfl) ?_
 dsimp only[er]at hpre
 obtain⟨g0,g1,g2,g3⟩:=hpre
 refine iI (fun hc1=> ?_) (fun hc1=> ?_)
 refine gy ?_
 refine aj (fun x1=> ?_)
 refine iI (fun hi2=> ?_) (fun _=>rfl)
 refine aK ?_
 refine aH ([⟨x1.v,x1.w⟩]:List Ke) ?_
 refine mI (show bz (([⟨x1.v,x1.w⟩]:List Ke).map ai) [[.int 1 (.ofNat 2),.int 1 (.ofNat 0),.int 2 (.ofNat 0),.int 3 (.ofNat 0),.int 1 (.ofNat 0),.int 1 (.ofNat 0),.int 1 (.ofNat 0),.int 1 (.ofNat 0),.int 1 (.ofNat 0),.int 1 (.ofNat 0),.int 1 (.ofNat 0),.int 3 (.ofNat 0),.nilS,.int 1 (.ofNat 0),.str [],.nilS,.sint 1 x1.v,.sint 2 x1.w]] from cR _) (mI (by simp only[aC,akl,akn,g3,aky];omega) ?_)
 refine aQ ?_
 exact Lc (q:=⟨p.h,p.l,p.o++([⟨x1.v,x1.w⟩]:List Ke),p.i+(1:Int)⟩)
 exact HY hK ⟨p.o⟩ (by dsimp only[gW]<;>(have e:p.o=p.l:=(by rw[g3];exact List.take_of_length_le (by omega));exact⟨e,by(first|(rw[e];done)|(rw[e];simp;omega))⟩))
theorem Ko:dp Tryz.prog 27 0 mT true 0 px:=by
 exact gD (lf:=600) bD (ay kS) (by rfl) dU dK kn (fun b j x h=>by cases h) (fun S M nx K h=>by obtain⟨p,h⟩:=bJ h;exact⟨p,(ae h).1,(ae h).2⟩) (fun p K h=>Jw p K (ae h).1 (ae h).2)
structure eM where
 h:Value
 l:List Ke
structure vK where
 o:List Ke
def ei (p:eM) (r:vK):Prop:=r.o=p.l∧r.o.length=p.l.length
noncomputable def gC (p:eM):IE:=([.sy (.imm p.h 18 Ke p.l ai)],.leaf,0)
noncomputable def qn (p:eM) (K:KE):Bool:=ah fun r:vK=>iP (ei p r) (K (.sy (.pfix 0 r.o.length r.o.length)) (.node .leaf (some (.prow 68 18 Ke r.o ai)) .leaf) 1) true
def dS (p:eM):Prop:=p.l.length≤1000000
theorem Mg {p:eM} {K:KE} (hK:qn p K=true) (r:vK) (h:ei p r):K (.sy (.pfix 0 r.o.length r.o.length)) (.node .leaf (some (.prow 68 18 Ke r.o ai)) .leaf) 1=true:=aA h (au hK r)
theorem OV (p:eM) (K:KE) (hpre:dS p) (hK:qn p K=true):(aY 0 (bg kp) mT 600 BF (gC p).1 (gC p).2.1 (gC p).2.2 K)=true:=by
 refine Eq.trans (b:=(mP ((0:Int)=0∧0≤(p.l.length:Int)∧(p.l.length:Int)≤9223372036854775807∧((104:Nat):Int)*(p.l.length:Int)≤140737488355328) (mP (([]:List Unit)=[]) (bf (((.cons 11 (.sy (.int 0 0)) (.cons 10 (.sy (.int 0 (p.l.length:Int))) (.cons 9 (.sy (.imm p.h 18 Ke p.l ai)) (.cons 3 (.sy (.prow 0 0)) .nil)))),(.node .leaf (some (.prow 68 18 Ke ([]:List Ke) ai)) .leaf),1)) dU er gW fun p1 r1=>mP (r1.o.length=r1.o.length∧(0:Int)=0∧(r1.o.length:Int)=(r1.o.length:Int)∧(r1.o.length:Int)=(r1.o.length:Int)) (K (.sy (.pfix 0 r1.o.length r1.o.length)) (.node .leaf (some (.prow 68 18 Ke r1.o ai)) .leaf) 1))))) (by kernel_rfl) ?_
 dsimp only[dS]at hpre
 have h1:=hpre
 refine mI (⟨rfl,by omega⟩) (aK ?_)
 refine aB (⟨p.h,p.l,([]:List Ke),(0:Int)⟩:cX) rfl (by(try dsimp only[er]);refine⟨h1,by omega,by omega,rfl⟩) fun r1 hi1=> ?_
 dsimp only[gW]at hi1
 refine mI (by first|omega|(simp;done)|(simp;omega)) ?_
 exact Mg hK ⟨r1.o⟩ (by dsimp only[ei]<;>assumption)
noncomputable def qv:=aZ kp 0 (be gC (cm dS qn)) 54 [(0,23)]
theorem sY:aE Tryz.prog qv:=az (cS (f:=54) (k:=0) (lp:=mT) (lf:=600) bD (ay kS) HW (by rfl) (fun b j x h=>(bZ Ko (fun h=>(by cases h)) h)) fun p K h=>OV p K (ae h).1 (ae h).2) kS
def yK:XF:=.mk 44 (.one 4) (.aft (.seq (g_ 2 [e_ 0 3 (.box 68 (.t 1)),p_ 1 4 (.mv (i_ 0))]) (.seq (.block 2 (.seq (h_ 14 [p_ 0 6 (m_ 0),c_ 1 7 65 [.t 6],p_ 2 8 (.un 0 (.t 7)),p_ 3 9 (m_ 8),aU 4 10 9 false (.ld true 18 (.t 3)),am 5 11 9 false (m_ 0),am 6 12 9 false (n_ 11),am 7 13 9 false (f_ 0 12),am 8 14 9 false (f_ 0 13),aU 9 15 9 false (l_ 14),da 10 16 9 false 66 [.t 10,.t 15],am 11 17 9 false (.un 0 (.t 16)),p_ 12 18 (.pick (.t 9) (.c (.bool true)) (.t 17)),p_ 13 5 (m_ 18)]) (.cond (.t 5) (.seq (g_ 1 [p_ 0 4 (.mv (i_ 1))]) .ret) (.seq (g_ 5 [p_ 0 20 (m_ 0),p_ 1 21 (n_ 20),p_ 2 22 (f_ 8 21),r_ 3 23 (l_ 22),p_ 4 19 (m_ 23)]) (.cond (.t 19) (.seq (g_ 1 [p_ 0 4 (.mv (i_ 17))]) .ret) (.seq (g_ 7 [p_ 0 25 (m_ 0),p_ 1 26 (n_ 25),p_ 2 27 (f_ 5 26),r_ 3 28 (l_ 27),p_ 4 29 (k_ 28),p_ 5 30 (.bin 3 3 (.t 29) (i_ 400)),p_ 6 24 (m_ 30)]) (.cond (.t 24) (.seq (g_ 1 [p_ 0 4 (.mv (i_ 11))]) .ret) .skip))))))) (.seq (h_ 12 [p_ 0 31 (m_ 0),p_ 1 32 (m_ 0),p_ 2 33 (n_ 32),p_ 3 34 (f_ 5 33),r_ 4 35 (l_ 34),r_ 5 36 (.ld true 18 (.t 3)),c_ 6 37 67 [.t 36],a_ 4 35 (l_ 34),e_ 7 38 (.bsl 68 18 1 [.int 1 (.ofNat 0),.int 1 (.ofNat 0),.int 2 (.ofNat 0),.int 3 (.ofNat 0),.int 1 (.ofNat 0),.int 1 (.ofNat 0),.int 1 (.ofNat 0),.int 1 (.ofNat 0),.int 1 (.ofNat 0),.int 1 (.ofNat 0),.int 1 (.ofNat 0),.int 3 (.ofNat 0),.nilS,.int 1 (.ofNat 0),.str [],.nilS,.int 1 (.ofNat 0),.int 2 (.ofNat 0)] [(0,18)] [.t 37]),a_ 4 35 (l_ 34),e_ 8 39 (.app 68 18 104 (.t 35) (.t 38)),p_ 9 40 (n_ 31),p_ 10 41 (f_ 5 40),bm 11 (.st 1 (.t 41) (.t 39))]) (.seq (g_ 2 [p_ 0 42 (m_ 0),c_ 1 43 68 [.t 42]]) (.seq (g_ 1 [p_ 0 4 (.mv (i_ 0))]) .ret))))) [(0,[.up 4]),(1,[.up 4])])
theorem th:aW Tryz.prog 47 yK=true:=by kernel_rfl
structure we where
 l:List Ke
 com:Int
 c0:Int
 x:Ke
structure Uk where
 z:Int
 l:List Ke
 com:Int
 c0:Int
def og (p:we) (r:Uk):Prop:=r.l=p.l++[p.x]∧r.c0=(r.l.length:Int)∧comR 1 p.com r.com [r.c0]
noncomputable def EH (p:we):IE:=([.ptr 0 0,gK p.x.v p.x.w],(sU p.l p.com p.c0),4)
noncomputable def Hx (p:we) (K:KE):Bool:=ah fun r:Uk=>iP (og p r) (K (.sy (.int 0 r.z)) (sU r.l r.com r.c0) 4) true
def ux (p:we):Prop:=0≤p.x.v∧p.x.v≤15∧1≤p.x.w∧p.l.length<400
theorem AQ {p:we} {K:KE} (hK:Hx p K=true) (r:Uk) (h:og p r):K (.sy (.int 0 r.z)) (sU r.l r.com r.c0) 4=true:=aA h (au hK r)
theorem adw (p:we) (K:KE) (hpre:ux p) (hK:Hx p K=true):(aY 1 (bg qv) bp 600 yK (EH p).1 (EH p).2.1 (EH p).2.2 K)=true:=by
 refine Eq.trans (b:=(iP (p.x.v<(16:Int)) (iP ((0:Int)<p.x.w) (iP ((400:Int)≤(p.l.length:Int)) (K (.sy (.int 0 11)) (sU p.l p.com p.c0) 4) (mP (((.prow 2 p.l.length):SY)=(.prow 2 p.l.length)) (mP (((.prow 2 p.l.length):SY)=(.prow 2 p.l.length)) (mP (p.l.length=p.l.length) (ax fun m1:List Ke=>mP (bz (m1.map ai) [[.int 1 (.ofNat 2),.int 1 (.ofNat 0),.int 2 (.ofNat 0),.int 3 (.ofNat 0),.int 1 (.ofNat 0),.int 1 (.ofNat 0),.int 1 (.ofNat 0),.int 1 (.ofNat 0),.int 1 (.ofNat 0),.int 1 (.ofNat 0),.int 1 (.ofNat 0),.int 3 (.ofNat 0),.nilS,.int 1 (.ofNat 0),.str [],.nilS,.sint 1 p.x.v,.sint 2 p.x.w]]) (mP (aC 104 (p.l.length+m1.length)) (ax fun p1:lI=>mP (([.ptr 0 0],(Ro1 (p.l++m1) p.com p.c0 ((p.l++m1).length)),4)=sK p1) (ah fun r1:wN=>iP (pj p1 r1) (K (.sy (.int 0 0)) (sU p1.l r1.com (p1.l.length:Int)) 4) true)))))))) (K (.sy (.int 0 1)) (sU p.l p.com p.c0) 4)) (K (.sy (.int 0 1)) (sU p.l p.com p.c0) 4))) (by kernel_rfl) ?_
 dsimp only[ux]at hpre
 refine iI (fun hc1=> ?_) (fun hc1=> ?_)
 refine iI (fun hc2=> ?_) (fun hc2=> ?_)
 refine iI (fun hc3=> ?_) (fun hc3=> ?_)
 exact AQ hK ⟨(11:Int),p.l,p.com,p.c0⟩ (by dsimp only[og]<;>(first|exact⟨rfl,rfl,by assumption⟩|(exfalso;omega)))
 refine aK (aK (aK ?_))
 refine aH ([⟨p.x.v,p.x.w⟩]:List Ke) ?_
 refine mI (show bz (([⟨p.x.v,p.x.w⟩]:List Ke).map ai) [[.int 1 (.ofNat 2),.int 1 (.ofNat 0),.int 2 (.ofNat 0),.int 3 (.ofNat 0),.int 1 (.ofNat 0),.int 1 (.ofNat 0),.int 1 (.ofNat 0),.int 1 (.ofNat 0),.int 1 (.ofNat 0),.int 1 (.ofNat 0),.int 1 (.ofNat 0),.int 3 (.ofNat 0),.nilS,.int 1 (.ofNat 0),.str [],.nilS,.sint 1 p.x.v,.sint 2 p.x.w]] from cR _) (mI (by(try dsimp only);(first|omega|(simp[aC]<;>omega))) ?_)
 refine gE (⟨p.l++([⟨p.x.v,p.x.w⟩]:List Ke),p.com,p.c0⟩:lI) rfl fun r1 hi4=> ?_
 dsimp only[pj]at hi4
 exact AQ hK ⟨(0:Int),(p.l++([⟨p.x.v,p.x.w⟩]:List Ke)),r1.com,((p.l++([⟨p.x.v,p.x.w⟩]:List Ke)).length:Int)⟩ (by dsimp only[og]<;>(first|exact⟨rfl,rfl,by assumption⟩|(exfalso;omega)))
 exact AQ hK ⟨(1:Int),p.l,p.com,p.c0⟩ (by dsimp only[og]<;>(first|exact⟨rfl,rfl,by assumption⟩|(exfalso;omega)))
 exact AQ hK ⟨(1:Int),p.l,p.com,p.c0⟩ (by dsimp only[og]<;>(first|exact⟨rfl,rfl,by assumption⟩|(exfalso;omega)))
noncomputable def Mn:aM:=bn (fun us M=>bC (Nat.beq (ca M 1) 1) (cD M 0 3)) (be EH (cm ux Hx)) (fun _ _ _ _=>false)
theorem VT:aX Tryz.prog 47 1 Mn:=aD (bi (f:=47) (k:=1) (ay sY) th (by rfl) (by rfl) adw) dT
noncomputable def HJ:=aZ qv 1 Mn 47 [(0,4),(1,15)]
theorem GD:aE Tryz.prog HJ:=az VT sY
def Wg:XF:=yK
theorem XX:aW Tryz.prog 47 Wg=true:=th
structure wc where
 l:List Ke
 com:Int
 c0:Int
 c1:Int
 x:Ke
structure Uj where
 z:Int
 l:List Ke
 com:Int
 c0:Int
def oe (p:wc) (r:Uj):Prop:=r.l=p.l++[p.x]∧r.c0=(r.l.length:Int)∧comR 2 p.com r.com [r.c0,p.c1]
noncomputable def EG (p:wc):IE:=([.ptr 0 0,gK p.x.v p.x.w],(ir p.l p.com p.c0 p.c1),4)
noncomputable def Hw (p:wc) (K:KE):Bool:=ah fun r:Uj=>iP (oe p r) (K (.sy (.int 0 r.z)) (ir r.l r.com r.c0 p.c1) 4) true
def uw (p:wc):Prop:=0≤p.x.v∧p.x.v≤15∧1≤p.x.w∧p.l.length<400
theorem AP {p:wc} {K:KE} (hK:Hw p K=true) (r:Uj) (h:oe p r):K (.sy (.int 0 r.z)) (ir r.l r.com r.c0 p.c1) 4=true:=aA h (au hK r)
theorem adv (p:wc) (K:KE) (hpre:uw p) (hK:Hw p K=true):(aY 1 (bg HJ) bp 600 Wg (EG p).1 (EG p).2.1 (EG p).2.2 K)=true:=by
 refine Eq.trans (b:=(iP (p.x.v<(16:Int)) (iP ((0:Int)<p.x.w) (iP ((400:Int)≤(p.l.length:Int)) (K (.sy (.int 0 11)) (ir p.l p.com p.c0 p.c1) 4) (mP (((.prow 2 p.l.length):SY)=(.prow 2 p.l.length)) (mP (((.prow 2 p.l.length):SY)=(.prow 2 p.l.length)) (mP (p.l.length=p.l.length) (ax fun m1:List Ke=>mP (bz (m1.map ai) [[.int 1 (.ofNat 2),.int 1 (.ofNat 0),.int 2 (.ofNat 0),.int 3 (.ofNat 0),.int 1 (.ofNat 0),.int 1 (.ofNat 0),.int 1 (.ofNat 0),.int 1 (.ofNat 0),.int 1 (.ofNat 0),.int 1 (.ofNat 0),.int 1 (.ofNat 0),.int 3 (.ofNat 0),.nilS,.int 1 (.ofNat 0),.str [],.nilS,.sint 1 p.x.v,.sint 2 p.x.w]]) (mP (aC 104 (p.l.length+m1.length)) (ax fun p1:fV=>mP (([.ptr 0 0],(Ro2 (p.l++m1) p.com p.c0 p.c1 ((p.l++m1).length)),4)=lG p1) (ah fun r1:oC=>iP (gV p1 r1) (K (.sy (.int 0 0)) (ir p1.l r1.com (p1.l.length:Int) p1.c1) 4) true)))))))) (K (.sy (.int 0 1)) (ir p.l p.com p.c0 p.c1) 4)) (K (.sy (.int 0 1)) (ir p.l p.com p.c0 p.c1) 4))) (by kernel_rfl) ?_
 dsimp only[uw]at hpre
 refine iI (fun hc1=> ?_) (fun hc1=> ?_)
 refine iI (fun hc2=> ?_) (fun hc2=> ?_)
 refine iI (fun hc3=> ?_) (fun hc3=> ?_)
 exact AP hK ⟨(11:Int),p.l,p.com,p.c0⟩ (by dsimp only[oe]<;>(first|exact⟨rfl,rfl,by assumption⟩|(exfalso;omega)))
 refine aK (aK (aK ?_))
 refine aH ([⟨p.x.v,p.x.w⟩]:List Ke) ?_
 refine mI (show bz (([⟨p.x.v,p.x.w⟩]:List Ke).map ai) [[.int 1 (.ofNat 2),.int 1 (.ofNat 0),.int 2 (.ofNat 0),.int 3 (.ofNat 0),.int 1 (.ofNat 0),.int 1 (.ofNat 0),.int 1 (.ofNat 0),.int 1 (.ofNat 0),.int 1 (.ofNat 0),.int 1 (.ofNat 0),.int 1 (.ofNat 0),.int 3 (.ofNat 0),.nilS,.int 1 (.ofNat 0),.str [],.nilS,.sint 1 p.x.v,.sint 2 p.x.w]] from cR _) (mI (by(try dsimp only);(first|omega|(simp[aC]<;>omega))) ?_)
 refine gE (⟨p.l++([⟨p.x.v,p.x.w⟩]:List Ke),p.com,p.c0,p.c1⟩:fV) rfl fun r1 hi4=> ?_
 dsimp only[gV]at hi4
 exact AP hK ⟨(0:Int),(p.l++([⟨p.x.v,p.x.w⟩]:List Ke)),r1.com,((p.l++([⟨p.x.v,p.x.w⟩]:List Ke)).length:Int)⟩ (by dsimp only[oe]<;>(first|exact⟨rfl,rfl,by assumption⟩|(exfalso;omega)))
 exact AP hK ⟨(1:Int),p.l,p.com,p.c0⟩ (by dsimp only[oe]<;>(first|exact⟨rfl,rfl,by assumption⟩|(exfalso;omega)))
 exact AP hK ⟨(1:Int),p.l,p.com,p.c0⟩ (by dsimp only[oe]<;>(first|exact⟨rfl,rfl,by assumption⟩|(exfalso;omega)))
noncomputable def Mm:aM:=bn (fun us M=>bC (Nat.beq (ca M 1) 2) (cD M 0 3)) (be EG (cm uw Hw)) Mn
theorem VS:aX Tryz.prog 47 1 Mm:=aD (bi (f:=47) (k:=1) (ay GD) XX (by rfl) (by rfl) adv) VT
noncomputable def HI:=aZ HJ 1 Mm 47 [(0,4),(1,15)]
theorem GC:aE Tryz.prog HI:=az VS GD
def Wf:XF:=yK
theorem XW:aW Tryz.prog 47 Wf=true:=th
structure wb where
 l:List Ke
 com:Int
 c0:Int
 c1:Int
 c2:Int
 x:Ke
structure Ui where
 z:Int
 l:List Ke
 com:Int
 c0:Int
def nZ (p:wb) (r:Ui):Prop:=r.l=p.l++[p.x]∧r.c0=(r.l.length:Int)∧comR 2 p.com r.com [r.c0,p.c1,p.c2]
noncomputable def EF (p:wb):IE:=([.ptr 0 0,gK p.x.v p.x.w],(gG p.l p.com p.c0 p.c1 p.c2),4)
noncomputable def Hv (p:wb) (K:KE):Bool:=ah fun r:Ui=>iP (nZ p r) (K (.sy (.int 0 r.z)) (gG r.l r.com r.c0 p.c1 p.c2) 4) true
def uv (p:wb):Prop:=0≤p.x.v∧p.x.v≤15∧1≤p.x.w∧p.l.length<400
theorem AO {p:wb} {K:KE} (hK:Hv p K=true) (r:Ui) (h:nZ p r):K (.sy (.int 0 r.z)) (gG r.l r.com r.c0 p.c1 p.c2) 4=true:=aA h (au hK r)
theorem adu (p:wb) (K:KE) (hpre:uv p) (hK:Hv p K=true):(aY 1 (bg HI) bp 600 Wf (EF p).1 (EF p).2.1 (EF p).2.2 K)=true:=by
 refine Eq.trans (b:=(iP (p.x.v<(16:Int)) (iP ((0:Int)<p.x.w) (iP ((400:Int)≤(p.l.length:Int)) (K (.sy (.int 0 11)) (gG p.l p.com p.c0 p.c1 p.c2) 4) (mP (((.prow 2 p.l.length):SY)=(.prow 2 p.l.length)) (mP (((.prow 2 p.l.length):SY)=(.prow 2 p.l.length)) (mP (p.l.length=p.l.length) (ax fun m1:List Ke=>mP (bz (m1.map ai) [[.int 1 (.ofNat 2),.int 1 (.ofNat 0),.int 2 (.ofNat 0),.int 3 (.ofNat 0),.int 1 (.ofNat 0),.int 1 (.ofNat 0),.int 1 (.ofNat 0),.int 1 (.ofNat 0),.int 1 (.ofNat 0),.int 1 (.ofNat 0),.int 1 (.ofNat 0),.int 3 (.ofNat 0),.nilS,.int 1 (.ofNat 0),.str [],.nilS,.sint 1 p.x.v,.sint 2 p.x.w]]) (mP (aC 104 (p.l.length+m1.length)) (ax fun p1:eP=>mP (([.ptr 0 0],(Ro3 (p.l++m1) p.com p.c0 p.c1 p.c2 ((p.l++m1).length)),4)=je p1) (ah fun r1:lv=>iP (fj p1 r1) (K (.sy (.int 0 0)) (gG p1.l r1.com (p1.l.length:Int) p1.c1 p1.c2) 4) true)))))))) (K (.sy (.int 0 1)) (gG p.l p.com p.c0 p.c1 p.c2) 4)) (K (.sy (.int 0 1)) (gG p.l p.com p.c0 p.c1 p.c2) 4))) (by kernel_rfl) ?_
 dsimp only[uv]at hpre
 refine iI (fun hc1=> ?_) (fun hc1=> ?_)
 refine iI (fun hc2=> ?_) (fun hc2=> ?_)
 refine iI (fun hc3=> ?_) (fun hc3=> ?_)
 exact AO hK ⟨(11:Int),p.l,p.com,p.c0⟩ (by dsimp only[nZ]<;>(first|exact⟨rfl,rfl,by assumption⟩|(exfalso;omega)))
 refine aK (aK (aK ?_))
 refine aH ([⟨p.x.v,p.x.w⟩]:List Ke) ?_
 refine mI (show bz (([⟨p.x.v,p.x.w⟩]:List Ke).map ai) [[.int 1 (.ofNat 2),.int 1 (.ofNat 0),.int 2 (.ofNat 0),.int 3 (.ofNat 0),.int 1 (.ofNat 0),.int 1 (.ofNat 0),.int 1 (.ofNat 0),.int 1 (.ofNat 0),.int 1 (.ofNat 0),.int 1 (.ofNat 0),.int 1 (.ofNat 0),.int 3 (.ofNat 0),.nilS,.int 1 (.ofNat 0),.str [],.nilS,.sint 1 p.x.v,.sint 2 p.x.w]] from cR _) (mI (by(try dsimp only);(first|omega|(simp[aC]<;>omega))) ?_)
 refine gE (⟨p.l++([⟨p.x.v,p.x.w⟩]:List Ke),p.com,p.c0,p.c1,p.c2⟩:eP) rfl fun r1 hi4=> ?_
 dsimp only[fj]at hi4
 exact AO hK ⟨(0:Int),(p.l++([⟨p.x.v,p.x.w⟩]:List Ke)),r1.com,((p.l++([⟨p.x.v,p.x.w⟩]:List Ke)).length:Int)⟩ (by dsimp only[nZ]<;>(first|exact⟨rfl,rfl,by assumption⟩|(exfalso;omega)))
 exact AO hK ⟨(1:Int),p.l,p.com,p.c0⟩ (by dsimp only[nZ]<;>(first|exact⟨rfl,rfl,by assumption⟩|(exfalso;omega)))
 exact AO hK ⟨(1:Int),p.l,p.com,p.c0⟩ (by dsimp only[nZ]<;>(first|exact⟨rfl,rfl,by assumption⟩|(exfalso;omega)))
noncomputable def Mk:aM:=bn (fun us M=>bC (Nat.beq (ca M 1) 3) (cD M 0 3)) (be EF (cm uv Hv)) Mm
theorem VR:aX Tryz.prog 47 1 Mk:=aD (bi (f:=47) (k:=1) (ay GC) XW (by rfl) (by rfl) adu) VS
noncomputable def HH:=aZ HI 1 Mk 47 [(0,4),(1,15)]
theorem GB:aE Tryz.prog HH:=az VR GC
def We:XF:=yK
theorem XV:aW Tryz.prog 47 We=true:=th
structure wa where
 l:List Ke
 com:Int
 c0:Int
 c1:Int
 c2:Int
 c3:Int
 x:Ke
structure Uh where
 z:Int
 l:List Ke
 com:Int
 c0:Int
def nY (p:wa) (r:Uh):Prop:=r.l=p.l++[p.x]∧r.c0=(r.l.length:Int)∧comR 3 p.com r.com [r.c0,p.c1,p.c2,p.c3]
noncomputable def EE (p:wa):IE:=([.ptr 0 0,gK p.x.v p.x.w],(fH p.l p.com p.c0 p.c1 p.c2 p.c3),4)
noncomputable def Hu (p:wa) (K:KE):Bool:=ah fun r:Uh=>iP (nY p r) (K (.sy (.int 0 r.z)) (fH r.l r.com r.c0 p.c1 p.c2 p.c3) 4) true
def uu (p:wa):Prop:=0≤p.x.v∧p.x.v≤15∧1≤p.x.w∧p.l.length<400
theorem AN {p:wa} {K:KE} (hK:Hu p K=true) (r:Uh) (h:nY p r):K (.sy (.int 0 r.z)) (fH r.l r.com r.c0 p.c1 p.c2 p.c3) 4=true:=aA h (au hK r)
theorem adt (p:wa) (K:KE) (hpre:uu p) (hK:Hu p K=true):(aY 1 (bg HH) bp 600 We (EE p).1 (EE p).2.1 (EE p).2.2 K)=true:=by
 refine Eq.trans (b:=(iP (p.x.v<(16:Int)) (iP ((0:Int)<p.x.w) (iP ((400:Int)≤(p.l.length:Int)) (K (.sy (.int 0 11)) (fH p.l p.com p.c0 p.c1 p.c2 p.c3) 4) (mP (((.prow 2 p.l.length):SY)=(.prow 2 p.l.length)) (mP (((.prow 2 p.l.length):SY)=(.prow 2 p.l.length)) (mP (p.l.length=p.l.length) (ax fun m1:List Ke=>mP (bz (m1.map ai) [[.int 1 (.ofNat 2),.int 1 (.ofNat 0),.int 2 (.ofNat 0),.int 3 (.ofNat 0),.int 1 (.ofNat 0),.int 1 (.ofNat 0),.int 1 (.ofNat 0),.int 1 (.ofNat 0),.int 1 (.ofNat 0),.int 1 (.ofNat 0),.int 1 (.ofNat 0),.int 3 (.ofNat 0),.nilS,.int 1 (.ofNat 0),.str [],.nilS,.sint 1 p.x.v,.sint 2 p.x.w]]) (mP (aC 104 (p.l.length+m1.length)) (ax fun p1:dZ=>mP (([.ptr 0 0],(Ro4 (p.l++m1) p.com p.c0 p.c1 p.c2 p.c3 ((p.l++m1).length)),4)=hQ p1) (ah fun r1:jd=>iP (eh p1 r1) (K (.sy (.int 0 0)) (fH p1.l r1.com (p1.l.length:Int) p1.c1 p1.c2 p1.c3) 4) true)))))))) (K (.sy (.int 0 1)) (fH p.l p.com p.c0 p.c1 p.c2 p.c3) 4)) (K (.sy (.int 0 1)) (fH p.l p.com p.c0 p.c1 p.c2 p.c3) 4))) (by kernel_rfl) ?_
 dsimp only[uu]at hpre
 refine iI (fun hc1=> ?_) (fun hc1=> ?_)
 refine iI (fun hc2=> ?_) (fun hc2=> ?_)
 refine iI (fun hc3=> ?_) (fun hc3=> ?_)
 exact AN hK ⟨(11:Int),p.l,p.com,p.c0⟩ (by dsimp only[nY]<;>(first|exact⟨rfl,rfl,by assumption⟩|(exfalso;omega)))
 refine aK (aK (aK ?_))
 refine aH ([⟨p.x.v,p.x.w⟩]:List Ke) ?_
 refine mI (show bz (([⟨p.x.v,p.x.w⟩]:List Ke).map ai) [[.int 1 (.ofNat 2),.int 1 (.ofNat 0),.int 2 (.ofNat 0),.int 3 (.ofNat 0),.int 1 (.ofNat 0),.int 1 (.ofNat 0),.int 1 (.ofNat 0),.int 1 (.ofNat 0),.int 1 (.ofNat 0),.int 1 (.ofNat 0),.int 1 (.ofNat 0),.int 3 (.ofNat 0),.nilS,.int 1 (.ofNat 0),.str [],.nilS,.sint 1 p.x.v,.sint 2 p.x.w]] from cR _) (mI (by(try dsimp only);(first|omega|(simp[aC]<;>omega))) ?_)
 refine gE (⟨p.l++([⟨p.x.v,p.x.w⟩]:List Ke),p.com,p.c0,p.c1,p.c2,p.c3⟩:dZ) rfl fun r1 hi4=> ?_
 dsimp only[eh]at hi4
 exact AN hK ⟨(0:Int),(p.l++([⟨p.x.v,p.x.w⟩]:List Ke)),r1.com,((p.l++([⟨p.x.v,p.x.w⟩]:List Ke)).length:Int)⟩ (by dsimp only[nY]<;>(first|exact⟨rfl,rfl,by assumption⟩|(exfalso;omega)))
 exact AN hK ⟨(1:Int),p.l,p.com,p.c0⟩ (by dsimp only[nY]<;>(first|exact⟨rfl,rfl,by assumption⟩|(exfalso;omega)))
 exact AN hK ⟨(1:Int),p.l,p.com,p.c0⟩ (by dsimp only[nY]<;>(first|exact⟨rfl,rfl,by assumption⟩|(exfalso;omega)))
noncomputable def Mj:aM:=bn (fun us M=>bC (Nat.beq (ca M 1) 4) (cD M 0 3)) (be EE (cm uu Hu)) Mk
theorem VQ:aX Tryz.prog 47 1 Mj:=aD (bi (f:=47) (k:=1) (ay GB) XV (by rfl) (by rfl) adt) VR
noncomputable def HG:=aZ HH 1 Mj 47 [(0,4),(1,15)]
theorem GA:aE Tryz.prog HG:=az VQ GB
def Wj:XF:=.mk 50 .none (.seq (g_ 1 [e_ 0 4 (.box 52 (.t 1))]) (.pre [.can 1 [0,2,4],.fixc 1 0 0 2] (.seq (.seq (h_ 29 [p_ 0 6 (m_ 0),c_ 1 7 65 [.t 6],p_ 2 8 (.un 0 (.t 7)),p_ 3 9 (m_ 8),aU 4 10 9 false (.ld true 2 (.t 4)),am 5 11 9 false (m_ 0),am 6 12 9 false (n_ 11),am 7 13 9 false (f_ 3 12),aU 8 14 9 false (.ld true 2 (.t 13)),am 9 15 9 false (.eqs false 2 (.st [(0,1,false,.int),(1,1,false,.int)]) (.t 10) (.t 14)),p_ 10 16 (.pick (.t 9) (.c (.bool true)) (.t 15)),p_ 11 17 (m_ 16),am 12 18 17 false (m_ 0),am 13 19 17 false (n_ 18),am 14 20 17 false (f_ 0 19),aU 15 21 17 false (.ld true 3 (.t 20)),aU 16 22 17 false (.ld true 2 (.t 4)),da 17 23 17 false 45 [.t 21,.t 22],am 18 24 17 false (.bin 3 0 (.t 23) (i_ 0)),p_ 19 25 (.pick (.t 17) (.c (.bool true)) (.t 24)),p_ 20 26 (m_ 25),am 21 27 26 false (m_ 2),am 22 28 26 false (m_ 0),am 23 29 26 false (n_ 28),am 24 30 26 false (f_ 5 29),aU 25 31 26 false (l_ 30),am 26 32 26 false (k_ 31),am 27 33 26 false (.bin 3 2 (.t 27) (.t 32)),p_ 28 34 (.pick (.t 26) (.c (.bool true)) (.t 33))]) (.cond (.t 34) .ret .skip)) (.seq (h_ 14 [p_ 0 35 (m_ 0),p_ 1 36 (n_ 35),p_ 2 37 (f_ 9 36),r_ 3 38 (l_ 37),r_ 4 39 (.ld true 2 (.t 4)),p_ 5 40 (m_ 0),p_ 6 41 (n_ 40),p_ 7 42 (f_ 9 41),r_ 8 43 (l_ 42),r_ 9 44 (.ld true 2 (.t 4)),r_ 10 45 (.lk 2 (.st [(0,1,false,.int),(1,1,false,.int)]) (o_ 0) false (.t 43) (.t 44)),p_ 11 46 (m_ 2),p_ 12 47 (.mx true (.t 45) (.t 46)),bm 13 (.mu 2 (.st [(0,1,false,.int),(1,1,false,.int)]) (.t 38) (.t 39) (.t 47))]) (g_ 2 [p_ 0 48 (m_ 0),c_ 1 49 68 [.t 48]])))))
theorem Ya:aW Tryz.prog 115 Wj=true:=by kernel_rfl
structure wj where
 l:List Ke
 com:Int
 c0:Int
 c1:Int
 w:Int
 up:Int
structure Un where
 com:Int
 c0:Int
 c1:Int
def ql (p:wj) (r:Un):Prop:=∃j:Nat,1≤j∧j<2∧p.w=(j:Int)∧[r.c0,r.c1]=([p.c0,p.c1].set j (max ([p.c0,p.c1].getD j 0) p.up)).set 0 (p.l.length:Int)∧comR 2 p.com r.com [r.c0,r.c1]
noncomputable def EK (p:wj):IE:=([.ptr 0 0,.agg [.sy (.int 1 p.w),bj],.sy (.int 0 p.up)],(ir p.l p.com p.c0 p.c1),4)
noncomputable def HA (p:wj) (K:KE):Bool:=ah fun r:Un=>iP (ql p r) (K (.tup []) (ir p.l r.com r.c0 r.c1) 4) true
def uA (p:wj):Prop:=1≤p.w∧p.w<2∧p.up≤(p.l.length:Int)
theorem HZ {p:wj} {K:KE} (hK:HA p K=true) (r:Un) (h:ql p r):K (.tup []) (ir p.l r.com r.c0 r.c1) 4=true:=aA h (au hK r)
theorem adz (p:wj) (K:KE) (hpre:uA p) (hK:HA p K=true):(aY 1 (bg HG) bp 600 Wj (EK p).1 (EK p).2.1 (EK p).2.2 K)=true:=by
 refine Eq.trans (b:=(iP (p.w=0) (K (.tup []) (ir p.l p.com p.c0 p.c1) 4) (iP (p.w=1) (iP ((p.l.length:Int)<p.up) (K (.tup []) (ir p.l p.com p.c0 p.c1) 4) (ax fun p1:fV=>mP (([.ptr 0 0],(ir p.l p.com p.c0 (max p.c1 p.up)),4)=lG p1) (ah fun r1:oC=>iP (gV p1 r1) (K (.tup []) (ir p1.l r1.com (p1.l.length:Int) p1.c1) 4) true))) (mP (False) (true))))) (by kernel_rfl) ?_
 dsimp only[uA]at hpre
 refine iI (fun hc1=> ?_) (fun hc1=> ?_)
 exact HZ hK ⟨p.com,p.c0,p.c1⟩ (by dsimp only[ql]<;>(first|(exfalso;omega)))
 refine iI (fun hc2=> ?_) (fun hc2=> ?_)
 refine iI (fun hc3=> ?_) (fun hc3=> ?_)
 exact HZ hK ⟨p.com,p.c0,p.c1⟩ (by dsimp only[ql]<;>(first|(exfalso;omega)))
 refine gE (⟨p.l,p.com,p.c0,max p.c1 p.up⟩:fV) rfl fun r1 hi4=> ?_
 dsimp only[gV]at hi4
 exact HZ hK ⟨r1.com,(p.l.length:Int),(max p.c1 p.up)⟩ (by dsimp only[ql]<;>(first|(exfalso;omega)|exact⟨1,by decide,by decide,by omega,rfl,by assumption⟩))
 refine cZ ?_
 rfl
noncomputable def Mp:aM:=bn (mF 1 2) (be EK (cm uA HA)) (fun _ _ _ _=>false)
theorem VV:aX Tryz.prog 115 1 Mp:=aD (bi (f:=115) (k:=1) (ay GA) Ya (by rfl) (by rfl) adz) dT
noncomputable def HM:=aZ HG 1 Mp 115 [(0,4),(1,15),(2,20)]
theorem GG:aE Tryz.prog HM:=az VV GA
def Wi:XF:=.mk 50 .none (.seq (g_ 1 [e_ 0 4 (.box 52 (.t 1))]) (.pre [.can 1 [0,2,4],.fixc 1 0 0 3] (.seq (.seq (h_ 29 [p_ 0 6 (m_ 0),c_ 1 7 65 [.t 6],p_ 2 8 (.un 0 (.t 7)),p_ 3 9 (m_ 8),aU 4 10 9 false (.ld true 2 (.t 4)),am 5 11 9 false (m_ 0),am 6 12 9 false (n_ 11),am 7 13 9 false (f_ 3 12),aU 8 14 9 false (.ld true 2 (.t 13)),am 9 15 9 false (.eqs false 2 (.st [(0,1,false,.int),(1,1,false,.int)]) (.t 10) (.t 14)),p_ 10 16 (.pick (.t 9) (.c (.bool true)) (.t 15)),p_ 11 17 (m_ 16),am 12 18 17 false (m_ 0),am 13 19 17 false (n_ 18),am 14 20 17 false (f_ 0 19),aU 15 21 17 false (.ld true 3 (.t 20)),aU 16 22 17 false (.ld true 2 (.t 4)),da 17 23 17 false 45 [.t 21,.t 22],am 18 24 17 false (.bin 3 0 (.t 23) (i_ 0)),p_ 19 25 (.pick (.t 17) (.c (.bool true)) (.t 24)),p_ 20 26 (m_ 25),am 21 27 26 false (m_ 2),am 22 28 26 false (m_ 0),am 23 29 26 false (n_ 28),am 24 30 26 false (f_ 5 29),aU 25 31 26 false (l_ 30),am 26 32 26 false (k_ 31),am 27 33 26 false (.bin 3 2 (.t 27) (.t 32)),p_ 28 34 (.pick (.t 26) (.c (.bool true)) (.t 33))]) (.cond (.t 34) .ret .skip)) (.seq (h_ 14 [p_ 0 35 (m_ 0),p_ 1 36 (n_ 35),p_ 2 37 (f_ 9 36),r_ 3 38 (l_ 37),r_ 4 39 (.ld true 2 (.t 4)),p_ 5 40 (m_ 0),p_ 6 41 (n_ 40),p_ 7 42 (f_ 9 41),r_ 8 43 (l_ 42),r_ 9 44 (.ld true 2 (.t 4)),r_ 10 45 (.lk 2 (.st [(0,1,false,.int),(1,1,false,.int)]) (o_ 0) false (.t 43) (.t 44)),p_ 11 46 (m_ 2),p_ 12 47 (.mx true (.t 45) (.t 46)),bm 13 (.mu 2 (.st [(0,1,false,.int),(1,1,false,.int)]) (.t 38) (.t 39) (.t 47))]) (g_ 2 [p_ 0 48 (m_ 0),c_ 1 49 68 [.t 48]])))))
theorem XZ:aW Tryz.prog 115 Wi=true:=by kernel_rfl
structure wi where
 l:List Ke
 com:Int
 c0:Int
 c1:Int
 c2:Int
 w:Int
 up:Int
structure Um where
 com:Int
 c0:Int
 c1:Int
 c2:Int
def lT (p:wi) (r:Um):Prop:=∃j:Nat,1≤j∧j<3∧p.w=(j:Int)∧[r.c0,r.c1,r.c2]=([p.c0,p.c1,p.c2].set j (max ([p.c0,p.c1,p.c2].getD j 0) p.up)).set 0 (p.l.length:Int)∧comR 2 p.com r.com [r.c0,r.c1,r.c2]
noncomputable def EJ (p:wi):IE:=([.ptr 0 0,.agg [.sy (.int 1 p.w),bj],.sy (.int 0 p.up)],(gG p.l p.com p.c0 p.c1 p.c2),4)
noncomputable def Hz (p:wi) (K:KE):Bool:=ah fun r:Um=>iP (lT p r) (K (.tup []) (gG p.l r.com r.c0 r.c1 r.c2) 4) true
def uz (p:wi):Prop:=1≤p.w∧p.w<3∧p.up≤(p.l.length:Int)
theorem vu {p:wi} {K:KE} (hK:Hz p K=true) (r:Um) (h:lT p r):K (.tup []) (gG p.l r.com r.c0 r.c1 r.c2) 4=true:=aA h (au hK r)
theorem ady (p:wi) (K:KE) (hpre:uz p) (hK:Hz p K=true):(aY 1 (bg HM) bp 600 Wi (EJ p).1 (EJ p).2.1 (EJ p).2.2 K)=true:=by
 refine Eq.trans (b:=(let z0:Bool:=(K (.tup []) (gG p.l p.com p.c0 p.c1 p.c2) 4);iP (p.w=0) z0 (iP (p.w=1) (iP ((p.l.length:Int)<p.up) z0 (ax fun p2:eP=>mP (([.ptr 0 0],(gG p.l p.com p.c0 (max p.c1 p.up) p.c2),4)=je p2) (ah fun r2:lv=>iP (fj p2 r2) (K (.tup []) (gG p2.l r2.com (p2.l.length:Int) p2.c1 p2.c2) 4) true))) (iP (p.w=2) (iP ((p.l.length:Int)<p.up) z0 (ax fun p1:eP=>mP (([.ptr 0 0],(gG p.l p.com p.c0 p.c1 (max p.c2 p.up)),4)=je p1) (ah fun r1:lv=>iP (fj p1 r1) (K (.tup []) (gG p1.l r1.com (p1.l.length:Int) p1.c1 p1.c2) 4) true))) (mP (False) (true)))))) (by kernel_rfl) ?_
 dsimp only[uz]at hpre
 refine iI (fun hc1=> ?_) (fun hc1=> ?_)
 exact vu hK ⟨p.com,p.c0,p.c1,p.c2⟩ (by dsimp only[lT]<;>(first|(exfalso;omega)))
 refine iI (fun hc2=> ?_) (fun hc2=> ?_)
 refine iI (fun hc3=> ?_) (fun hc3=> ?_)
 exact vu hK ⟨p.com,p.c0,p.c1,p.c2⟩ (by dsimp only[lT]<;>(first|(exfalso;omega)))
 refine gE (⟨p.l,p.com,p.c0,max p.c1 p.up,p.c2⟩:eP) rfl fun r2 hi4=> ?_
 dsimp only[fj]at hi4
 exact vu hK ⟨r2.com,(p.l.length:Int),(max p.c1 p.up),p.c2⟩ (by dsimp only[lT]<;>(first|(exfalso;omega)|exact⟨1,by decide,by decide,by omega,rfl,by assumption⟩|exact⟨2,by decide,by decide,by omega,rfl,by assumption⟩))
 refine iI (fun hc5=> ?_) (fun hc5=> ?_)
 refine iI (fun hc6=> ?_) (fun hc6=> ?_)
 exact vu hK ⟨p.com,p.c0,p.c1,p.c2⟩ (by dsimp only[lT]<;>(first|(exfalso;omega)))
 refine gE (⟨p.l,p.com,p.c0,p.c1,max p.c2 p.up⟩:eP) rfl fun r1 hi7=> ?_
 dsimp only[fj]at hi7
 exact vu hK ⟨r1.com,(p.l.length:Int),p.c1,(max p.c2 p.up)⟩ (by dsimp only[lT]<;>(first|(exfalso;omega)|exact⟨1,by decide,by decide,by omega,rfl,by assumption⟩|exact⟨2,by decide,by decide,by omega,rfl,by assumption⟩))
 refine cZ ?_
 rfl
noncomputable def Mo:aM:=bn (mF 1 3) (be EJ (cm uz Hz)) Mp
theorem VU:aX Tryz.prog 115 1 Mo:=aD (bi (f:=115) (k:=1) (ay GG) XZ (by rfl) (by rfl) ady) VV
noncomputable def HL:=aZ HM 1 Mo 115 [(0,4),(1,15),(2,20)]
theorem GF:aE Tryz.prog HL:=az VU GG
def Wh:XF:=.mk 50 .none (.seq (g_ 1 [e_ 0 4 (.box 52 (.t 1))]) (.pre [.can 1 [0,2,4],.fixc 1 0 0 4] (.seq (.seq (h_ 29 [p_ 0 6 (m_ 0),c_ 1 7 65 [.t 6],p_ 2 8 (.un 0 (.t 7)),p_ 3 9 (m_ 8),aU 4 10 9 false (.ld true 2 (.t 4)),am 5 11 9 false (m_ 0),am 6 12 9 false (n_ 11),am 7 13 9 false (f_ 3 12),aU 8 14 9 false (.ld true 2 (.t 13)),am 9 15 9 false (.eqs false 2 (.st [(0,1,false,.int),(1,1,false,.int)]) (.t 10) (.t 14)),p_ 10 16 (.pick (.t 9) (.c (.bool true)) (.t 15)),p_ 11 17 (m_ 16),am 12 18 17 false (m_ 0),am 13 19 17 false (n_ 18),am 14 20 17 false (f_ 0 19),aU 15 21 17 false (.ld true 3 (.t 20)),aU 16 22 17 false (.ld true 2 (.t 4)),da 17 23 17 false 45 [.t 21,.t 22],am 18 24 17 false (.bin 3 0 (.t 23) (i_ 0)),p_ 19 25 (.pick (.t 17) (.c (.bool true)) (.t 24)),p_ 20 26 (m_ 25),am 21 27 26 false (m_ 2),am 22 28 26 false (m_ 0),am 23 29 26 false (n_ 28),am 24 30 26 false (f_ 5 29),aU 25 31 26 false (l_ 30),am 26 32 26 false (k_ 31),am 27 33 26 false (.bin 3 2 (.t 27) (.t 32)),p_ 28 34 (.pick (.t 26) (.c (.bool true)) (.t 33))]) (.cond (.t 34) .ret .skip)) (.seq (h_ 14 [p_ 0 35 (m_ 0),p_ 1 36 (n_ 35),p_ 2 37 (f_ 9 36),r_ 3 38 (l_ 37),r_ 4 39 (.ld true 2 (.t 4)),p_ 5 40 (m_ 0),p_ 6 41 (n_ 40),p_ 7 42 (f_ 9 41),r_ 8 43 (l_ 42),r_ 9 44 (.ld true 2 (.t 4)),r_ 10 45 (.lk 2 (.st [(0,1,false,.int),(1,1,false,.int)]) (o_ 0) false (.t 43) (.t 44)),p_ 11 46 (m_ 2),p_ 12 47 (.mx true (.t 45) (.t 46)),bm 13 (.mu 2 (.st [(0,1,false,.int),(1,1,false,.int)]) (.t 38) (.t 39) (.t 47))]) (g_ 2 [p_ 0 48 (m_ 0),c_ 1 49 68 [.t 48]])))))
theorem XY:aW Tryz.prog 115 Wh=true:=by kernel_rfl
structure wh where
 l:List Ke
 com:Int
 c0:Int
 c1:Int
 c2:Int
 c3:Int
 w:Int
 up:Int
structure Ul where
 com:Int
 c0:Int
 c1:Int
 c2:Int
 c3:Int
def iJ (p:wh) (r:Ul):Prop:=∃j:Nat,1≤j∧j<4∧p.w=(j:Int)∧[r.c0,r.c1,r.c2,r.c3]=([p.c0,p.c1,p.c2,p.c3].set j (max ([p.c0,p.c1,p.c2,p.c3].getD j 0) p.up)).set 0 (p.l.length:Int)∧comR 3 p.com r.com [r.c0,r.c1,r.c2,r.c3]
noncomputable def EI (p:wh):IE:=([.ptr 0 0,.agg [.sy (.int 1 p.w),bj],.sy (.int 0 p.up)],(fH p.l p.com p.c0 p.c1 p.c2 p.c3),4)
noncomputable def Hy (p:wh) (K:KE):Bool:=ah fun r:Ul=>iP (iJ p r) (K (.tup []) (fH p.l r.com r.c0 r.c1 r.c2 r.c3) 4) true
def uy (p:wh):Prop:=1≤p.w∧p.w<4∧p.up≤(p.l.length:Int)
theorem nA {p:wh} {K:KE} (hK:Hy p K=true) (r:Ul) (h:iJ p r):K (.tup []) (fH p.l r.com r.c0 r.c1 r.c2 r.c3) 4=true:=aA h (au hK r)
theorem adx (p:wh) (K:KE) (hpre:uy p) (hK:Hy p K=true):(aY 1 (bg HL) bp 600 Wh (EI p).1 (EI p).2.1 (EI p).2.2 K)=true:=by
 refine Eq.trans (b:=(let z0:Bool:=(K (.tup []) (fH p.l p.com p.c0 p.c1 p.c2 p.c3) 4);iP (p.w=0) z0 (iP (p.w=1) (iP ((p.l.length:Int)<p.up) z0 (ax fun p3:dZ=>mP (([.ptr 0 0],(fH p.l p.com p.c0 (max p.c1 p.up) p.c2 p.c3),4)=hQ p3) (ah fun r3:jd=>iP (eh p3 r3) (K (.tup []) (fH p3.l r3.com (p3.l.length:Int) p3.c1 p3.c2 p3.c3) 4) true))) (iP (p.w=2) (iP ((p.l.length:Int)<p.up) z0 (ax fun p2:dZ=>mP (([.ptr 0 0],(fH p.l p.com p.c0 p.c1 (max p.c2 p.up) p.c3),4)=hQ p2) (ah fun r2:jd=>iP (eh p2 r2) (K (.tup []) (fH p2.l r2.com (p2.l.length:Int) p2.c1 p2.c2 p2.c3) 4) true))) (iP (p.w=3) (iP ((p.l.length:Int)<p.up) z0 (ax fun p1:dZ=>mP (([.ptr 0 0],(fH p.l p.com p.c0 p.c1 p.c2 (max p.c3 p.up)),4)=hQ p1) (ah fun r1:jd=>iP (eh p1 r1) (K (.tup []) (fH p1.l r1.com (p1.l.length:Int) p1.c1 p1.c2 p1.c3) 4) true))) (mP (False) (true))))))) (by kernel_rfl) ?_
 dsimp only[uy]at hpre
 refine iI (fun hc1=> ?_) (fun hc1=> ?_)
 exact nA hK ⟨p.com,p.c0,p.c1,p.c2,p.c3⟩ (by dsimp only[iJ]<;>(first|(exfalso;omega)))
 refine iI (fun hc2=> ?_) (fun hc2=> ?_)
 refine iI (fun hc3=> ?_) (fun hc3=> ?_)
 exact nA hK ⟨p.com,p.c0,p.c1,p.c2,p.c3⟩ (by dsimp only[iJ]<;>(first|(exfalso;omega)))
 refine gE (⟨p.l,p.com,p.c0,max p.c1 p.up,p.c2,p.c3⟩:dZ) rfl fun r3 hi4=> ?_
 dsimp only[eh]at hi4
 exact nA hK ⟨r3.com,(p.l.length:Int),(max p.c1 p.up),p.c2,p.c3⟩ (by dsimp only[iJ]<;>(first|(exfalso;omega)|exact⟨1,by decide,by decide,by omega,rfl,by assumption⟩|exact⟨2,by decide,by decide,by omega,rfl,by assumption⟩|exact⟨3,by decide,by decide,by omega,rfl,by assumption⟩))
 refine iI (fun hc5=> ?_) (fun hc5=> ?_)
 refine iI (fun hc6=> ?_) (fun hc6=> ?_)
 exact nA hK ⟨p.com,p.c0,p.c1,p.c2,p.c3⟩ (by dsimp only[iJ]<;>(first|(exfalso;omega)))
 refine gE (⟨p.l,p.com,p.c0,p.c1,max p.c2 p.up,p.c3⟩:dZ) rfl fun r2 hi7=> ?_
 dsimp only[eh]at hi7
 exact nA hK ⟨r2.com,(p.l.length:Int),p.c1,(max p.c2 p.up),p.c3⟩ (by dsimp only[iJ]<;>(first|(exfalso;omega)|exact⟨1,by decide,by decide,by omega,rfl,by assumption⟩|exact⟨2,by decide,by decide,by omega,rfl,by assumption⟩|exact⟨3,by decide,by decide,by omega,rfl,by assumption⟩))
 refine iI (fun hc8=> ?_) (fun hc8=> ?_)
 refine iI (fun hc9=> ?_) (fun hc9=> ?_)
 exact nA hK ⟨p.com,p.c0,p.c1,p.c2,p.c3⟩ (by dsimp only[iJ]<;>(first|(exfalso;omega)))
 refine gE (⟨p.l,p.com,p.c0,p.c1,p.c2,max p.c3 p.up⟩:dZ) rfl fun r1 hi10=> ?_
 dsimp only[eh]at hi10
 exact nA hK ⟨r1.com,(p.l.length:Int),p.c1,p.c2,(max p.c3 p.up)⟩ (by dsimp only[iJ]<;>(first|(exfalso;omega)|exact⟨1,by decide,by decide,by omega,rfl,by assumption⟩|exact⟨2,by decide,by decide,by omega,rfl,by assumption⟩|exact⟨3,by decide,by decide,by omega,rfl,by assumption⟩))
 refine cZ ?_
 rfl
noncomputable def Wt:aM:=bn (mF 1 4) (be EI (cm uy Hy)) Mo
theorem aeQ:aX Tryz.prog 115 1 Wt:=aD (bi (f:=115) (k:=1) (ay GF) XY (by rfl) (by rfl) adx) VU
noncomputable def HK:=aZ HL 1 Wt 115 [(0,4),(1,15),(2,20)]
theorem GE:aE Tryz.prog HK:=az aeQ GF
def AJ:XF:=.mk 85 (.one 8) (.aft (.seq (g_ 1 [p_ 0 8 (.mv (.c (.bool false)))]) (.seq (.seq (g_ 30 [p_ 0 10 (m_ 0),c_ 1 11 53 [.t 10],p_ 2 12 (m_ 11),am 3 13 12 false (m_ 0),da 4 14 12 false 65 [.t 13],p_ 5 15 (.pick (.t 12) (.c (.bool true)) (.t 14)),p_ 6 16 (m_ 15),am 7 17 16 false (m_ 1),am 8 18 16 false (m_ 0),am 9 19 16 false (n_ 18),am 10 20 16 false (f_ 6 19),aU 11 21 16 false (l_ 20),am 12 22 16 false (.bin 3 0 (.t 17) (.t 21)),p_ 13 23 (.pick (.t 16) (.c (.bool true)) (.t 22)),p_ 14 24 (m_ 23),am 15 25 24 false (m_ 1),am 16 26 24 false (m_ 0),am 17 27 24 false (n_ 26),am 18 28 24 false (f_ 5 27),aU 19 29 24 false (l_ 28),am 20 30 24 false (k_ 29),am 21 31 24 false (.bin 3 2 (.t 25) (.t 30)),p_ 22 32 (.pick (.t 24) (.c (.bool true)) (.t 31)),p_ 23 33 (m_ 32),am 24 34 33 false (m_ 2),am 25 35 33 false (k_ 34),am 26 36 33 false (m_ 1),am 27 37 33 false (.bin 0 1 (i_ 400) (.t 36)),am 28 38 33 false (.bin 3 2 (.t 35) (.t 37)),p_ 29 39 (.pick (.t 33) (.c (.bool true)) (.t 38))]) (.cond (.t 39) (.seq (g_ 1 [p_ 0 8 (.mv (.c (.bool false)))]) .ret) .skip)) (.seq (.seq (g_ 8 [p_ 0 40 (m_ 0),p_ 1 41 (n_ 40),p_ 2 42 (f_ 5 41),r_ 3 43 (l_ 42),p_ 4 44 (k_ 43),p_ 5 45 (m_ 1),p_ 6 46 (.bin 0 1 (.t 44) (.t 45)),p_ 7 9 (m_ 46)]) (.seq (g_ 11 [p_ 0 47 (m_ 0),p_ 1 48 (n_ 47),p_ 2 49 (f_ 8 48),r_ 3 50 (l_ 49),p_ 4 51 (.un 0 (.t 50)),p_ 5 52 (m_ 51),am 6 53 52 true (m_ 9),am 7 54 52 true (m_ 2),am 8 55 52 true (k_ 54),am 9 56 52 true (.bin 3 0 (.t 53) (.t 55)),p_ 10 57 (.pick (.t 52) (.t 56) (.c (.bool false)))]) (.cond (.t 57) (h_ 13 [p_ 0 58 (m_ 0),p_ 1 59 (m_ 0),p_ 2 60 (n_ 59),p_ 3 61 (f_ 5 60),r_ 4 62 (l_ 61),p_ 5 63 (m_ 2),p_ 6 64 (m_ 9),r_ 7 65 (.sls 18 (.t 63) (some (.t 64)) none none),c_ 8 66 54 [.t 65],a_ 4 62 (l_ 61),e_ 9 67 (.app 68 18 104 (.t 62) (.t 66)),p_ 10 68 (n_ 58),p_ 11 69 (f_ 5 68),bm 12 (.st 1 (.t 69) (.t 67))]) .skip))) (.seq (h_ 16 [p_ 0 70 (m_ 0),p_ 1 71 (m_ 0),p_ 2 72 (n_ 71),p_ 3 73 (f_ 7 72),r_ 4 74 (l_ 73),p_ 5 75 (m_ 3),p_ 6 76 (m_ 0),p_ 7 77 (n_ 76),p_ 8 78 (f_ 5 77),r_ 9 79 (l_ 78),p_ 10 80 (k_ 79),p_ 11 81 (.mx false (.t 75) (.t 80)),p_ 12 82 (.mx true (.t 74) (.t 81)),p_ 13 83 (n_ 70),p_ 14 84 (f_ 7 83),bm 15 (.st 1 (.t 84) (.t 82))]) (.seq (g_ 1 [p_ 0 8 (.mv (.c (.bool true)))]) .ret))))) [(0,[.up 8]),(1,[.up 8])])
theorem xQ:aW Tryz.prog 109 AJ=true:=by kernel_rfl
structure qV where
 l:List Ke
 com:Int
 c0:Int
 c1:Int
 me:Int
 fr:Int
 h:Value
 v:List Ke
 c:Int
structure MR where
 q:Prop
 l:List Ke
 com:Int
def gj (p:qV) (r:MR):Prop:=((((p.l.length:Int) - p.fr)<(p.v.length:Int)∧r.l=p.l++p.v.drop ((p.l.length:Int) - p.fr).toNat)∨((p.v.length:Int)≤((p.l.length:Int) - p.fr)∧r.l=p.l))∧r.com=max p.com (min p.c (r.l.length:Int))∧r.l.length≤400
noncomputable def yU (p:qV):IE:=([.ptr 0 0,.sy (.int 0 p.fr),.sy (.imm p.h 18 Ke p.v ai),.sy (.int 0 p.c)],(vJ p.l p.com p.c0 p.c1 p.me),4)
noncomputable def BW (p:qV) (K:KE):Bool:=ah fun r:MR=>iP (gj p r) (K (.sy (.bool r.q)) (vJ r.l r.com p.c0 p.c1 p.me) 4) true
def rI (p:qV):Prop:=1≤p.me∧p.me<2∧0≤p.fr∧p.fr≤(p.l.length:Int)∧p.fr+(p.v.length:Int)≤400∧p.l.length≤400
theorem ll {p:qV} {K:KE} (hK:BW p K=true) (r:MR) (h:gj p r):K (.sy (.bool r.q)) (vJ r.l r.com p.c0 p.c1 p.me) 4=true:=aA h (au hK r)
theorem aaB (p:qV) (K:KE) (hpre:rI p) (hK:BW p K=true):(aY 1 (bg HK) bp 600 AJ (yU p).1 (yU p).2.1 (yU p).2.2 K)=true:=by
 refine Eq.trans (b:=(let z0:Bool:=(K (.sy (.bool (false=true))) (vJ p.l p.com p.c0 p.c1 p.me) 4);let z1:Bool:=(K (.sy (.bool (true=true))) (vJ p.l (max p.com (min p.c (p.l.length:Int))) p.c0 p.c1 p.me) 4);ac (qL [qI 1 p.me]) (iP (p.me=(0:Int)) z0 (iP (p.fr<(0:Int)) z0 (iP ((p.l.length:Int)<p.fr) z0 (mP (aL 0 ((400:Int) - p.fr)) (iP (((400:Int) - p.fr)<(p.v.length:Int)) z0 (mP (aL 0 ((p.l.length:Int) - p.fr)) (iP (((p.l.length:Int) - p.fr)<(p.v.length:Int)) (mP (0≤((p.l.length:Int) - p.fr)∧((p.l.length:Int) - p.fr)≤(p.v.length:Int)∧(p.v.length:Int)≤(p.v.length:Int)) (bf (([.sy (.imm (Rz p.h 18 (((p.l.length:Int) - p.fr).toNat) p.v.length) 18 Ke ((p.v.drop (((p.l.length:Int) - p.fr).toNat)).take (p.v.length - (((p.l.length:Int) - p.fr).toNat))) ai)],.leaf,0)) gC dS ei fun p1 r1=>mP (((.prow 2 p.l.length):SY)=(.prow 2 p.l.length)) (mP (r1.o.length=r1.o.length) (mP (p.l.length=p.l.length) (iP (r1.o=[]) z1 (ax fun m1:List Ke=>mP (bz (m1.map ai) (r1.o.map ai)) (mP (aC 104 (p.l.length+m1.length)) (K (.sy (.bool (true=true))) (Rm2 (p.l++m1) (max p.com (min p.c ((p.l++m1).length:Int))) p.c0 p.c1 p.me ((p.l++m1).length)) 4)))))))) z1))))))))) (by kernel_rfl) ?_
 dsimp only[rI]at hpre
 refine aG (by simp[qL,qI,qS,qY,aF]) ?_
 refine iI (fun hc1=> ?_) (fun hc1=> ?_)
 exact ll hK ⟨false=true,p.l,p.com⟩ (by dsimp only[gj]<;>(exfalso;omega))
 refine iI (fun hc2=> ?_) (fun hc2=> ?_)
 exact ll hK ⟨false=true,p.l,p.com⟩ (by dsimp only[gj]<;>(exfalso;omega))
 refine iI (fun hc3=> ?_) (fun hc3=> ?_)
 exact ll hK ⟨false=true,p.l,p.com⟩ (by dsimp only[gj]<;>(exfalso;omega))
 refine aQ ?_
 refine iI (fun hc4=> ?_) (fun hc4=> ?_)
 exact ll hK ⟨false=true,p.l,p.com⟩ (by dsimp only[gj]<;>(exfalso;omega))
 refine aQ ?_
 refine iI (fun hc5=> ?_) (fun hc5=> ?_)
 refine mI (by(first|omega|(simp[aC]<;>omega))) ?_
 refine aB (⟨Rz p.h 18 (((p.l.length:Int) - p.fr).toNat) p.v.length,(p.v.drop (((p.l.length:Int) - p.fr).toNat)).take (p.v.length - (((p.l.length:Int) - p.fr).toNat))⟩:eM) rfl (by(try dsimp only[dS]);first|omega|(simp only[aky,akG];omega)) fun r1 hi6=> ?_
 dsimp only[ei]at hi6
 refine aK (mI (by(first|omega|(simp[aC]<;>omega))) (aK ?_))
 refine iI (fun hc7=> ?_) (fun hc7=> ?_)
 have hc7l:(r1.o).length=0:=(by rw[hc7];rfl)
 exact ll hK ⟨true=true,p.l,max p.com (min p.c (p.l.length:Int))⟩ (by dsimp only[gj]<;>(first|exact⟨.inr ⟨by omega,rfl⟩,rfl,by omega⟩|(exfalso;omega)|(exfalso;have hz:=hi6.2;simp only[aky,akG]at hz;omega)))
 have hc7l:0<(r1.o).length:=List.length_pos_iff.2 hc7
 refine aH r1.o ?_
 refine mI (show bz (r1.o.map ai) (r1.o.map ai) from cR _) (mI (by(try dsimp only);have hz:=hi6.2;simp only[aky,akG]at hz;unfold aC;omega) ?_)
 exact ll hK ⟨true=true,p.l++r1.o,max p.com (min p.c ((p.l++r1.o).length:Int))⟩ (by dsimp only[gj]<;>(first|(exfalso;omega)|(exfalso;have hz:=hi6.2;simp only[aky,akG]at hz;omega)|exact⟨.inl ⟨by omega,congrArg _ (hi6.1.trans (List.take_of_length_le (by simp)))⟩,rfl,by have hz:=hi6.2;simp only[aky,akG]at hz;simp only[akk];omega⟩))
 exact ll hK ⟨true=true,p.l,max p.com (min p.c (p.l.length:Int))⟩ (by dsimp only[gj]<;>(first|exact⟨.inr ⟨by omega,rfl⟩,rfl,by omega⟩|(exfalso;omega)|(exfalso;have hz:=hi0.2;simp only[aky,akG]at hz;omega)))
noncomputable def Ic:aM:=bn (mF 1 2) (be yU (cm rI BW)) (fun _ _ _ _=>false)
theorem Qu:aX Tryz.prog 109 1 Ic:=aD (bi (f:=109) (k:=1) (ay GE) xQ (by rfl) (by rfl) aaB) dT
noncomputable def CM:=aZ HK 1 Ic 109 [(0,4),(1,20),(2,23),(3,20)]
theorem CL:aE Tryz.prog CM:=az Qu GE
def RH:XF:=AJ
theorem UH:aW Tryz.prog 109 RH=true:=xQ
structure qU where
 l:List Ke
 com:Int
 c0:Int
 c1:Int
 c2:Int
 me:Int
 fr:Int
 h:Value
 v:List Ke
 c:Int
structure MQ where
 q:Prop
 l:List Ke
 com:Int
def gi (p:qU) (r:MQ):Prop:=((((p.l.length:Int) - p.fr)<(p.v.length:Int)∧r.l=p.l++p.v.drop ((p.l.length:Int) - p.fr).toNat)∨((p.v.length:Int)≤((p.l.length:Int) - p.fr)∧r.l=p.l))∧r.com=max p.com (min p.c (r.l.length:Int))∧r.l.length≤400
noncomputable def yT (p:qU):IE:=([.ptr 0 0,.sy (.int 0 p.fr),.sy (.imm p.h 18 Ke p.v ai),.sy (.int 0 p.c)],(vI p.l p.com p.c0 p.c1 p.c2 p.me),4)
noncomputable def BV (p:qU) (K:KE):Bool:=ah fun r:MQ=>iP (gi p r) (K (.sy (.bool r.q)) (vI r.l r.com p.c0 p.c1 p.c2 p.me) 4) true
def rH (p:qU):Prop:=1≤p.me∧p.me<3∧0≤p.fr∧p.fr≤(p.l.length:Int)∧p.fr+(p.v.length:Int)≤400∧p.l.length≤400
theorem lj {p:qU} {K:KE} (hK:BV p K=true) (r:MQ) (h:gi p r):K (.sy (.bool r.q)) (vI r.l r.com p.c0 p.c1 p.c2 p.me) 4=true:=aA h (au hK r)
theorem aaA (p:qU) (K:KE) (hpre:rH p) (hK:BV p K=true):(aY 1 (bg CM) bp 600 RH (yT p).1 (yT p).2.1 (yT p).2.2 K)=true:=by
 refine Eq.trans (b:=(let z0:Bool:=(K (.sy (.bool (false=true))) (vI p.l p.com p.c0 p.c1 p.c2 p.me) 4);let z1:Bool:=(K (.sy (.bool (true=true))) (vI p.l (max p.com (min p.c (p.l.length:Int))) p.c0 p.c1 p.c2 p.me) 4);ac (qL [qI 1 p.me]) (iP (p.me=(0:Int)) z0 (iP (p.fr<(0:Int)) z0 (iP ((p.l.length:Int)<p.fr) z0 (mP (aL 0 ((400:Int) - p.fr)) (iP (((400:Int) - p.fr)<(p.v.length:Int)) z0 (mP (aL 0 ((p.l.length:Int) - p.fr)) (iP (((p.l.length:Int) - p.fr)<(p.v.length:Int)) (mP (0≤((p.l.length:Int) - p.fr)∧((p.l.length:Int) - p.fr)≤(p.v.length:Int)∧(p.v.length:Int)≤(p.v.length:Int)) (bf (([.sy (.imm (Rz p.h 18 (((p.l.length:Int) - p.fr).toNat) p.v.length) 18 Ke ((p.v.drop (((p.l.length:Int) - p.fr).toNat)).take (p.v.length - (((p.l.length:Int) - p.fr).toNat))) ai)],.leaf,0)) gC dS ei fun p1 r1=>mP (((.prow 2 p.l.length):SY)=(.prow 2 p.l.length)) (mP (r1.o.length=r1.o.length) (mP (p.l.length=p.l.length) (iP (r1.o=[]) z1 (ax fun m1:List Ke=>mP (bz (m1.map ai) (r1.o.map ai)) (mP (aC 104 (p.l.length+m1.length)) (K (.sy (.bool (true=true))) (Rm3 (p.l++m1) (max p.com (min p.c ((p.l++m1).length:Int))) p.c0 p.c1 p.c2 p.me ((p.l++m1).length)) 4)))))))) z1))))))))) (by kernel_rfl) ?_
 dsimp only[rH]at hpre
 refine aG (by simp[qL,qI,qS,qY,aF]) ?_
 refine iI (fun hc1=> ?_) (fun hc1=> ?_)
 exact lj hK ⟨false=true,p.l,p.com⟩ (by dsimp only[gi]<;>(exfalso;omega))
 refine iI (fun hc2=> ?_) (fun hc2=> ?_)
 exact lj hK ⟨false=true,p.l,p.com⟩ (by dsimp only[gi]<;>(exfalso;omega))
 refine iI (fun hc3=> ?_) (fun hc3=> ?_)
 exact lj hK ⟨false=true,p.l,p.com⟩ (by dsimp only[gi]<;>(exfalso;omega))
 refine aQ ?_
 refine iI (fun hc4=> ?_) (fun hc4=> ?_)
 exact lj hK ⟨false=true,p.l,p.com⟩ (by dsimp only[gi]<;>(exfalso;omega))
 refine aQ ?_
 refine iI (fun hc5=> ?_) (fun hc5=> ?_)
 refine mI (by(first|omega|(simp[aC]<;>omega))) ?_
 refine aB (⟨Rz p.h 18 (((p.l.length:Int) - p.fr).toNat) p.v.length,(p.v.drop (((p.l.length:Int) - p.fr).toNat)).take (p.v.length - (((p.l.length:Int) - p.fr).toNat))⟩:eM) rfl (by(try dsimp only[dS]);first|omega|(simp only[aky,akG];omega)) fun r1 hi6=> ?_
 dsimp only[ei]at hi6
 refine aK (mI (by(first|omega|(simp[aC]<;>omega))) (aK ?_))
 refine iI (fun hc7=> ?_) (fun hc7=> ?_)
 have hc7l:(r1.o).length=0:=(by rw[hc7];rfl)
 exact lj hK ⟨true=true,p.l,max p.com (min p.c (p.l.length:Int))⟩ (by dsimp only[gi]<;>(first|exact⟨.inr ⟨by omega,rfl⟩,rfl,by omega⟩|(exfalso;omega)|(exfalso;have hz:=hi6.2;simp only[aky,akG]at hz;omega)))
 have hc7l:0<(r1.o).length:=List.length_pos_iff.2 hc7
 refine aH r1.o ?_
 refine mI (show bz (r1.o.map ai) (r1.o.map ai) from cR _) (mI (by(try dsimp only);have hz:=hi6.2;simp only[aky,akG]at hz;unfold aC;omega) ?_)
 exact lj hK ⟨true=true,p.l++r1.o,max p.com (min p.c ((p.l++r1.o).length:Int))⟩ (by dsimp only[gi]<;>(first|(exfalso;omega)|(exfalso;have hz:=hi6.2;simp only[aky,akG]at hz;omega)|exact⟨.inl ⟨by omega,congrArg _ (hi6.1.trans (List.take_of_length_le (by simp)))⟩,rfl,by have hz:=hi6.2;simp only[aky,akG]at hz;simp only[akk];omega⟩))
 exact lj hK ⟨true=true,p.l,max p.com (min p.c (p.l.length:Int))⟩ (by dsimp only[gi]<;>(first|exact⟨.inr ⟨by omega,rfl⟩,rfl,by omega⟩|(exfalso;omega)|(exfalso;have hz:=hi0.2;simp only[aky,akG]at hz;omega)))
noncomputable def Ib:aM:=bn (mF 1 3) (be yT (cm rH BV)) Ic
theorem Qt:aX Tryz.prog 109 1 Ib:=aD (bi (f:=109) (k:=1) (ay CL) UH (by rfl) (by rfl) aaA) Qu
noncomputable def CK:=aZ CM 1 Ib 109 [(0,4),(1,20),(2,23),(3,20)]
theorem CJ:aE Tryz.prog CK:=az Qt CL
def RG:XF:=AJ
theorem UG:aW Tryz.prog 109 RG=true:=xQ
structure qT where
 l:List Ke
 com:Int
 c0:Int
 c1:Int
 c2:Int
 c3:Int
 me:Int
 fr:Int
 h:Value
 v:List Ke
 c:Int
structure MP where
 q:Prop
 l:List Ke
 com:Int
def gh (p:qT) (r:MP):Prop:=((((p.l.length:Int) - p.fr)<(p.v.length:Int)∧r.l=p.l++p.v.drop ((p.l.length:Int) - p.fr).toNat)∨((p.v.length:Int)≤((p.l.length:Int) - p.fr)∧r.l=p.l))∧r.com=max p.com (min p.c (r.l.length:Int))∧r.l.length≤400
noncomputable def yS (p:qT):IE:=([.ptr 0 0,.sy (.int 0 p.fr),.sy (.imm p.h 18 Ke p.v ai),.sy (.int 0 p.c)],(vH p.l p.com p.c0 p.c1 p.c2 p.c3 p.me),4)
noncomputable def BU (p:qT) (K:KE):Bool:=ah fun r:MP=>iP (gh p r) (K (.sy (.bool r.q)) (vH r.l r.com p.c0 p.c1 p.c2 p.c3 p.me) 4) true
def rG (p:qT):Prop:=1≤p.me∧p.me<4∧0≤p.fr∧p.fr≤(p.l.length:Int)∧p.fr+(p.v.length:Int)≤400∧p.l.length≤400
theorem li {p:qT} {K:KE} (hK:BU p K=true) (r:MP) (h:gh p r):K (.sy (.bool r.q)) (vH r.l r.com p.c0 p.c1 p.c2 p.c3 p.me) 4=true:=aA h (au hK r)
theorem aaz (p:qT) (K:KE) (hpre:rG p) (hK:BU p K=true):(aY 1 (bg CK) bp 600 RG (yS p).1 (yS p).2.1 (yS p).2.2 K)=true:=by
 refine Eq.trans (b:=(let z0:Bool:=(K (.sy (.bool (false=true))) (vH p.l p.com p.c0 p.c1 p.c2 p.c3 p.me) 4);let z1:Bool:=(K (.sy (.bool (true=true))) (vH p.l (max p.com (min p.c (p.l.length:Int))) p.c0 p.c1 p.c2 p.c3 p.me) 4);ac (qL [qI 1 p.me]) (iP (p.me=(0:Int)) z0 (iP (p.fr<(0:Int)) z0 (iP ((p.l.length:Int)<p.fr) z0 (mP (aL 0 ((400:Int) - p.fr)) (iP (((400:Int) - p.fr)<(p.v.length:Int)) z0 (mP (aL 0 ((p.l.length:Int) - p.fr)) (iP (((p.l.length:Int) - p.fr)<(p.v.length:Int)) (mP (0≤((p.l.length:Int) - p.fr)∧((p.l.length:Int) - p.fr)≤(p.v.length:Int)∧(p.v.length:Int)≤(p.v.length:Int)) (bf (([.sy (.imm (Rz p.h 18 (((p.l.length:Int) - p.fr).toNat) p.v.length) 18 Ke ((p.v.drop (((p.l.length:Int) - p.fr).toNat)).take (p.v.length - (((p.l.length:Int) - p.fr).toNat))) ai)],.leaf,0)) gC dS ei fun p1 r1=>mP (((.prow 2 p.l.length):SY)=(.prow 2 p.l.length)) (mP (r1.o.length=r1.o.length) (mP (p.l.length=p.l.length) (iP (r1.o=[]) z1 (ax fun m1:List Ke=>mP (bz (m1.map ai) (r1.o.map ai)) (mP (aC 104 (p.l.length+m1.length)) (K (.sy (.bool (true=true))) (Rm4 (p.l++m1) (max p.com (min p.c ((p.l++m1).length:Int))) p.c0 p.c1 p.c2 p.c3 p.me ((p.l++m1).length)) 4)))))))) z1))))))))) (by kernel_rfl) ?_
 dsimp only[rG]at hpre
 refine aG (by simp[qL,qI,qS,qY,aF]) ?_
 refine iI (fun hc1=> ?_) (fun hc1=> ?_)
 exact li hK ⟨false=true,p.l,p.com⟩ (by dsimp only[gh]<;>(exfalso;omega))
 refine iI (fun hc2=> ?_) (fun hc2=> ?_)
 exact li hK ⟨false=true,p.l,p.com⟩ (by dsimp only[gh]<;>(exfalso;omega))
 refine iI (fun hc3=> ?_) (fun hc3=> ?_)
 exact li hK ⟨false=true,p.l,p.com⟩ (by dsimp only[gh]<;>(exfalso;omega))
 refine aQ ?_
 refine iI (fun hc4=> ?_) (fun hc4=> ?_)
 exact li hK ⟨false=true,p.l,p.com⟩ (by dsimp only[gh]<;>(exfalso;omega))
 refine aQ ?_
 refine iI (fun hc5=> ?_) (fun hc5=> ?_)
 refine mI (by(first|omega|(simp[aC]<;>omega))) ?_
 refine aB (⟨Rz p.h 18 (((p.l.length:Int) - p.fr).toNat) p.v.length,(p.v.drop (((p.l.length:Int) - p.fr).toNat)).take (p.v.length - (((p.l.length:Int) - p.fr).toNat))⟩:eM) rfl (by(try dsimp only[dS]);first|omega|(simp only[aky,akG];omega)) fun r1 hi6=> ?_
 dsimp only[ei]at hi6
 refine aK (mI (by(first|omega|(simp[aC]<;>omega))) (aK ?_))
 refine iI (fun hc7=> ?_) (fun hc7=> ?_)
 have hc7l:(r1.o).length=0:=(by rw[hc7];rfl)
 exact li hK ⟨true=true,p.l,max p.com (min p.c (p.l.length:Int))⟩ (by dsimp only[gh]<;>(first|exact⟨.inr ⟨by omega,rfl⟩,rfl,by omega⟩|(exfalso;omega)|(exfalso;have hz:=hi6.2;simp only[aky,akG]at hz;omega)))
 have hc7l:0<(r1.o).length:=List.length_pos_iff.2 hc7
 refine aH r1.o ?_
 refine mI (show bz (r1.o.map ai) (r1.o.map ai) from cR _) (mI (by(try dsimp only);have hz:=hi6.2;simp only[aky,akG]at hz;unfold aC;omega) ?_)
 exact li hK ⟨true=true,p.l++r1.o,max p.com (min p.c ((p.l++r1.o).length:Int))⟩ (by dsimp only[gh]<;>(first|(exfalso;omega)|(exfalso;have hz:=hi6.2;simp only[aky,akG]at hz;omega)|exact⟨.inl ⟨by omega,congrArg _ (hi6.1.trans (List.take_of_length_le (by simp)))⟩,rfl,by have hz:=hi6.2;simp only[aky,akG]at hz;simp only[akk];omega⟩))
 exact li hK ⟨true=true,p.l,max p.com (min p.c (p.l.length:Int))⟩ (by dsimp only[gh]<;>(first|exact⟨.inr ⟨by omega,rfl⟩,rfl,by omega⟩|(exfalso;omega)|(exfalso;have hz:=hi0.2;simp only[aky,akG]at hz;omega)))
noncomputable def SX:aM:=bn (mF 1 4) (be yS (cm rG BU)) Ib
theorem abJ:aX Tryz.prog 109 1 SX:=aD (bi (f:=109) (k:=1) (ay CJ) UG (by rfl) (by rfl) aaz) Qt
noncomputable def CI:=aZ CK 1 SX 109 [(0,4),(1,20),(2,23),(3,20)]
theorem CH:aE Tryz.prog CI:=az abJ CJ
def EB (x:Ke):Prop:=0≤x.v∧x.v≤15∧1≤x.w∧x.w≤60000
def Bn (l:List Ke):Prop:=∀x∈l,EB x
def Wa:XF:=.mk 52 (.one 4) (.seq (g_ 3 [e_ 0 2 (.box 68 (.t 0)),e_ 1 3 (.box 68 (.t 1)),p_ 2 4 (.mv (.c (.bool false)))]) (.seq (g_ 48 [p_ 0 5 (f_ 0 2),r_ 1 6 (l_ 5),p_ 2 7 (f_ 0 3),r_ 3 8 (l_ 7),p_ 4 9 (.bin 3 4 (.t 6) (.t 8)),p_ 5 10 (m_ 9),am 6 11 10 true (f_ 1 2),aU 7 12 10 true (.ld true 10 (.t 11)),am 8 13 10 true (f_ 1 3),aU 9 14 10 true (.ld true 10 (.t 13)),am 10 15 10 true (.eqs false 4 (.st [(0,2,true,.st [(0,1,false,.int),(1,1,false,.int)]),(2,1,false,.int),(3,1,false,.int),(4,6,true,.ar [0,2,4] 2 true (.st [(0,1,false,.int),(1,1,false,.int)]))]) (.t 12) (.t 14)),p_ 11 16 (.pick (.t 10) (.t 15) (.c (.bool false))),p_ 12 17 (m_ 16),am 13 18 17 true (f_ 11 2),aU 14 19 17 true (l_ 18),am 15 20 17 true (f_ 11 3),aU 16 21 17 true (l_ 20),am 17 22 17 true (.bin 3 4 (.t 19) (.t 21)),p_ 18 23 (.pick (.t 17) (.t 22) (.c (.bool false))),p_ 19 24 (m_ 23),am 20 25 24 true (f_ 12 2),aU 21 26 24 true (l_ 25),am 22 27 24 true (f_ 12 3),aU 23 28 24 true (l_ 27),da 24 29 24 true 55 [.t 26,.t 28],p_ 25 30 (.pick (.t 24) (.t 29) (.c (.bool false))),p_ 26 31 (m_ 30),am 27 32 31 true (f_ 13 2),aU 28 33 31 true (.ld true 2 (.t 32)),am 29 34 31 true (f_ 13 3),aU 30 35 31 true (.ld true 2 (.t 34)),am 31 36 31 true (.eqs false 2 (.st [(0,1,false,.int),(1,1,false,.str)]) (.t 33) (.t 35)),p_ 32 37 (.pick (.t 31) (.t 36) (.c (.bool false))),p_ 33 38 (m_ 37),am 34 39 38 true (f_ 15 2),aU 35 40 38 true (l_ 39),am 36 41 38 true (f_ 15 3),aU 37 42 38 true (l_ 41),da 38 43 38 true 56 [.t 40,.t 42],p_ 39 44 (.pick (.t 38) (.t 43) (.c (.bool false))),p_ 40 45 (m_ 44),am 41 46 45 true (f_ 16 2),aU 42 47 45 true (.ld true 2 (.t 46)),am 43 48 45 true (f_ 16 3),aU 44 49 45 true (.ld true 2 (.t 48)),am 45 50 45 true (.eqs false 2 (.st [(0,1,false,.int),(1,1,false,.int)]) (.t 47) (.t 49)),p_ 46 51 (.pick (.t 45) (.t 50) (.c (.bool false))),p_ 47 4 (m_ 51)]) .ret))
theorem XR:aW Tryz.prog 37 Wa=true:=by kernel_rfl
structure zD where
 x:Ke
 y:Ke
noncomputable def EC (p:zD):IE:=([gK p.x.v p.x.w,gK p.y.v p.y.w],.leaf,0)
noncomputable def Qg (p:zD) (K:KE):Bool:=K (.bool true) .leaf 0
def uk (p:zD):Prop:=p.x=p.y
theorem adp (p:zD) (K:KE) (hpre:uk p) (hK:Qg p K=true):(aY 0 (bg CI) bp 600 Wa (EC p).1 (EC p).2.1 (EC p).2.2 K)=true:=by
 refine Eq.trans (b:=(iP (p.x.v=p.y.v) (iP (p.x.w=p.y.w) (K (.bool true) .leaf 0) (K (.bool false) .leaf 0)) (K (.bool false) .leaf 0))) (by kernel_rfl) ?_
 dsimp only[uk]at hpre
 have e1:=congrArg Ke.v hpre
 have e2:=congrArg Ke.w hpre
 refine iI (fun hc1=> ?_) (fun hc1=> ?_)
 refine iI (fun hc2=> ?_) (fun hc2=> ?_)
 exact hK
 exfalso;omega
 exfalso;omega
noncomputable def Av:=aZ CI 0 (be EC (cm uk Qg)) 37 [(0,15),(1,15)]
theorem xO:aE Tryz.prog Av:=az (bi (f:=37) (k:=0) (ay CH) XR (by rfl) (by rfl) adp) CH
def Je:XC:=(.aft (.seq (g_ 1 [p_ 0 18 (.bin 3 0 (.t 17) (.t 16))]) (.seq (.cond (.t 18) .skip (.exit 2)) (.seq (.block 3 (.seq (g_ 6 [p_ 0 19 (m_ 17),p_ 1 20 (.ixs 18 (.t 15) (.t 17)),r_ 2 21 (.ld true 18 (.t 20)),e_ 3 8 (.al 68 [.int 1 (.ofNat 0),.int 1 (.ofNat 0),.int 2 (.ofNat 0),.int 3 (.ofNat 0),.int 1 (.ofNat 0),.int 1 (.ofNat 0),.int 1 (.ofNat 0),.int 1 (.ofNat 0),.int 1 (.ofNat 0),.int 1 (.ofNat 0),.int 1 (.ofNat 0),.int 3 (.ofNat 0),.nilS,.int 1 (.ofNat 0),.str [],.nilS,.int 1 (.ofNat 0),.int 2 (.ofNat 0)]),p_ 4 7 (m_ 19),bm 5 (.st 18 (.t 8) (.t 21))]) (.seq (g_ 6 [p_ 0 22 (m_ 1),p_ 1 23 (m_ 7),p_ 2 24 (.ixs 18 (.t 22) (.t 23)),r_ 3 25 (.ld true 18 (.t 24)),e_ 4 9 (.al 68 [.int 1 (.ofNat 0),.int 1 (.ofNat 0),.int 2 (.ofNat 0),.int 3 (.ofNat 0),.int 1 (.ofNat 0),.int 1 (.ofNat 0),.int 1 (.ofNat 0),.int 1 (.ofNat 0),.int 1 (.ofNat 0),.int 1 (.ofNat 0),.int 1 (.ofNat 0),.int 3 (.ofNat 0),.nilS,.int 1 (.ofNat 0),.str [],.nilS,.int 1 (.ofNat 0),.int 2 (.ofNat 0)]),bm 5 (.st 18 (.t 9) (.t 25))]) (.seq (g_ 5 [p_ 0 26 (m_ 2),r_ 1 27 (.ld true 18 (.t 8)),r_ 2 28 (.ld true 18 (.t 9)),.k 3 (some 29) none 26 [37] [.t 27,.t 28],p_ 4 30 (.un 0 (.t 29))]) (.cond (.t 30) (.seq (g_ 1 [p_ 0 6 (.mv (.c (.bool false)))]) .ret) .skip))))) (g_ 2 [p_ 0 31 (.bin 0 0 (.t 17) (i_ 1)),p_ 1 17 (m_ 31)])))) [(0,[.can 0 [1,2,15,16,17]]),(1,[.can 0 [6]]),(2,[.can 0 []])])
def ZK:XF:=.mk 32 (.one 6) (.seq (g_ 1 [p_ 0 6 (.mv (.c (.bool false)))]) (.seq (.seq (g_ 5 [p_ 0 10 (m_ 0),p_ 1 11 (k_ 10),p_ 2 12 (m_ 1),p_ 3 13 (k_ 12),p_ 4 14 (.bin 3 5 (.t 11) (.t 13))]) (.cond (.t 14) (.seq (g_ 1 [p_ 0 6 (.mv (.c (.bool false)))]) .ret) .skip)) (.seq (.seq (g_ 3 [p_ 0 15 (m_ 0),p_ 1 16 (k_ 15),p_ 2 17 (.mv (i_ 0))]) (.block 2 (.pre [.can 0 [1,2,15,16,17],.up 17,.can 0 [1,2,15,16,17]] (.inv 0 Je)))) (.seq (g_ 1 [p_ 0 6 (.mv (.c (.bool true)))]) .ret))))
theorem ZJ:aW Tryz.prog 36 ZK=true:=by kernel_rfl
structure iX where
 h1:Value
 l1:List Ke
 h2:Value
 l2:List Ke
 i:Int
noncomputable def mB (p:iX):IL:=((.cons 17 (.sy (.int 0 p.i)) (.cons 16 (.sy (.int 0 (p.l1.length:Int))) (.cons 15 (.sy (.imm p.h1 18 Ke p.l1 ai)) (.cons 2 (.fn 37 []) (.cons 1 (.sy (.imm p.h2 18 Ke p.l2 ai)) .nil))))),.leaf,0)
noncomputable def CB (p:iX) (K:KC):Bool:=K 2 .nil .leaf 0
def kH (p:iX):Prop:=p.l1=p.l2∧p.l1.length=p.l2.length∧0≤p.i∧p.i≤(p.l1.length:Int)∧p.l1.length≤1000000
noncomputable def zG (p:iX) (K:KC):Bool:=ac (aF (kH p)) (CB p K)
noncomputable def Kl:gB:=fun j S M nx K=>(Bool.rec (false) (ax fun p:iX=>ac (aF ((S,M,nx)=mB p)) (zG p K)) (Nat.beq j 0))
def jr (p:iX):Nat:=((p.l1.length:Int) - p.i).toNat
noncomputable def TH (s:IL) (n:Nat) (K:KC):Bool:=ax fun q=>mP (s=mB q∧jr q<n) (zG q K)
theorem acx {p q:iX} {K:KC} {s:IL} (hm:jr q<jr p:=by dsimp only[jr]<;>(omega)) (hp:kH q:=by dsimp only[kH]<;>(exact⟨g5,g0,by omega,by omega,g3⟩)) (hK:CB q K=true:=by exact hK) (e:s=mB q:=by rfl):TH s (jr p) K=true:=aH q (bT ⟨e,hm⟩ (bT hp hK))
theorem abj (p:iX) (K:KC) (hpre:kH p) (hK:CB p K=true):(cC (bg Av) Kl 600 Je (mB p).1 (mB p).2.1 (mB p).2.2 (fun e S M nx=>Nat.casesOn e (ax fun q:iX=>ac (aF ((S,M,nx)=mB q∧jr q<jr p)) (zG q K)) (fun e2=>K (Nat.succ e2) S M nx)))=true:=by
 refine Eq.trans (b:=(iP (p.i<(p.l1.length:Int)) (mP (0≤p.i∧p.i<(p.l1.length:Int)) (ah fun x1:Ke=>iP (p.l1[p.i.toNat]?=some x1) (mP (0≤p.i∧p.i<(p.l2.length:Int)) (ah fun x2:Ke=>iP (p.l2[p.i.toNat]?=some x2) (ax fun p1:zD=>mP (([gK x1.v x1.w,gK x2.v x2.w],.leaf,0)=EC p1) (mP (uk p1) (mP (aL 0 (p.i+(1:Int))) (TH ((.cons 17 (.sy (.int 0 (p.i+(1:Int)))) (.cons 16 (.sy (.int 0 (p.l1.length:Int))) (.cons 15 (.sy (.imm p.h1 18 Ke p.l1 ai)) (.cons 2 (.fn 37 []) (.cons 1 (.sy (.imm p.h2 18 Ke p.l2 ai)) .nil))))),.leaf,0) (jr p) K)))) true)) true)) (K 2 .nil .leaf 0))) (by kernel_rfl) ?_
 dsimp only[kH]at hpre
 obtain⟨g5,g0,g1,g2,g3⟩:=hpre
 refine iI (fun hc1=> ?_) (fun hc1=> ?_)
 refine gy ?_
 refine aj (fun x1=> ?_)
 refine iI (fun hi2=> ?_) (fun _=>rfl)
 refine gy ?_
 refine aj (fun x2=> ?_)
 refine iI (fun hi3=> ?_) (fun _=>rfl)
 refine aP (⟨x1,x2⟩:zD) rfl (by(try dsimp only[uk]);rw[g5]at hi2;exact akE (hi2.symm.trans hi3)) ?_
 refine aQ ?_
 exact acx (q:=⟨p.h1,p.l1,p.h2,p.l2,p.i+(1:Int)⟩)
 exact hK
theorem abY:dp Tryz.prog 32 0 Kl true 0 Je:=by
 exact gD (lf:=600) bD (ay xO) (by rfl) mB jr zG (fun b j x h=>by cases h) (fun S M nx K h=>by obtain⟨p,h⟩:=bJ h;exact⟨p,(ae h).1,(ae h).2⟩) (fun p K h=>abj p K (ae h).1 (ae h).2)
structure ee where
 h1:Value
 l1:List Ke
 h2:Value
 l2:List Ke
noncomputable def jy (p:ee):IE:=([.sy (.imm p.h1 18 Ke p.l1 ai),.sy (.imm p.h2 18 Ke p.l2 ai),.fn 37 []],.leaf,0)
noncomputable def VL (p:ee) (K:KE):Bool:=K (.bool true) .leaf 0
def cW (p:ee):Prop:=p.l1=p.l2∧p.l1.length≤1000000
theorem af5 (p:ee) (K:KE) (hpre:cW p) (hK:VL p K=true):(aY 0 (bg Av) Kl 600 ZK (jy p).1 (jy p).2.1 (jy p).2.2 K)=true:=by
 refine Eq.trans (b:=(iP (¬(p.l1.length:Int)=(p.l2.length:Int)) (K (.bool false) .leaf 0) (ax fun p1:iX=>mP (((.cons 17 (.sy (.int 0 0)) (.cons 16 (.sy (.int 0 (p.l1.length:Int))) (.cons 15 (.sy (.imm p.h1 18 Ke p.l1 ai)) (.cons 2 (.fn 37 []) (.cons 1 (.sy (.imm p.h2 18 Ke p.l2 ai)) .nil))))),.leaf,0)=mB p1) (mP (kH p1) (K (.bool true) .leaf 0))))) (by kernel_rfl) ?_
 dsimp only[cW]at hpre
 obtain⟨u1,u2⟩:=hpre
 have u3:=congrArg List.length u1
 refine iI (fun hc1=> ?_) (fun hc1=> ?_)
 exfalso;omega
 refine aP (⟨p.h1,p.l1,p.h2,p.l2,(0:Int)⟩:iX) rfl (by(try dsimp only[kH]);exact⟨u1,by omega,by omega,by omega,by omega⟩) ?_
 exact hK
noncomputable def Fj:=aZ Av 0 (be jy (cm cW VL)) 36 [(0,23),(1,23)]
theorem AE:aE Tryz.prog Fj:=az (cS (f:=36) (k:=0) (lp:=Kl) (lf:=600) bD (ay xO) ZJ (by rfl) (fun b j x h=>(bZ abY (fun h=>(by cases h)) h)) fun p K h=>af5 p K (ae h).1 (ae h).2) xO
def Jf:XC:=(.aft (.seq (g_ 1 [p_ 0 9 (.bin 3 0 (.t 8) (.t 7))]) (.seq (.cond (.t 9) .skip (.exit 2)) (.seq (.block 3 (.seq (g_ 2 [p_ 0 10 (m_ 8),p_ 1 5 (m_ 10)]) (.seq (g_ 6 [p_ 0 11 (m_ 1),p_ 1 12 (m_ 0),p_ 2 13 (m_ 5),p_ 3 14 (.ixs 18 (.t 12) (.t 13)),r_ 4 15 (.ld true 18 (.t 14)),.k 5 (some 16) none 11 [181] [.t 15]]) (.cond (.t 16) (.seq (g_ 2 [p_ 0 17 (m_ 5),p_ 1 4 (m_ 17)]) .ret) .skip)))) (g_ 2 [p_ 0 18 (.bin 0 0 (.t 8) (i_ 1)),p_ 1 8 (m_ 18)])))) [(0,[.can 1 [0,1,7,8]]),(1,[.can 1 [4]]),(2,[.can 1 []])])
def ZM:XF:=.mk 19 (.one 4) (.seq (g_ 1 [p_ 0 4 (.mv (i_ 0))]) (.seq (.seq (g_ 3 [p_ 0 6 (m_ 0),p_ 1 7 (k_ 6),p_ 2 8 (.mv (i_ 0))]) (.block 2 (.pre [.can 1 [0,1,7,8],.up 8,.can 1 [0,1,7,8]] (.inv 0 Jf)))) (.seq (g_ 1 [p_ 0 4 (.mv (.c (.int 0 (.negSucc 0))))]) .ret)))
theorem ZL:aW Tryz.prog 183 ZM=true:=by kernel_rfl
structure iY where
 h:Value
 l:List Ke
 i:Int
noncomputable def mC (p:iY):IL:=((.cons 8 (.sy (.int 0 p.i)) (.cons 7 (.sy (.int 0 (p.l.length:Int))) (.cons 1 (.fn 181 [.ptr 0 0]) (.cons 0 (.sy (.imm p.h 18 Ke p.l ai)) .nil)))),(.node .leaf (some (.blk false 5 1 [[aa]])) .leaf),1)
noncomputable def CC (p:iY) (K:KC):Bool:=K 2 .nil (.node .leaf (some (.blk false 5 1 [[aa]])) .leaf) 1
def kI (p:iY):Prop:=Bn p.l∧p.l.length≤400∧0≤p.i∧p.i≤(p.l.length:Int)
noncomputable def zH (p:iY) (K:KC):Bool:=ac (aF (kI p)) (CC p K)
noncomputable def Km:gB:=fun j S M nx K=>(Bool.rec (false) (ax fun p:iY=>ac (aF ((S,M,nx)=mC p)) (zH p K)) (Nat.beq j 0))
def js (p:iY):Nat:=((p.l.length:Int) - p.i).toNat
noncomputable def TI (s:IL) (n:Nat) (K:KC):Bool:=ax fun q=>mP (s=mC q∧js q<n) (zH q K)
theorem acy {p q:iY} {K:KC} {s:IL} (hm:js q<js p:=by dsimp only[js]<;>(omega)) (hp:kI q:=by dsimp only[kI]<;>(exact⟨g0,g1,by omega,by omega⟩)) (hK:CC q K=true:=by exact hK) (e:s=mC q:=by rfl):TI s (js p) K=true:=aH q (bT ⟨e,hm⟩ (bT hp hK))
theorem abk (p:iY) (K:KC) (hpre:kI p) (hK:CC p K=true):(cC (bg Fj) Km 600 Jf (mC p).1 (mC p).2.1 (mC p).2.2 (fun e S M nx=>Nat.casesOn e (ax fun q:iY=>ac (aF ((S,M,nx)=mC q∧js q<js p)) (zH q K)) (fun e2=>K (Nat.succ e2) S M nx)))=true:=by
 refine Eq.trans (b:=(let z0:Bool:=(K 1 (.cons 4 (.sy (.int 0 p.i)) .nil) (.node .leaf (some (.blk false 5 1 [[aa]])) .leaf) 1);iP (p.i<(p.l.length:Int)) (mP (0≤p.i∧p.i<(p.l.length:Int)) (ah fun x1:Ke=>iP (p.l[p.i.toNat]?=some x1) (iP (x1.v<(16:Int)) (iP ((0:Int)<x1.w) (mP (aL 0 (p.i+(1:Int))) (TI ((.cons 8 (.sy (.int 0 (p.i+(1:Int)))) (.cons 7 (.sy (.int 0 (p.l.length:Int))) (.cons 1 (.fn 181 [.ptr 0 0]) (.cons 0 (.sy (.imm p.h 18 Ke p.l ai)) .nil)))),(.node .leaf (some (.blk false 5 1 [[aa]])) .leaf),1) (js p) K)) z0) z0) true)) (K 2 .nil (.node .leaf (some (.blk false 5 1 [[aa]])) .leaf) 1))) (by kernel_rfl) ?_
 dsimp only[kI]at hpre
 obtain⟨g0,g1,g2,g3⟩:=hpre
 refine iI (fun hc1=> ?_) (fun hc1=> ?_)
 refine gy ?_
 refine aj (fun x1=> ?_)
 refine iI (fun hi2=> ?_) (fun _=>rfl)
 have hk:=g0 x1 (akp (by assumption))
 unfold EB at hk
 refine iI (fun hc3=> ?_) (fun hc3=> ?_)
 refine iI (fun hc4=> ?_) (fun hc4=> ?_)
 refine aQ ?_
 exact acy (q:=⟨p.h,p.l,p.i+(1:Int)⟩)
 exfalso;omega
 exfalso;omega
 exact hK
theorem abZ:dp Tryz.prog 19 1 Km true 0 Jf:=by
 exact gD (lf:=600) bD (ay AE) (by rfl) mC js zH (fun b j x h=>by cases h) (fun S M nx K h=>by obtain⟨p,h⟩:=bJ h;exact⟨p,(ae h).1,(ae h).2⟩) (fun p K h=>abk p K (ae h).1 (ae h).2)
structure FR where
 h:Value
 l:List Ke
noncomputable def Li (p:FR):IE:=([.sy (.imm p.h 18 Ke p.l ai),.fn 181 [.ptr 0 0]],(.node .leaf (some (.blk false 5 1 [[aa]])) .leaf),1)
noncomputable def VM (p:FR) (K:KE):Bool:=K (.int 0 (.negSucc 0)) (.node .leaf (some (.blk false 5 1 [[aa]])) .leaf) 1
def yg (p:FR):Prop:=Bn p.l∧p.l.length≤400
theorem af6 (p:FR) (K:KE) (hpre:yg p) (hK:VM p K=true):(aY 1 (bg Fj) Km 600 ZM (Li p).1 (Li p).2.1 (Li p).2.2 K)=true:=by
 refine Eq.trans (b:=(ax fun p1:iY=>mP (((.cons 8 (.sy (.int 0 0)) (.cons 7 (.sy (.int 0 (p.l.length:Int))) (.cons 1 (.fn 181 [.ptr 0 0]) (.cons 0 (.sy (.imm p.h 18 Ke p.l ai)) .nil)))),(.node .leaf (some (.blk false 5 1 [[aa]])) .leaf),1)=mC p1) (mP (kI p1) (K (.int 0 (.negSucc 0)) (.node .leaf (some (.blk false 5 1 [[aa]])) .leaf) 1)))) (by kernel_rfl) ?_
 dsimp only[yg]at hpre
 obtain⟨u1,u2⟩:=hpre
 refine aP (⟨p.h,p.l,(0:Int)⟩:iY) rfl (by(try dsimp only[kI]);exact⟨u1,u2,by omega,by omega⟩) ?_
 exact hK
noncomputable def VW:=aZ Fj 1 (be Li (cm yg VM)) 183 [(0,23)]
theorem XJ:aE Tryz.prog VW:=az (cS (f:=183) (k:=1) (lp:=Km) (lf:=600) bD (ay AE) ZL (by rfl) (fun b j x h=>(bZ abZ (fun h=>(by cases h)) h)) fun p K h=>af6 p K (ae h).1 (ae h).2) AE
end Go.Proofs.Tryz
namespace Go.Proofs.YtjhpjjbnojbikaaGreat
open Go Go.RowKit Go.Shelf
attribute [local go_sem] Oper.semAt_some
structure Keep (ok:Nat→Prop) (W W':World):Prop where
 size:W.heap.size≤W'.heap.size
 block:∀k,ok k→k<W.heap.size→W'.heap[k]?=W.heap[k]?
theorem Keep.refl (ok:Nat→Prop) (W:World):Keep ok W W:=⟨akz _,fun _ _ _=>rfl⟩
theorem Keep.trans {ok:Nat→Prop} {A B C:World} (h:Keep ok A B) (k:Keep ok B C):Keep ok A C:=⟨Nat.le_trans h.size k.size,fun b hb hs=>(k.block b hb (Nat.lt_of_lt_of_le hs h.size)).trans (h.block b hb hs)⟩
theorem Keep.of {ok:Nat→Prop} {A B:World} (h:Below A.heap.size A B):Keep ok A B:=⟨h.size,fun b _ hs=>h.block b hs⟩
theorem Keep.cell {ok:Nat→Prop} {A B:World} (h:Keep ok A B) {p:Addr} (hb:ok p.block) (hs:p.block<A.heap.size):B.cell? p=A.cell? p:=World.cell?_of_block (h.block _ hb hs)
theorem Keep.put {ok:Nat→Prop} {w:World} (hn:∀b,ok b→b<w.heap.size) (W:World) (l:Nat) (o o':Obj) (hl:w.heap.size≤l) (h:W.heap[l]?=some o) (_:o.isCells=false) (_:o.isWalk=false):Keep ok W (W.putObj l o'):=
 ⟨(grownBy_putObj' W l o').size,fun b hb hs=>(grownBy_putObj' W l o').block b hs (fun e=>by have:=hn b hb;cases e;omega)⟩
set_option maxRecDepth 100000 in
set_option maxHeartbeats 1000000 in
theorem aay (l Ba Bb bv off cap gs:Nat) (ok:Nat→Prop) (lbs:Array Value) (zs:List (Int×Int)) (aT:Prop) (hb:ok bv) (hBa:ok Ba) (hBb:ok Bb) (hlen:zs.length≤1000) (hgs:gs=160∨gs=176) (J Jx:List (Int×Int)→World→Prop)
  (hY:∀pre x W,J pre W→pre.length<zs.length→YieldAt Fence.wide 3 Tryz.prog l #[.agg #[.int .u8 x.1,.int .u16 x.2]] W fun e W'=>
   (e= .returned (.bool true)∧J (pre++[x]) W'∧Keep ok W W')∨(e= .returned (.bool false)∧Jx (pre++[x]) W'))
  (W:World) (hJ:AbidesFrom W.heap.size J) (hn:∀b,ok b→b<W.heap.size)
  (hsaid:∀x∈zs,∀W',Keep ok W W'→CallsIn Fence.wide 3 Tryz.prog gs (#[.agg #[.int .u8 x.1,.int .u16 x.2]]++lbs) W' fun e W''=>∃b,e= .returned (.bool b)∧(aT→b=true)∧Below W'.heap.size W' W'')
  (hWa:W.cell? ⟨Ba,2,none⟩=some (.slice (some ⟨bv,off,none⟩) zs.length cap)) (hWb:W.cell? ⟨Bb,0,none⟩=some (.func (.func gs) #[] lbs))
  (hc:∀j,j<zs.length→∀x,zs[j]?=some x→W.cell? ⟨bv,off+j*2,none⟩=some (.int .u8 x.1)∧W.cell? ⟨bv,off+j*2+1,none⟩=some (.int .u16 x.2)) (h0:J [] W):
  CallsIn Fence.wide 4 Tryz.prog 178 #[.func (.yield l) #[] #[],.pointer (some ⟨Ba,0,none⟩),.pointer (some ⟨Bb,0,none⟩)] W fun e W'=>(∃v,e= .returned v)∧
   ((∃ys,(aT→ys=zs)∧J ys W')∨(∃pre,True∧Jx pre W')):=by
 refine callsIn_of_wp Tryz.func178 rfl trivial ?_ rfl
 simp only[Tryz.ntmps178,List.size_toArray,akl,akn,Nat.reduceAdd,Nat.reduceSub,Array.replicate_succ,Array.replicate_zero,List.push_toArray,List.append_toArray,aks,akr]
 gi_wp2
 gi_loopw [9] (fun i wr=>∃(k:Nat) (pre:List (Int×Int)),k≤zs.length∧i= .int .i64 k∧pre.length≤k∧(aT→pre=zs.take k)∧J pre wr∧Keep ok W wr)
  (fun i _=>zs.length - (intOf i).toNat)
 case atStart=>exact⟨0,[],Nat.zero_le _,rfl,akz _,fun _=>by simp,h0,Keep.refl _ _⟩
 case round=>
  obtain⟨k,pre,hk,rfl,hpl,hpt,hJs,hnx⟩:=hrel
  by_cases hlt:k<zs.length
  ·obtain⟨x,hx⟩:∃x,zs[k]?=some x:=⟨_,List.getElem?_eq_getElem hlt⟩
   obtain⟨hc0,hc1⟩:=hc k hlt x hx
   have hc0:=(hnx.cell (p:=⟨bv,off+k*2,none⟩) hb (hn _ hb)).trans hc0
   have hc1:=(hnx.cell (p:=⟨bv,off+k*2+1,none⟩) hb (hn _ hb)).trans hc1
   have hb0:=(hnx.cell (p:=⟨Bb,0,none⟩) hBb (hn _ hBb)).trans hWb
   have hB1:Below wr.heap.size wr (wr.alloc (Obj.cells #[Value.int .u8 x.1,Value.int .u16 x.2] 52)):=(Below.refl _ wr).alloc (akz _) _
   have hwr:W.heap.size≤wr.heap.size:=hnx.size
   have hb1:=(hB1.cell (p:=⟨Bb,0,none⟩) (by have:=hn _ hBb;simp;omega)).trans hb0
   have hn0:(wr.alloc (Obj.cells #[Value.int .u8 x.1,Value.int .u16 x.2] 52)).cell? ⟨wr.heap.size,0,none⟩=some (.int .u8 x.1):=by unfold World.cell?;rw[World.alloc_heap_new];rfl
   have hn1:(wr.alloc (Obj.cells #[Value.int .u8 x.1,Value.int .u16 x.2] 52)).cell? ⟨wr.heap.size,1,none⟩=some (.int .u16 x.2):=by unfold World.cell?;rw[World.alloc_heap_new];rfl
   have hnx1:=hnx.trans (Keep.of hB1)
   have hs:=hsaid x (akp hx) _ hnx1
   rcases hgs with rfl|rfl<;>gi_wp2_with (refine⟨trivial,?_⟩;(first|gi_at_call 160|gi_at_call 176);refine hs.mono ?_;rintro e w3 ⟨b,rfl,hbt,hb3⟩;have hn0':=(hb3.cell (p:=⟨wr.heap.size,0,none⟩) (by simp)).trans hn0;have hn1':=(hb3.cell (p:=⟨wr.heap.size,1,none⟩) (by simp)).trans hn1;have hB3:=hB1.trans (hb3.mono (show wr.heap.size≤(wr.alloc (Obj.cells #[Value.int .u8 x.1,Value.int .u16 x.2] 52)).heap.size by simp));have hJ3:=hJ pre wr w3 none hJs ⟨hB3.os,hB3.tape,hB3.output,hB3.size,fun k hk _=>hB3.block k hk⟩ (fun r e=>by cases e);obtain⟨fn,tmps,assign,body,hy,hR⟩:=hY pre x w3 hJ3 (by omega);have hnx3:=hnx.trans (Keep.of hB3))
   iterate 2
    ·refine hR.mono ?_
     rintro e W4 (⟨rfl,hJ4,hk4⟩|⟨rfl,hJx4⟩)
     ·gi_wp2
      go_roundw
      case rel=>exact⟨k+1,pre++[x],by omega,by simp,by simp;omega,fun h=>by rw[hpt h,List.take_add_one,hx];rfl,hJ4,hnx3.trans hk4⟩
      case measure=>simp[intOf];omega
     ·gi_wp2
      refine bodyPost_ret (results_none rfl _ _ _) rfl ?_
      exact⟨⟨_,rfl⟩,.inr ⟨_,trivial,hJx4⟩⟩
    ·refine⟨fun _ h=>(by cases h),?_⟩
     gi_wp2
     go_roundw
     case rel=>exact⟨k+1,pre,by omega,by simp,by omega,fun h=>by have:=hbt h;simp_all,hJ3,hnx3⟩
     case measure=>simp[intOf];omega
  ·obtain rfl:k=zs.length:=by omega
   gi_wp2
   go_end0
   exact⟨⟨_,rfl⟩,.inl ⟨pre,fun h=>by simpa using hpt h,hJs⟩⟩
abbrev Fp (zs:List (Int×Int)):List Value:=zs.flatMap fun x=>[.int .u8 x.1,.int .u16 x.2]
theorem FW (Ba Bb bv off cap gs:Nat) (ok:Nat→Prop) (lbs:Array Value) (zs:List (Int×Int)) (aT:Prop) (hb:ok bv) (hBa:ok Ba) (hBb:ok Bb) (hlen:zs.length≤1000) (hgs:gs=160∨gs=176) (w:World) (hn:∀b,ok b→b<w.heap.size)
  (hsaid:∀x∈zs,∀W',Keep ok w W'→CallsIn Fence.wide 3 Tryz.prog gs (#[.agg #[.int .u8 x.1,.int .u16 x.2]]++lbs) W' fun e W''=>∃b,e= .returned (.bool b)∧(aT→b=true)∧Below W'.heap.size W' W'')
  (hWa:w.cell? ⟨Ba,2,none⟩=some (.slice (some ⟨bv,off,none⟩) zs.length cap)) (hWb:w.cell? ⟨Bb,0,none⟩=some (.func (.func gs) #[] lbs))
  (hc:∀j,j<zs.length→∀x,zs[j]?=some x→w.cell? ⟨bv,off+j*2,none⟩=some (.int .u8 x.1)∧w.cell? ⟨bv,off+j*2+1,none⟩=some (.int .u16 x.2)):
  SeqStopsK Fence.wide 4 Tryz.prog 178 #[.pointer (some ⟨Ba,0,none⟩),.pointer (some ⟨Bb,0,none⟩)] (fun x:Int×Int=> #[.agg #[.int .u8 x.1,.int .u16 x.2]]) (Keep ok) (fun ys=>aT→ys=zs) (fun _=>True) zs.length w:=fun l J Jx W hW hJ _ hY h0=>by
 have hW0:Keep ok w W:=Keep.of hW
 exact aay l Ba Bb bv off cap gs ok lbs zs aT hb hBa hBb hlen hgs J Jx hY W hJ (fun b hb=>Nat.lt_of_lt_of_le (hn b hb) hW.size) (fun x hx W' h=>hsaid x hx W' (hW0.trans h)) ((hW0.cell (p:=⟨Ba,2,none⟩) hBa (hn _ hBa)).trans hWa) ((hW0.cell (p:=⟨Bb,0,none⟩) hBb (hn _ hBb)).trans hWb)
  (fun j hj x hx=>⟨(hW0.cell (p:=⟨bv,_,none⟩) hb (hn _ hb)).trans (hc j hj x hx).1,(hW0.cell (p:=⟨bv,_,none⟩) hb (hn _ hb)).trans (hc j hj x hx).2⟩) h0
theorem ajH:(Tryz.prog.info? 52).map (fun i=>(i.zero,i.size,i.bytes))=some (some (.agg #[.int .u8 0,.int .u16 0]),2,4):=by kernel_rfl
theorem Tx (w:World) (x y:Value) (t:TypeId):∀j u,[x,y][j]?=some u→(w.alloc (.cells #[x,y] t)).cell? ((⟨w.heap.size,0,none⟩:Addr).add j)=some u:=by
 intro j u hj
 rw[show(⟨w.heap.size,0,none⟩:Addr).add j=⟨w.heap.size,j,none⟩ by unfold Addr.add;split<;>simp_all]
 unfold World.cell?
 rw[World.alloc_heap_new]
 match j,hj with
 |0,hj=>simpa using hj
 |1,hj=>simpa using hj
 |j+2,hj=>simp at hj
def YE (W:World) (B:Nat) (x:Int×Int):Prop:=W.heap[B]?=some (.cells #[.int .u8 x.1,.int .u16 x.2] 52 (0,0))
theorem jw {W:World} {B:Nat} {x:Int×Int} (h:YE W B x):W.cell? ⟨B,0,none⟩=some (.int .u8 x.1)∧W.cell? ⟨B,1,none⟩=some (.int .u16 x.2):=by
 have h:W.heap[B]?=_:=h
 constructor<;>(unfold World.cell?;rw[h];rfl)
theorem acw {β:Type} (B:Nat) (x:Int×Int):Own (fun(_:β) W=>YE W B x):=fun s X Y row hs hg hrow=>by
 have hs:X.heap[B]?=_:=hs
 exact(hg.block B (Array.getElem?_eq_some_iff.1 hs).1 (fun e=>by obtain⟨o,ho,hc⟩:=hrow B e.symm;rw[hs]at ho;cases ho;cases hc)).trans hs
set_option maxRecDepth 100000 in
set_option maxHeartbeats 2000000 in
theorem Yx (Ba Bb bv off cap gs:Nat) (lbs:Array Value) (zs:List (Int×Int)) (hlen:zs.length≤1000) (hgs:gs=160∨gs=176) (w:World) (hb:bv<w.heap.size) (hBa:Ba<w.heap.size) (hBb:Bb<w.heap.size)
  (hsaid:∀x∈zs,∀W',Keep (· <w.heap.size) w W'→CallsIn Fence.wide 3 Tryz.prog gs (#[.agg #[.int .u8 x.1,.int .u16 x.2]]++lbs) W' fun e W''=>∃b,e= .returned (.bool b)∧(True→b=true)∧Below W'.heap.size W' W'')
  (hWa:w.cell? ⟨Ba,2,none⟩=some (.slice (some ⟨bv,off,none⟩) zs.length cap)) (hWb:w.cell? ⟨Bb,0,none⟩=some (.func (.func gs) #[] lbs))
  (hc:∀j,j<zs.length→∀x,zs[j]?=some x→w.cell? ⟨bv,off+j*2,none⟩=some (.int .u8 x.1)∧w.cell? ⟨bv,off+j*2+1,none⟩=some (.int .u16 x.2)):
  CallsIn Fence.wide 5 Tryz.prog 177 #[.slice none 0 0,.func (.func 178) #[] #[.pointer (some ⟨Ba,0,none⟩),.pointer (some ⟨Bb,0,none⟩)]] w fun e W'=>∃v,e= .returned v∧W'.ownsRow w.heap.size 52 2 v zs.length (Fp zs)∧Below w.heap.size w W':=by
 obtain⟨i0,hi,hz0,hz1,hz2⟩:=info_parts ajH
 refine callsIn_of_wp_marks Tryz.func177 rfl trivial ?_ rfl
 simp only[Tryz.ntmps177,List.size_toArray,akl,akn,Nat.reduceAdd,Nat.reduceSub,Array.replicate_succ,Array.replicate_zero,List.push_toArray,List.append_toArray,aks,akr]
 gi_wp2
 have bO:=Boxed.new w 43 (.slice none 0 0)
 have hB0:Below w.heap.size w (w.alloc (.cells #[.slice none 0 0] 43)):=(Below.refl _ w).alloc (akz _) _
 refine wpIn_rangeFunc_ownH rfl (by decide) (gf:=178) (lb:= #[.pointer (some ⟨Ba,0,none⟩),.pointer (some ⟨Bb,0,none⟩)]) rfl trivial (enters_of Tryz.func178 (by kernel_rfl) rfl)
  (FW Ba Bb bv off cap gs (· <w.heap.size) lbs zs True hb hBa hBb hlen hgs _ (fun b hb=>by simp;omega) (fun x hx W' h=>hsaid x hx W' ((Keep.of hB0).trans h)) ((hB0.cell (p:=⟨Ba,2,none⟩) hBa).trans hWa) ((hB0.cell (p:=⟨Bb,0,none⟩) hBb).trans hWb)
   (fun j hj x hx=>⟨(hB0.cell (p:=⟨bv,_,none⟩) hb).trans (hc j hj x hx).1,(hB0.cell (p:=⟨bv,_,none⟩) hb).trans (hc j hj x hx).2⟩))
  Keep.trans (Keep.put (fun b hb=>by simp;omega)) (Below.refl _ _) (fun _=>rfl)
  (fun pre W=>(∃v,Boxed W w.heap.size 43 v∧W.ownsRow w.heap.size 52 2 v pre.length (Fp pre)∧True)∧Below w.heap.size w W)
  (fun _ _ _=>False)
  (OwnFrom.and (Own.from (holdsRow_own w.heap.size w.heap.size 43 52 2 (fun pre=>pre.length) Fp (fun _ _=>True)) _) (ownFrom_below (akz _) (by simp)))
  (fun _ _ _ _ _ hs _ _=>hs)
  ⟨⟨_,bO,World.ownsRow_nil _ _ _ _,trivial⟩,hB0⟩
  (fun x a' W=>∃Bx,w.heap.size<Bx∧YE W Bx x∧a'={tmps:= #[.slice none 0 0,.func (.func 178) #[] #[.pointer (some ⟨Ba,0,none⟩),.pointer (some ⟨Bb,0,none⟩)],.pointer (some ⟨w.heap.size,0,none⟩),undef,.slice none 0 0,.pointer (some ⟨Bx,0,none⟩),.func (.func 178) #[] #[.pointer (some ⟨Ba,0,none⟩),.pointer (some ⟨Bb,0,none⟩)],.agg #[.int .u8 x.1,.int .u16 x.2],undef,undef,undef,undef,undef],defers:=[]})
  (fun x a' _ X Y row hs hg hr=>by obtain⟨Bx,h1,h2,h3⟩:=hs;exact⟨Bx,h1,acw Bx x () X Y row h2 hg (fun r e=>(hr r e).2),h3⟩)
  ?assign ?body ?done ?stop
 case assign=>
  rintro l pre x W K ⟨⟨v,hv,hrow,_⟩,hB⟩ hK
  gi_wp2
  exact hK _ _ ((KeepsOthers.alloc _ _).from _) (Keep.of ((Below.refl _ W).alloc (akz _) _)) ⟨⟨v,hv.alloc _,hrow.alloc _,trivial⟩,hB.alloc hB.size _⟩ ⟨W.heap.size,hv.lt,World.alloc_heap_new W _,rfl⟩
 case body=>
  rintro l pre x a' W hl ⟨r,hr⟩ ⟨⟨v,hv,hrow,_⟩,hB⟩ ⟨Bx,hBx,bX,rfl⟩ hlt
  have hc:=hv.cell
  obtain⟨hx0,hx1⟩:=jw bX
  have hmx:1001≤maxLen:=by decide
  have hpl:pre.length+1≤maxLen:=by omega
  have hpb:(pre.length+1)*4≤140737488355328:=by omega
  gi_wp2_with (gi_at_builtin;refine wpListIn_append_own _ rfl _ _ 43 rfl w.heap.size 52 i0 (.agg #[.int .u8 0,.int .u16 0]) 2 4 Tryz.underlying43 hi hz0 hz1 hz2 rfl (by decide) _ _ _ rfl (hrow.alloc _) ⟨W.heap.size,0,none⟩ 1 1 [.int .u8 x.1,.int .u16 x.2] rfl rfl (Tx _ _ _ _) (by simp[Value.oneCell']) hpl hpb (by have:=hB.size;simp;omega) ?_;intro v' w1 hown' hgrow _;obtain⟨g',cap',rfl⟩:=ownsRow_succ hown';obtain⟨hv1,hv2,hr2,hk2,hb2⟩:=hv.appended (by decide) hrow hB.size (akz _) hown' hgrow;have hc1:=hv1.cell;have hf1:=hv1.frozen)
  exact⟨hk2.from _,⟨hb2.size,fun b hb _=>hb2.block b hb⟩,⟨_,hv2,by simpa[List.flatMap_append] using hr2,trivial⟩,hB.trans hb2⟩
 case done=>
  rintro D ys W hD hS ⟨⟨v,hv,hrow,_⟩,hB⟩ hK
  have hc:=hv.cell
  gi_wp2
  obtain rfl:=hS trivial
  refine⟨by simp,.inl ⟨_,_,rfl,run_takeDeferred hK,?_⟩⟩
  exact⟨_,results_tmp rfl _ _ _,v,rfl,ownsRow_putObj hrow _ hK rfl,hB.trans (belowK_b (w:=w) (akz _) W D _ _ (by simp at hD;omega) hK rfl rfl)⟩
 case stop=>
  rintro D c pre W _ _ h _
  exact h.elim
theorem Yp (Ba Bb bv off cap gs:Nat) (lbs:Array Value) (zs:List (Int×Int)) (hlen:zs.length≤1000) (hgs:gs=160∨gs=176) (w:World) (hb:bv<w.heap.size) (hBa:Ba<w.heap.size) (hBb:Bb<w.heap.size)
  (hsaid:∀x∈zs,∀W',Keep (· <w.heap.size) w W'→CallsIn Fence.wide 3 Tryz.prog gs (#[.agg #[.int .u8 x.1,.int .u16 x.2]]++lbs) W' fun e W''=>∃b,e= .returned (.bool b)∧(True→b=true)∧Below W'.heap.size W' W'')
  (hWa:w.cell? ⟨Ba,2,none⟩=some (.slice (some ⟨bv,off,none⟩) zs.length cap)) (hWb:w.cell? ⟨Bb,0,none⟩=some (.func (.func gs) #[] lbs))
  (hc:∀j,j<zs.length→∀x,zs[j]?=some x→w.cell? ⟨bv,off+j*2,none⟩=some (.int .u8 x.1)∧w.cell? ⟨bv,off+j*2+1,none⟩=some (.int .u16 x.2)):
  CallsIn Fence.wide 6 Tryz.prog 158 #[.func (.func 178) #[] #[.pointer (some ⟨Ba,0,none⟩),.pointer (some ⟨Bb,0,none⟩)]] w fun e W'=>∃v,e= .returned v∧W'.ownsRow w.heap.size 52 2 v zs.length (Fp zs)∧Below w.heap.size w W':=by
 refine callsIn_of_wp Tryz.func158 rfl trivial ?_ rfl
 simp only[Tryz.ntmps158,List.size_toArray,akl,akn,Nat.reduceAdd,Nat.reduceSub,Array.replicate_succ,Array.replicate_zero,List.push_toArray,List.append_toArray,aks,akr]
 gi_wp2_with (refine⟨trivial,?_⟩;gi_at_call 177;refine(Yx Ba Bb bv off cap gs lbs zs hlen hgs w hb hBa hBb hsaid hWa hWb hc).mono ?_;rintro e w3 ⟨v,rfl,h1,h2⟩)
 refine bodyPost_ret (results_tmp rfl _ _ _) rfl ?_
 exact⟨v,rfl,h1,h2⟩
attribute [local go_sem] Oper.semAt_some
def Procs (w:World) (b:Nat) (zs:List (Int×Int)):Prop:=∀j,j<zs.length→∀x,zs[j]?=some x→w.cell? ⟨b,j*2,none⟩=some (.int .u8 x.1)∧w.cell? ⟨b,j*2+1,none⟩=some (.int .u16 x.2)
theorem Procs.below {n b:Nat} {A B:World} {zs:List (Int×Int)} (h:Below n A B) (hb:b<n) (p:Procs A b zs):Procs B b zs:=fun j hj x hx=>⟨(h.cell (p:=⟨b,_,none⟩) hb).trans (p j hj x hx).1,(h.cell (p:=⟨b,_,none⟩) hb).trans (p j hj x hx).2⟩
theorem aj6:Tryz.prog.eqGuardType Tryz.prog.depth 52=false:=by kernel_rfl
attribute [local go_sem] aj6
set_option maxRecDepth 100000 in
set_option maxHeartbeats 1000000 in
theorem ab1 (bl cap:Nat) (zs:List (Int×Int)) (hlen:zs.length≤1000) (y:Int×Int) (w:World) (hb:bl<w.heap.size) (hp:Procs w bl zs):
  CallsIn Fence.wide 1 Tryz.prog 59 #[.slice (some ⟨bl,0,none⟩) zs.length cap,.agg #[.int .u8 y.1,.int .u16 y.2]] w fun e W'=>∃z:Int,e= .returned (.int .i64 z)∧Below w.heap.size w W':=by
 refine callsIn_of_wp Tryz.func59 rfl trivial ?_ rfl
 simp only[Tryz.ntmps59,List.size_toArray,akl,akn,Nat.reduceAdd,Nat.reduceSub,Array.replicate_succ,Array.replicate_zero,List.push_toArray,List.append_toArray,aks,akr]
 gi_wp2
 have hB1:Below w.heap.size w (w.alloc (Obj.cells #[Value.int .u8 y.1,Value.int .u16 y.2] 52)):=(Below.refl _ w).alloc (akz _) _
 gi_loopw [8] (fun i wr=>∃k:Nat,k≤zs.length∧i= .int .i64 k∧Below w.heap.size w wr∧YE wr w.heap.size y)
  (fun i _=>zs.length - (intOf i).toNat)
 case atStart=>exact⟨0,Nat.zero_le _,rfl,hB1,World.alloc_heap_new w _⟩
 case round=>
  obtain⟨k,hk,rfl,hB,bX⟩:=hrel
  obtain⟨hx0,hx1⟩:=jw bX
  by_cases hlt:k<zs.length
  ·obtain⟨x,hx⟩:∃x,zs[k]?=some x:=⟨_,List.getElem?_eq_getElem hlt⟩
   obtain⟨hc0,hc1⟩:=hp k hlt x hx
   have hc0:=(hB.cell (p:=⟨bl,k*2,none⟩) hb).trans hc0
   have hc1:=(hB.cell (p:=⟨bl,k*2+1,none⟩) hb).trans hc1
   gi_wp2
   by_cases h1:y.1=x.1<;>by_cases h2:y.2=x.2
   all_goals gi_region
   all_goals gi_wp2
   ·refine bodyPost_ret (results_tmp rfl _ _ _) rfl ?_
    exact⟨_,rfl,hB.drew⟩
   all_goals exact⟨⟨k+1,by omega,by simp,hB.drew,bX⟩,by simp[intOf];omega⟩
  ·obtain rfl:k=zs.length:=by omega
   gi_wp2
   refine bodyPost_ret (results_tmp rfl _ _ _) rfl ?_
   exact⟨_,rfl,hB⟩
theorem Vy (bl cap:Nat) (zs:List (Int×Int)) (hlen:zs.length≤1000) (y:Int×Int) (w:World) (hb:bl<w.heap.size) (hp:Procs w bl zs):
  CallsIn Fence.wide 2 Tryz.prog 57 #[.slice (some ⟨bl,0,none⟩) zs.length cap,.agg #[.int .u8 y.1,.int .u16 y.2]] w fun e W'=>∃b,e= .returned (.bool b)∧Below w.heap.size w W':=by
 refine callsIn_of_wp Tryz.func57 rfl trivial ?_ rfl
 simp only[Tryz.ntmps57,List.size_toArray,akl,akn,Nat.reduceAdd,Nat.reduceSub,Array.replicate_succ,Array.replicate_zero,List.push_toArray,List.append_toArray,aks,akr]
 have hB1:Below w.heap.size w (w.alloc (Obj.cells #[Value.int .u8 y.1,Value.int .u16 y.2] 52)):=(Below.refl _ w).alloc (akz _) _
 obtain⟨hx0,hx1⟩:=jw (x:=y) (World.alloc_heap_new w (Obj.cells #[Value.int .u8 y.1,Value.int .u16 y.2] 52))
 gi_wp2_with (refine⟨trivial,?_⟩;gi_at_call 59;refine(ab1 bl cap zs hlen y _ (by simp;omega) (hp.below hB1 hb)).mono ?_;rintro e w3 ⟨z,rfl,h1⟩)
 refine bodyPost_ret (results_tmp rfl _ _ _) rfl ?_
 exact⟨_,rfl,hB1.trans (h1.mono (by simp))⟩
theorem aav (bl bq cap:Nat) (zs:List (Int×Int)) (hlen:zs.length≤1000) (y:Int×Int) (w:World) (hb:bl<w.heap.size) (hq:bq<w.heap.size) (hp:Procs w bl zs) (hc:w.cell? ⟨bq,0,none⟩=some (.slice (some ⟨bl,0,none⟩) zs.length cap)):
  CallsIn Fence.wide 3 Tryz.prog 176 #[.agg #[.int .u8 y.1,.int .u16 y.2],.pointer (some ⟨bq,0,none⟩)] w fun e W'=>∃b,e= .returned (.bool b)∧Below w.heap.size w W':=by
 refine callsIn_of_wp Tryz.func176 rfl trivial ?_ rfl
 simp only[Tryz.ntmps176,List.size_toArray,akl,akn,Nat.reduceAdd,Nat.reduceSub,Array.replicate_succ,Array.replicate_zero,List.push_toArray,List.append_toArray,aks,akr]
 have hB1:Below w.heap.size w (w.alloc (Obj.cells #[Value.int .u8 y.1,Value.int .u16 y.2] 52)):=(Below.refl _ w).alloc (akz _) _
 obtain⟨hx0,hx1⟩:=jw (x:=y) (World.alloc_heap_new w (Obj.cells #[Value.int .u8 y.1,Value.int .u16 y.2] 52))
 have hc1:=(hB1.cell (p:=⟨bq,0,none⟩) hq).trans hc
 gi_wp2_with (refine⟨trivial,?_⟩;gi_at_call 57;refine(Vy bl cap zs hlen y _ (by simp;omega) (hp.below hB1 hb)).mono ?_;rintro e w3 ⟨z,rfl,h1⟩)
 refine bodyPost_ret (results_tmp rfl _ _ _) rfl ?_
 exact⟨_,rfl,hB1.trans (h1.mono (by simp))⟩
theorem acE (v:Value) (w:World) (ho:v.oneCell'=true):CallsIn Fence.wide 4 Tryz.prog 157 #[v] w fun e W'=>e= .returned (.func (.func 176) #[] #[.pointer (some ⟨w.heap.size,0,none⟩)])∧W'=w.alloc (.cells #[v] 43):=by
 refine callsIn_of_wp Tryz.func157 rfl trivial ?_ rfl
 simp only[Tryz.ntmps157,List.size_toArray,akl,akn,Nat.reduceAdd,Nat.reduceSub,Array.replicate_succ,Array.replicate_zero,List.push_toArray,List.append_toArray,aks,akr]
 gi_wp2
 refine bodyPost_ret (results_tmp rfl _ _ _) rfl ?_
 exact⟨rfl,rfl⟩
theorem Uw (g nn:Int) (o:Option Addr) (n c gs:Nat) (lbs:Array Value) (w:World):CallsIn Fence.wide 4 Tryz.prog 159 #[.agg #[.int .u8 g,.int .u32 nn,.slice o n c],.func (.func gs) #[] lbs] w fun e W'=>e= .returned (.func (.func 178) #[] #[.pointer (some ⟨w.heap.size,0,none⟩),.pointer (some ⟨w.heap.size+1,0,none⟩)])∧W'=(w.alloc (.cells #[.int .u8 g,.int .u32 nn,.slice o n c] 45)).alloc (.cells #[.func (.func gs) #[] lbs] 113):=by
 refine callsIn_of_wp Tryz.func159 rfl trivial ?_ rfl
 simp only[Tryz.ntmps159,List.size_toArray,akl,akn,Nat.reduceAdd,Nat.reduceSub,Array.replicate_succ,Array.replicate_zero,List.push_toArray,List.append_toArray,aks,akr]
 gi_wp2
 refine bodyPost_ret (results_tmp rfl _ _ _) rfl ?_
 exact⟨rfl,rfl⟩
theorem Zx (g nn:Int) (o:Option Addr) (n c:Nat) (w:World):CallsIn Fence.wide 4 Tryz.prog 90 #[.agg #[.int .u8 g,.int .u32 nn,.slice o n c]] w fun e W'=>e= .returned (.int .i64 (wrap64 (wrap64 (n / 2)+1)))∧W'=w.alloc (.cells #[.int .u8 g,.int .u32 nn,.slice o n c] 45):=by
 refine callsIn_of_wp Tryz.func90 rfl trivial ?_ rfl
 simp only[Tryz.ntmps90,List.size_toArray,akl,akn,Nat.reduceAdd,Nat.reduceSub,Array.replicate_succ,Array.replicate_zero,List.push_toArray,List.append_toArray,aks,akr]
 gi_wp2
 refine bodyPost_ret (results_tmp rfl _ _ _) rfl ?_
 exact⟨rfl,rfl⟩
theorem Procs.keep {ok:Nat→Prop} {b:Nat} {A B:World} {zs:List (Int×Int)} (p:Procs A b zs) (h:Keep ok A B) (hb:ok b) (hs:b<A.heap.size):Procs B b zs:=fun j hj x hx=>⟨(h.cell (p:=⟨b,_,none⟩) hb hs).trans (p j hj x hx).1,(h.cell (p:=⟨b,_,none⟩) hb hs).trans (p j hj x hx).2⟩
theorem Zc (W:World) (a b c:Obj):(((W.alloc a).alloc b).alloc c).heap[W.heap.size]?=some a∧(((W.alloc a).alloc b).alloc c).heap[W.heap.size+1]?=some b∧(((W.alloc a).alloc b).alloc c).heap[W.heap.size+1+1]?=some c:=by
 refine⟨(Below.heap_alloc _ _ _ (by simp;omega)).trans ((Below.heap_alloc _ _ _ (by simp)).trans (World.alloc_heap_new W a)),(Below.heap_alloc _ _ _ (by simp)).trans ?_,?_⟩
 ·have:=World.alloc_heap_new (W.alloc a) b;rwa[World.size_alloc]at this
 ·have:=World.alloc_heap_new ((W.alloc a).alloc b) c;rwa[World.size_alloc,World.size_alloc]at this
theorem aas {β:Type} (B:Nat) (c:Array Value) (t:TypeId) (fz:Nat×Nat):Own (fun(_:β) W=>W.heap[B]?=some (.cells c t fz)):=fun s X Y row hs hg hrow=>
 (hg.block B (Array.getElem?_eq_some_iff.1 hs).1 (fun e=>by obtain⟨o,ho,hc⟩:=hrow B e.symm;rw[hs]at ho;cases ho;cases hc)).trans hs
set_option maxRecDepth 100000 in
set_option maxHeartbeats 2000000 in
theorem Zn (g nn:Int) (bv bl cv cl:Nat) (zs ls:List (Int×Int)) (hz:zs.length≤1000) (hl:ls.length≤1000) (w:World) (hbv:bv<w.heap.size) (hbl:bl<w.heap.size) (pz:Procs w bv zs) (pl:Procs w bl ls):
  CallsIn Fence.wide 5 Tryz.prog 162 #[.agg #[.int .u8 g,.int .u32 nn,.slice (some ⟨bv,0,none⟩) zs.length cv],.slice (some ⟨bl,0,none⟩) ls.length cl] w fun e W'=>∃b,e= .returned (.bool b)∧Below w.heap.size w W':=by
 refine callsIn_of_wp_marks Tryz.func162 rfl trivial ?_ rfl
 simp only[Tryz.ntmps162,List.size_toArray,akl,akn,Nat.reduceAdd,Nat.reduceSub,Array.replicate_succ,Array.replicate_zero,List.push_toArray,List.append_toArray,aks,akr]
 gi_wp2
 obtain⟨W1,hW1⟩:∃W1,(w.alloc (Obj.cells #[Value.int .u8 g,Value.int .u32 nn,Value.slice (some ⟨bv,0,none⟩) zs.length cv] 45)).alloc (Obj.cells #[Value.int .i64 0] 3)=W1:=⟨_,rfl⟩
 have hB1:Below w.heap.size w W1:=by rw[←hW1];exact((Below.refl _ w).alloc (akz _) _).alloc (by simp) _
 have hs1:W1.heap.size=w.heap.size+2:=by rw[←hW1];simp
 have hvb:W1.heap[w.heap.size]?=some (.cells #[Value.int .u8 g,Value.int .u32 nn,Value.slice (some ⟨bv,0,none⟩) zs.length cv] 45 (0,0)):=by rw[←hW1];exact(Below.heap_alloc _ _ _ (by simp)).trans (World.alloc_heap_new w _)
 have hnb:Boxed W1 (w.heap.size+1) 3 (.int .i64 0):=by rw[←hW1];have:=World.alloc_heap_new (w.alloc (Obj.cells #[Value.int .u8 g,Value.int .u32 nn,Value.slice (some ⟨bv,0,none⟩) zs.length cv] 45)) (Obj.cells #[Value.int .i64 0] 3);rwa[World.size_alloc]at this
 have hc0:W1.cell? ⟨w.heap.size,0,none⟩=some (.int .u8 g):=by unfold World.cell?;rw[hvb];rfl
 have hc1:W1.cell? ⟨w.heap.size,1,none⟩=some (.int .u32 nn):=by unfold World.cell?;rw[hvb];rfl
 have hc2:W1.cell? ⟨w.heap.size,2,none⟩=some (.slice (some ⟨bv,0,none⟩) zs.length cv):=by unfold World.cell?;rw[hvb];rfl
 rw[hW1]
 refine wpIn_mono (Q:=Exit.then (fun a W'=>a={tmps:= #[.agg #[.int .u8 g,.int .u32 nn,.slice (some ⟨bv,0,none⟩) zs.length cv],.slice (some ⟨bl,0,none⟩) ls.length cl,.pointer (some ⟨w.heap.size,0,none⟩),undef,.bool false,.pointer (some ⟨w.heap.size+1,0,none⟩),.agg #[.int .u8 g,.int .u32 nn,.slice (some ⟨bv,0,none⟩) zs.length cv],.slice (some ⟨bl,0,none⟩) ls.length cl,.func (.func 176) #[] #[.pointer (some ⟨w.heap.size+2,0,none⟩)],.func (.func 178) #[] #[.pointer (some ⟨w.heap.size+2+1,0,none⟩),.pointer (some ⟨w.heap.size+2+1+1,0,none⟩)],undef,undef,undef,undef,undef,undef,undef],defers:=[]}∧
   W'=(((W1.alloc (.cells #[.slice (some ⟨bl,0,none⟩) ls.length cl] 43)).alloc (.cells #[.int .u8 g,.int .u32 nn,.slice (some ⟨bv,0,none⟩) zs.length cv] 45)).alloc (.cells #[.func (.func 176) #[] #[.pointer (some ⟨w.heap.size+2,0,none⟩)]] 113)).drew) (fun _ _ _=>False)) ?_ ?_
 ·gi_region_with (first|(refine⟨trivial,?_⟩;gi_at_call 157;refine(acE _ _ rfl).mono ?_;rintro e w' ⟨rfl,rfl⟩)|(refine⟨trivial,?_⟩;gi_at_call 159;refine(Uw _ _ _ _ _ _ _ _).mono ?_;rintro e w' ⟨rfl,rfl⟩))
  all_goals exact⟨rfl,rfl⟩
 ·rintro e a3 W3 h
  cases e<;>first|exact h.elim|skip
  obtain⟨rfl,rfl⟩:=h
  gi_wp2
  obtain⟨W4,hW4⟩:∃W4,(((W1.alloc (Obj.cells #[Value.slice (some ⟨bl,0,none⟩) ls.length cl] 43)).alloc (Obj.cells #[Value.int .u8 g,Value.int .u32 nn,Value.slice (some ⟨bv,0,none⟩) zs.length cv] 45)).alloc (Obj.cells #[Value.func (.func 176) #[] #[Value.pointer (some ⟨w.heap.size+2,0,none⟩)]] 113)).drew=W4:=⟨_,rfl⟩
  have hB14:Below W1.heap.size W1 W4:=by rw[←hW4];exact((((Below.refl _ W1).alloc (akz _) _).alloc (by simp) _).alloc (by simp;omega) _).drew
  have hB4:Below w.heap.size w W4:=hB1.trans (hB14.mono (by omega))
  have hs4:W4.heap.size=w.heap.size+5:=by rw[←hW4];simp[World.drew];omega
  have t:=Zc W1 (Obj.cells #[Value.slice (some ⟨bl,0,none⟩) ls.length cl] 43) (Obj.cells #[Value.int .u8 g,Value.int .u32 nn,Value.slice (some ⟨bv,0,none⟩) zs.length cv] 45) (Obj.cells #[Value.func (.func 176) #[] #[Value.pointer (some ⟨w.heap.size+2,0,none⟩)]] 113)
  rw[hs1]at t
  obtain⟨t2,t3,t4⟩:W4.heap[w.heap.size+2]?=_∧W4.heap[w.heap.size+2+1]?=_∧W4.heap[w.heap.size+2+1+1]?=_:=by rw[←hW4];exact t
  have q2:W4.cell? ⟨w.heap.size+2,0,none⟩=some (Value.slice (some ⟨bl,0,none⟩) ls.length cl):=by unfold World.cell?;rw[t2];rfl
  have q3:W4.cell? ⟨w.heap.size+2+1,2,none⟩=some (Value.slice (some ⟨bv,0,none⟩) zs.length cv):=by unfold World.cell?;rw[t3];rfl
  have q4:W4.cell? ⟨w.heap.size+2+1+1,0,none⟩=some (Value.func (.func 176) #[] #[Value.pointer (some ⟨w.heap.size+2,0,none⟩)]):=by unfold World.cell?;rw[t4];rfl
  have hv4:W4.heap[w.heap.size]?=some (.cells #[Value.int .u8 g,Value.int .u32 nn,Value.slice (some ⟨bv,0,none⟩) zs.length cv] 45 (0,0)):=(hB14.block _ (by omega)).trans hvb
  have hn4:Boxed W4 (w.heap.size+1) 3 (.int .i64 0):=(hB14.block _ (by omega)).trans hnb
  rw[hW4]
  clear hW4
  have hok:∀b,(b<w.heap.size+5∧b≠w.heap.size+1)→b<W4.heap.size:=fun b hb=>by omega
  refine wpIn_rangeFunc_ownF rfl (by decide) (gf:=178) (lb:= #[.pointer (some ⟨w.heap.size+2+1,0,none⟩),.pointer (some ⟨w.heap.size+2+1+1,0,none⟩)]) rfl trivial (enters_of Tryz.func178 (by kernel_rfl) rfl)
   (FW (w.heap.size+2+1) (w.heap.size+2+1+1) bv 0 cv 176 (fun b=>b<w.heap.size+5∧b≠w.heap.size+1) #[.pointer (some ⟨w.heap.size+2,0,none⟩)] zs False (by omega) (by omega) (by omega) hz (.inr rfl) W4 hok
    (fun x hx W' h=>(aav bl (w.heap.size+2) cl ls hl x W' (by have:=h.size;omega) (by have:=h.size;omega) ((pl.below hB4 hbl).keep h (by first|omega|(dsimp only;omega)) (by omega)) ((h.cell (p:=⟨w.heap.size+2,0,none⟩) (by first|omega|(dsimp only;omega)) (by first|omega|(dsimp only;omega))).trans q2)).mono (by rintro e W'' ⟨b,rfl,hb⟩;exact⟨b,rfl,fun h=>h.elim,hb⟩))
    q3 q4 (fun j hj x hx=>by have:=(pz.below hB4 hbv) j hj x hx;simpa using this))
   Keep.trans (Keep.put hok) (Below.refl _ _) (fun _=>rfl)
   (fun _ W=>((∃z:Int,Boxed W (w.heap.size+1) 3 (.int .i64 z))∧W.heap[w.heap.size]?=some (.cells #[Value.int .u8 g,Value.int .u32 nn,Value.slice (some ⟨bv,0,none⟩) zs.length cv] 45 (0,0)))∧Below w.heap.size w W)
   (fun _ _ _=>False)
   (OwnFrom.and (Own.from (fun s A B row hs hg hr=>⟨(by obtain⟨z,hz⟩:=hs.1;exact⟨z,boxed_own _ _ (fun(_:Unit)=>_) () A B row hz hg hr⟩),aas _ _ _ _ () A B row hs.2 hg hr⟩) _) (ownFrom_below (akz _) (by omega)))
   (fun _ _ _ _ _ hs _ _=>hs)
   ⟨⟨⟨0,hn4⟩,hv4⟩,hB4⟩
   (fun x=>{tmps:= #[.agg #[.int .u8 g,.int .u32 nn,.slice (some ⟨bv,0,none⟩) zs.length cv],.slice (some ⟨bl,0,none⟩) ls.length cl,.pointer (some ⟨w.heap.size,0,none⟩),undef,.bool false,.pointer (some ⟨w.heap.size+1,0,none⟩),.agg #[.int .u8 g,.int .u32 nn,.slice (some ⟨bv,0,none⟩) zs.length cv],.slice (some ⟨bl,0,none⟩) ls.length cl,.func (.func 176) #[] #[.pointer (some ⟨w.heap.size+2,0,none⟩)],.func (.func 178) #[] #[.pointer (some ⟨w.heap.size+2+1,0,none⟩),.pointer (some ⟨w.heap.size+2+1+1,0,none⟩)],.agg #[.int .u8 x.1,.int .u16 x.2],undef,undef,undef,undef,undef,undef],defers:=[]}) ?assign ?body ?done ?stop
  case assign=>
   intro l x W K hK
   gi_wp2
   simpa using hK
  case body=>
   rintro l pre x W ⟨⟨⟨z,hz⟩,hv⟩,hB⟩ _
   have hc:=hz.cell
   have hf:=hz.frozen
   gi_wp2
   have hg:=grownBy_setCell' W (w.heap.size+1) (Value.int .i64 (wrap64 (z+1)))
   exact⟨KeepsOthers.setCell _ _ _,⟨hg.size,fun b hb hs=>hg.block b hs (fun e=>by cases e;exact hb.2 rfl)⟩,⟨⟨_,hz.set _⟩,(hg.block _ (Array.getElem?_eq_some_iff.1 hv).1 (fun e=>by simp at e)).trans hv⟩,hB.setCell (p:=⟨w.heap.size+1,0,none⟩) (by first|omega|(dsimp only;omega)) _⟩
  case done=>
   rintro D ys W hD _ ⟨⟨⟨z,hz⟩,hv⟩,hB⟩ hK
   have hc:=hz.cell
   have hc0:W.cell? ⟨w.heap.size,0,none⟩=some (.int .u8 g):=by unfold World.cell?;rw[hv];rfl
   have hc1:W.cell? ⟨w.heap.size,1,none⟩=some (.int .u32 nn):=by unfold World.cell?;rw[hv];rfl
   have hc2:W.cell? ⟨w.heap.size,2,none⟩=some (.slice (some ⟨bv,0,none⟩) zs.length cv):=by unfold World.cell?;rw[hv];rfl
   gi_wp2
   refine wpIn_mono (Q:=Exit.then (fun a W'=>(∃(b:Bool) (x y z u:Value),a={tmps:= #[.agg #[.int .u8 g,.int .u32 nn,.slice (some ⟨bv,0,none⟩) zs.length cv],.slice (some ⟨bl,0,none⟩) ls.length cl,.pointer (some ⟨w.heap.size,0,none⟩),undef,.bool b,.pointer (some ⟨w.heap.size+1,0,none⟩),.agg #[.int .u8 g,.int .u32 nn,.slice (some ⟨bv,0,none⟩) zs.length cv],.slice (some ⟨bl,0,none⟩) ls.length cl,.func (.func 176) #[] #[.pointer (some ⟨w.heap.size+2,0,none⟩)],.func (.func 178) #[] #[.pointer (some ⟨w.heap.size+2+1,0,none⟩),.pointer (some ⟨w.heap.size+2+1+1,0,none⟩)],undef,undef,undef,x,y,z,u],defers:=[{target:=.collected D,args:= #[]}]})∧Below W.heap.size W W') (fun _ _ _=>False)) ?_ ?_
   ·have hd:W.drew.cell? ⟨w.heap.size+1,0,none⟩=some (.int .i64 z):=hc
    have hlt:w.heap.size+1<W.heap.size:=hz.lt
    have hne:¬w.heap.size+1=W.heap.size:=by omega
    rcases Int.lt_or_le z (wrap64 (wrap64 (zs.length / 2)+1)) with hM|hM
    ·have hN:¬(wrap64 (wrap64 (zs.length / 2)+1)≤z):=Int.not_le.2 hM
     gi_region_with (first|(refine⟨trivial,?_⟩;gi_at_call 90;refine(Zx _ _ _ _ _ _).mono ?_;rintro e w' ⟨rfl,rfl⟩))
     all_goals exact⟨⟨_,_,_,_,_,rfl⟩,by first|exact((Below.refl _ W).alloc (akz _) _).drew|exact((Below.refl _ W).drew).alloc (akz _) _⟩
    ·gi_region_with (first|(refine⟨trivial,?_⟩;gi_at_call 90;refine(Zx _ _ _ _ _ _).mono ?_;rintro e w' ⟨rfl,rfl⟩))
     all_goals exact⟨⟨_,_,_,_,_,rfl⟩,by first|exact((Below.refl _ W).alloc (akz _) _).drew|exact((Below.refl _ W).drew).alloc (akz _) _⟩
   ·rintro e a3 W3 h
    cases e<;>first|exact h.elim|skip
    obtain⟨⟨b,x,y,z,u,rfl⟩,hB3⟩:=h
    gi_wp2
    refine⟨by simp,.inl ⟨_,_,rfl,run_takeDeferred ((hB3.block _ (Array.getElem?_eq_some_iff.1 hK).1).trans hK),?_⟩⟩
    refine⟨_,results_tmp rfl _ _ _,b,rfl,?_⟩
    exact(hB.trans (hB3.mono hB.size)).trans (belowK_b (w:=w) (akz _) W3 D _ _ (by omega) ((hB3.block _ (Array.getElem?_eq_some_iff.1 hK).1).trans hK) rfl rfl)
  case stop=>
   rintro D c pre W _ _ h _
   exact h.elim
theorem akg {a b f:Nat} {args:Array Value} {w:World} {R:Ending→World→Prop} (h:CallsIn Fence.wide a Tryz.prog f args w R):CallsIn Fence.wide b Tryz.prog f args w R:=callsIn_wide.2 (callsIn_wide.1 h)
theorem ZI (y:Int×Int) (w:World):CallsIn Fence.wide 1 Tryz.prog 59 #[.slice none 0 0,.agg #[.int .u8 y.1,.int .u16 y.2]] w fun e W'=>e= .returned (.int .i64 (-1))∧Below w.heap.size w W':=by
 refine callsIn_of_wp Tryz.func59 rfl trivial ?_ rfl
 simp only[Tryz.ntmps59,List.size_toArray,akl,akn,Nat.reduceAdd,Nat.reduceSub,Array.replicate_succ,Array.replicate_zero,List.push_toArray,List.append_toArray,aks,akr]
 gi_wp2
 gi_loopw [8] (fun i wr=>i= .int .i64 0∧Below w.heap.size w wr) (fun _ _=>0)
 case atStart=>exact⟨rfl,(Below.refl _ w).alloc (akz _) _⟩
 case round=>
  obtain⟨rfl,hB⟩:=hrel
  gi_wp2
  refine bodyPost_ret (results_tmp rfl _ _ _) rfl ?_
  exact⟨rfl,hB⟩
theorem Tt (y:Int×Int) (w:World):CallsIn Fence.wide 2 Tryz.prog 57 #[.slice none 0 0,.agg #[.int .u8 y.1,.int .u16 y.2]] w fun e W'=>e= .returned (.bool false)∧Below w.heap.size w W':=by
 refine callsIn_of_wp Tryz.func57 rfl trivial ?_ rfl
 simp only[Tryz.ntmps57,List.size_toArray,akl,akn,Nat.reduceAdd,Nat.reduceSub,Array.replicate_succ,Array.replicate_zero,List.push_toArray,List.append_toArray,aks,akr]
 have hB1:Below w.heap.size w (w.alloc (Obj.cells #[Value.int .u8 y.1,Value.int .u16 y.2] 52)):=(Below.refl _ w).alloc (akz _) _
 obtain⟨hx0,hx1⟩:=jw (x:=y) (World.alloc_heap_new w (Obj.cells #[Value.int .u8 y.1,Value.int .u16 y.2] 52))
 gi_wp2_with (refine⟨trivial,?_⟩;gi_at_call 59;refine(ZI y _).mono ?_;rintro e w3 ⟨rfl,h1⟩)
 refine bodyPost_ret (results_tmp rfl _ _ _) rfl ?_
 exact⟨rfl,hB1.trans (h1.mono (by simp))⟩
theorem Yy (bq:Nat) (y:Int×Int) (w:World) (hq:bq<w.heap.size) (hc:w.cell? ⟨bq,0,none⟩=some (.slice none 0 0)):
  CallsIn Fence.wide 3 Tryz.prog 176 #[.agg #[.int .u8 y.1,.int .u16 y.2],.pointer (some ⟨bq,0,none⟩)] w fun e W'=>e= .returned (.bool false)∧Below w.heap.size w W':=by
 refine callsIn_of_wp Tryz.func176 rfl trivial ?_ rfl
 simp only[Tryz.ntmps176,List.size_toArray,akl,akn,Nat.reduceAdd,Nat.reduceSub,Array.replicate_succ,Array.replicate_zero,List.push_toArray,List.append_toArray,aks,akr]
 have hB1:Below w.heap.size w (w.alloc (Obj.cells #[Value.int .u8 y.1,Value.int .u16 y.2] 52)):=(Below.refl _ w).alloc (akz _) _
 obtain⟨hx0,hx1⟩:=jw (x:=y) (World.alloc_heap_new w (Obj.cells #[Value.int .u8 y.1,Value.int .u16 y.2] 52))
 have hc1:=(hB1.cell (p:=⟨bq,0,none⟩) hq).trans hc
 gi_wp2_with (refine⟨trivial,?_⟩;gi_at_call 57;refine(Tt y _).mono ?_;rintro e w3 ⟨rfl,h1⟩)
 refine bodyPost_ret (results_tmp rfl _ _ _) rfl ?_
 exact⟨rfl,hB1.trans (h1.mono (by simp))⟩
theorem abI (bc bq:Nat) (y:Int×Int) (w:World) (hb:bc<w.heap.size) (hq:bq<w.heap.size) (hc:w.cell? ⟨bc,0,none⟩=some (.func (.func 176) #[] #[.pointer (some ⟨bq,0,none⟩)])) (hd:w.cell? ⟨bq,0,none⟩=some (.slice none 0 0)):
  CallsIn Fence.wide 4 Tryz.prog 160 #[.agg #[.int .u8 y.1,.int .u16 y.2],.pointer (some ⟨bc,0,none⟩)] w fun e W'=>e= .returned (.bool true)∧Below w.heap.size w W':=by
 refine callsIn_of_wp Tryz.func160 rfl trivial ?_ rfl
 simp only[Tryz.ntmps160,List.size_toArray,akl,akn,Nat.reduceAdd,Nat.reduceSub,Array.replicate_succ,Array.replicate_zero,List.push_toArray,List.append_toArray,aks,akr]
 have hB1:Below w.heap.size w (w.alloc (Obj.cells #[Value.int .u8 y.1,Value.int .u16 y.2] 52)):=(Below.refl _ w).alloc (akz _) _
 obtain⟨hx0,hx1⟩:=jw (x:=y) (World.alloc_heap_new w (Obj.cells #[Value.int .u8 y.1,Value.int .u16 y.2] 52))
 have hc1:=(hB1.cell (p:=⟨bc,0,none⟩) hb).trans hc
 have hd1:=(hB1.cell (p:=⟨bq,0,none⟩) hq).trans hd
 gi_wp2_with (refine⟨trivial,?_⟩;gi_at_call 176;refine(Yy bq y _ (by simp;omega) hd1).mono ?_;rintro e w3 ⟨rfl,h1⟩)
 refine bodyPost_ret (results_tmp rfl _ _ _) rfl ?_
 exact⟨rfl,hB1.trans (h1.mono (by simp))⟩
end Go.Proofs.YtjhpjjbnojbikaaGreat
namespace Go.Proofs.YtjhpjjbnojbikaaGreat
open Go Go.RowKit Go.Sy
attribute [local go_sem] Oper.semAt_some
open Go.Eng hiding ah
noncomputable def Hm:List AV→Bool
 |[.int 1 _,.int 2 _]=>true
 |_=>false
def yc:List AV→Int×Int
 |[.int _ a,.int _ b]=>(a,b)
 |_=>(0,0)
theorem LF:∀{el:List AV},Hm el=true→el=[.int 1 (yc el).1,.int 2 (yc el).2]:=by
 intro el h
 unfold Hm at h
 split at h
 ·rfl
 ·cases h
noncomputable def gN:aM:=fun us M nx K=>match us with
 |[.fn f [.ptr a oa,.ptr b ob]]=>ac (Nat.beq f 178) (ac (Nat.beq oa 0) (ac (Nat.beq ob 0) (dE M a fun _ _ _ ea=>dE M b fun _ _ _ eb=>match ea,eb with
  |[[_,_,.sl v vo m _]],[[.fn g [.ptr c oc]]]=>ac (Nat.beq g 160) (ac (Nat.beq vo 0) (ac (Nat.beq oc 0) (dE M c fun _ _ _ ec=>match ec with
   |[[.fn h [.ptr d od]]]=>ac (Nat.beq h 176) (ac (Nat.beq od 0) (dE M d fun _ _ _ ed=>match ed with
    |[[.nilS]]=>dE M v fun _ _ sv ev=>ac (Nat.beq sv 2) (ac (Nat.beq ev.length m) (ac (Nat.blt 0 m) (ac (Nat.ble m 1000) (ac (ev.all Hm) (T.set bI M nx (some (.blk true 52 2 ev)) fun M'=>fN (Nat.succ nx) fun n=>K (.sl nx 0 m (.rest 0)) M' n)))))
    |_=>false))
   |_=>false)))
  |_,_=>false)))
 |_=>false
noncomputable def jj:aM:=fun us M nx K=>match us with
 |[.agg [.int gk g,.int nk n,.sl v vo m _],.sl l lo n2 _]=>ac (Nat.beq gk 1) (ac (Nat.beq nk 3) (ac (Nat.beq vo 0) (ac (Nat.beq lo 0) (dE M v fun _ _ sv ev=>dE M l fun _ _ sl el=>ac (Nat.beq sv 2) (ac (Nat.beq sl 2) (ac (Nat.beq ev.length m) (ac (Nat.beq el.length n2) (ac (Nat.blt 0 m) (ac (Nat.blt 0 n2) (ac (Nat.ble m 1000) (ac (Nat.ble n2 1000) (ac (ev.all Hm) (ac (el.all Hm) (ah fun q:Prop=>K (.sy (.bool q)) M nx))))))))))))))
 |_=>false
section
variable {E:Env} {ρ:Ren} {G:GS} {F:List bo} {M:T} {nx:Nat} {w:World}
theorem Hl (hs:Sim E ρ G F M nx w) {v Ty:Nat} {g:Bool} {els:List (List AV)} (hv:M.get v=some (.blk g Ty 2 els)) (ha:els.all Hm=true) (h0:0<els.length):∃e,ρ v=some e∧e.b<w.heap.size∧Procs w e.b (els.map yc):=by
 have hal:∀(j:Nat) (el:List AV),els[j]?=some el→el=[.int 1 (yc el).1,.int 2 (yc el).2]:=fun j el h=>LF (List.all_eq_true.1 ha el (akp h))
 obtain⟨el0,he0⟩:∃el0,els[0]?=some el0:=⟨_,List.getElem?_eq_getElem h0⟩
 obtain⟨e,x,h1,h2,h3⟩:=hs.cell (q:=0) (r:=0) (v:=.int 1 (yc el0).1) hv he0 (by rw[hal _ _ he0];rfl)
 refine⟨e,h1,?_,fun j hj z hz=> ?_⟩
 ·rcases Nat.lt_or_ge e.b w.heap.size with h|h
  ·exact h
  ·rw[World.cell?,Array.getElem?_eq_none h]at h3;cases h3
 ·rw[List.getElem?_map]at hz
  obtain⟨el,hel,rfl⟩:=Option.map_eq_some_iff.1 hz
  obtain⟨e1,x1,a1,a2,a3⟩:=hs.cell (q:=j) (r:=0) (v:=.int 1 (yc el).1) hv hel (by rw[hal _ _ hel];rfl)
  obtain⟨e2,x2,b1,b2,b3⟩:=hs.cell (q:=j) (r:=1) (v:=.int 2 (yc el).2) hv hel (by rw[hal _ _ hel];rfl)
  obtain rfl:e1=e:=akE (a1.symm.trans h1)
  obtain rfl:e2=e1:=akE (b1.symm.trans h1)
  simp only[den,akC]at a2 b2
  subst a2;subst b2
  exact⟨by have:=a3;simp only[Nat.add_zero]at this;exact this,b3⟩
end
theorem ii {k:Nat}:aX Tryz.prog 162 k jj:=by
 intro us xs E ρ G F M nx w K R hE hs hd hk hr
 unfold jj at hk
 split at hk
 case h_2=>cases hk
 rename_i gk g nk n v vo m vc l lo n2 lc
 obtain⟨e1,hk⟩:=aq hk
 obtain⟨e2,hk⟩:=aq hk
 obtain⟨e3,hk⟩:=aq hk
 obtain⟨e4,hk⟩:=aq hk
 obtain⟨gv,Tv,sv,ev,hv,hk⟩:=ch hk
 obtain⟨gl,Tl,sl,el,hl,hk⟩:=ch hk
 obtain⟨e5,hk⟩:=aq hk
 obtain⟨e6,hk⟩:=aq hk
 obtain⟨e7,hk⟩:=aq hk
 obtain⟨e8,hk⟩:=aq hk
 obtain⟨e9,hk⟩:=aq hk
 obtain⟨e10,hk⟩:=aq hk
 obtain⟨e11,hk⟩:=aq hk
 obtain⟨e12,hk⟩:=aq hk
 obtain⟨e13,hk⟩:=aq hk
 obtain⟨e14,hK⟩:=aq hk
 have e1:=ako e1
 have e2:=ako e2
 have e3:=ako e3
 have e4:=ako e4
 have e5:=ako e5
 have e6:=ako e6
 have e7:=ako e7
 have e8:=ako e8
 subst e1;subst e2;subst e3;subst e4;subst e5;subst e6;subst e7;subst e8
 rw[Nat.blt_eq]at e9 e10
 rw[Nat.ble_eq]at e11 e12
 obtain⟨b1,h1,l1,p1⟩:=Hl hs hv e13 e9
 obtain⟨b2,h2,l2,p2⟩:=Hl hs hl e14 e10
 obtain⟨x0,ys,q0,q1,rfl⟩:=cA hd
 obtain⟨x1,ys2,q2,q3,rfl⟩:=cA q1
 obtain rfl:ys2=[]:=by simpa[aO] using q3.symm
 simp only[den,aO,h1,h2,akC]at q0 q2
 subst q0;subst q2
 have body:=Zn g n b1.b b2.b (dr b1 vc) (dr b2 lc) (ev.map yc) (el.map yc) (by simpa using e11) (by simpa using e12) w l1 l2 p1 p2
 rw[akm,akm]at body
 refine(callsIn_wide.1 body).mono ?_
 rintro en w' ⟨b,rfl,hb⟩
 refine hr _ _ _ E ρ w' _ (au hK (b=true)) hE (MLe.refl _) (fun _ _ _ h=>h) (hs.ext hb) ?_
 cases b<;>simp[den,bx,aF]
theorem afE {E:Env} {ρ:Ren} {nx g cap n:Nat} (h:ρ nx=some ⟨g,cap⟩):den E ρ (.sl nx 0 n (.rest 0))=some (.slice (some ⟨g,0,none⟩) n cap):=by
 simp[den,h,dr]
theorem Tn {E:Env} {ρ:Ren}:∀{els:List (List AV)},els.all Hm=true→aO E ρ els.flatten=some (Fp (els.map yc))
 |[],_=>rfl
 |el::els,h=>by
  obtain⟨h1,h2⟩:=aV h
  have e:=LF h1
  have:=Tn (E:=E) (ρ:=ρ) h2
  rw[e]
  simp only[List.flatten_cons,akr,aks,aO,den,this,List.map_cons,List.flatMap_cons]
  rfl
theorem gw {k:Nat}:aX Tryz.prog 158 k gN:=by
 intro us xs E ρ G F M nx w K R hE hs hd hk hr
 unfold gN at hk
 split at hk
 case h_2=>cases hk
 rename_i f a oa b ob
 obtain⟨e1,hk⟩:=aq hk
 obtain⟨e2,hk⟩:=aq hk
 obtain⟨e3,hk⟩:=aq hk
 obtain⟨ga,Ta,sa,ea,ha,hk⟩:=ch hk
 obtain⟨gb,Tb,sb,eb,hb,hk⟩:=ch hk
 split at hk
 case h_2=>cases hk
 rename_i c0 c1 v vo m vc g c oc
 obtain⟨e4,hk⟩:=aq hk
 obtain⟨e5,hk⟩:=aq hk
 obtain⟨e6,hk⟩:=aq hk
 obtain⟨gc,Tc,sc,ec,hc,hk⟩:=ch hk
 split at hk
 case h_2=>cases hk
 rename_i h d od
 obtain⟨e7,hk⟩:=aq hk
 obtain⟨e8,hk⟩:=aq hk
 obtain⟨gd,Td,sd,ed,hdd,hk⟩:=ch hk
 split at hk
 case h_2=>cases hk
 obtain⟨gv,Tv,sv,ev,hv,hk⟩:=ch hk
 obtain⟨e9,hk⟩:=aq hk
 obtain⟨e10,hk⟩:=aq hk
 obtain⟨e11,hk⟩:=aq hk
 obtain⟨e12,hk⟩:=aq hk
 obtain⟨e13,hk⟩:=aq hk
 obtain⟨M',hK,g1,g2⟩:=T.set_ok _ _ _ _ _ hk
 rw[bW]at hK
 have e1:=ako e1
 have e2:=ako e2
 have e3:=ako e3
 have e4:=ako e4
 have e5:=ako e5
 have e6:=ako e6
 have e7:=ako e7
 have e8:=ako e8
 have e9:=ako e9
 have e10:=ako e10
 subst e1;subst e2;subst e3;subst e4;subst e5;subst e6;subst e7;subst e8;subst e9;subst e10
 rw[Nat.blt_eq]at e11
 rw[Nat.ble_eq]at e12
 obtain⟨bv,h1,l1,p1⟩:=Hl hs hv e13 e11
 obtain⟨ba,xa,a1,a2,a3⟩:=hs.cell (q:=0) (r:=2) ha rfl rfl
 obtain⟨bb,xb,b1,b2,b3⟩:=hs.cell (q:=0) (r:=0) hb rfl rfl
 obtain⟨bc,xc,c1,c2,c3⟩:=hs.cell (q:=0) (r:=0) hc rfl rfl
 obtain⟨bd,xd,d1,d2,d3⟩:=hs.cell (q:=0) (r:=0) hdd rfl rfl
 simp only[den,aO,h1,c1,d1,akC]at a2 b2 c2 d2
 subst a2;subst b2;subst c2;subst d2
 simp only[Nat.zero_mul,Nat.zero_add,Nat.add_zero]at a3 b3 c3 d3
 obtain⟨x0,ys,q0,q1,rfl⟩:=cA hd
 obtain rfl:ys=[]:=by simpa[aO] using q1.symm
 simp only[den,aO,a1,b1,akC]at q0
 subst q0
 have lt:∀{b o:Nat} {x:Value},w.cell? ⟨b,o,none⟩=some x→b<w.heap.size:=fun{b o x} h=>by
  rcases Nat.lt_or_ge b w.heap.size with q|q
  ·exact q
  ·rw[World.cell?,Array.getElem?_eq_none q]at h;cases h
 have body:=Yp ba.b bb.b bv.b 0 _ 160 #[.pointer (some ⟨bc.b,0,none⟩)] (ev.map yc) (by simpa using e12) (.inl rfl) w l1 (lt a3) (lt b3)
  (fun x _ W' hW=>(akg (abI bc.b bd.b x W' (Nat.lt_of_lt_of_le (lt c3) hW.size) (Nat.lt_of_lt_of_le (lt d3) hW.size) ((hW.cell (p:=⟨bc.b,0,none⟩) (lt c3) (lt c3)).trans c3) ((hW.cell (p:=⟨bd.b,0,none⟩) (lt d3) (lt d3)).trans d3))).mono (by rintro e W2 ⟨rfl,hB⟩;exact⟨true,rfl,fun _=>rfl,hB⟩))
  (by rw[akm];exact a3) b3 (fun j hj x hx=>by simpa using p1 j hj x hx)
 rw[akm]at body
 refine(callsIn_wide.1 body).mono ?_
 rintro en w' ⟨r,rfl,hrow,hB⟩
 rcases hrow.2 with⟨_,h0⟩|⟨g',cap,cur,rfl,r1,r2,r3,r4,r5,r6⟩
 ·omega
 have hfr:=hs.fresh nx (akz _)
 have hS:Sim E (ρ.set nx ⟨g',cap⟩) G F M' (nx+1) w':=hs.regrow (i:=nx) (old:=none) (o':=.blk true 52 2 ev) (ob':=.cells cur 52 (0,0)) hfr (Nat.le_succ _) (Nat.lt_succ_self _) (fun b h=>by cases h)
  ⟨hB.os,hB.tape,hB.output,hB.size,fun k hk _=>hB.block k hk⟩ r2 (.inr r1)
  ⟨(fun el hel=>by rw[LF (List.all_eq_true.1 e13 el hel)];rfl),by decide,cur,Fp (ev.map yc),rfl,Tn e13,by simpa using r5,by simpa using r6,by simpa using r3,r4⟩ g1 (fun m hm _=>g2 m hm) (fun h=>absurd rfl h)
 exact hr _ _ _ E _ w' _ hK hE (MLe.refl _) (fun m e' hm he=>Ren.le_set _ hfr m e' he) hS (afE (Ren.set_self _ _ _))
theorem afv (w:World):CallsIn Fence.wide 3 Tryz.prog 156 #[.slice none 0 0,.int .i64 0] w fun e W'=>e= .returned (.slice none 0 0)∧W'=w:=by
 refine callsIn_of_wp Tryz.func156 rfl trivial ?_ rfl
 simp only[Tryz.ntmps156,List.size_toArray,akl,akn,Nat.reduceAdd,Nat.reduceSub,Array.replicate_succ,Array.replicate_zero,List.push_toArray,List.append_toArray,aks,akr]
 gi_wp2
 refine bodyPost_ret (results_tmp rfl _ _ _) rfl ?_
 exact⟨rfl,rfl⟩
noncomputable def oS:aM:=fun us M nx K=>match us with
 |[.nilS,.int k n]=>ac (Nat.beq k 0) (ac (aF (n=0)) (K .nilS M nx))
 |_=>false
theorem kU {k:Nat}:aX Tryz.prog 156 k oS:=by
 intro us xs E ρ G F M nx w K R hE hs hd hk hr
 unfold oS at hk
 split at hk
 case h_2=>cases hk
 rename_i kk n
 obtain⟨e1,hk⟩:=aq hk
 obtain⟨e2,hK⟩:=ae hk
 have e1:=ako e1
 subst e1;subst e2
 obtain⟨x0,ys,q0,q1,rfl⟩:=cA hd
 obtain⟨x1,ys2,q2,q3,rfl⟩:=cA q1
 obtain rfl:ys2=[]:=by simpa[aO] using q3.symm
 simp only[den,akC]at q0 q2
 subst q0;subst q2
 refine(callsIn_wide.1 (afv w)).mono ?_
 rintro en w' ⟨rfl,rfl⟩
 exact hr _ _ _ E ρ w' _ hK hE (MLe.refl _) (fun _ _ _ h=>h) hs rfl
end Go.Proofs.YtjhpjjbnojbikaaGreat
namespace Go.Proofs.Tryz
open Go.Proofs.YtjhpjjbnojbikaaGreat (gw gN ii jj kU oS)
open Go Go.RowKit Go.Sy
open Go.Eng hiding ah
set_option maxRecDepth 1000000
set_option linter.unusedVariables false
set_option maxHeartbeats 4000000
noncomputable def iS (us:List AV) (a c:Nat):Nat:=match dV us a with
 |some (.agg l)=>match dV l c with
  |some (.int _ (.ofNat z))=>z
  |_=>999
 |_=>999
noncomputable def Gz:=aZ VW 5 gN 158 []
theorem LR:aE Tryz.prog Gz:=az gw XJ
noncomputable def Kj:=aZ Gz 2 jj 162 []
theorem OX:aE Tryz.prog Kj:=az ii LR
noncomputable def HF:=aZ Kj 0 oS 156 []
theorem Gy:aE Tryz.prog HF:=az kU OX
def DR:XF:=.mk 16 (.one 2) (.seq (g_ 2 [e_ 0 1 (.box 74 (.t 0)),p_ 1 2 (.mv (.c (.bool false)))]) (.seq (h_ 14 [p_ 0 3 (f_ 1 1),r_ 1 4 (l_ 3),p_ 2 5 (.bin 3 0 (.t 4) (.c (.int 1 (.ofNat 4)))),p_ 3 6 (m_ 5),aU 4 7 6 true (.ld true 31 (.t 1)),da 5 8 6 true 136 [.t 7],p_ 6 9 (.pick (.t 6) (.t 8) (.c (.bool false))),p_ 7 10 (m_ 9),aU 8 11 10 true (.ld true 31 (.t 1)),aU 9 12 10 true (.ld true 31 (.t 1)),da 10 13 10 true 138 [.t 12],ag_ 8 11 10 true (.ld true 31 (.t 1)),da 11 14 10 true 137 [.t 11,.t 13],p_ 12 15 (.pick (.t 10) (.t 14) (.c (.bool false))),p_ 13 2 (m_ 15)]) .ret))
theorem DQ:aW Tryz.prog 108 DR=true:=by kernel_rfl
structure ix where
 fr:Int
 c:Int
 h:Value
 l:List Ke
noncomputable def nF (p:ix):IE:=([.agg [cu,aa,aa,bt,.sy (.int 3 p.fr),.sy (.int 3 p.c),aw,aI,aI,aa,aJ,aw,aa,aa,aa,aa,aa,aa,aa,.nilS,aa,.str [],aa,aw,.nilS,aa,aJ,.bool false,.nilS,.sy (.imm p.h 18 Ke p.l ai),.nilS]],.leaf,0)
noncomputable def JL (p:ix) (K:KE):Bool:=K (.bool true) .leaf 0
def fD (p:ix):Prop:=Bn p.l∧p.l.length≤400∧0≤p.fr∧p.fr+(p.l.length:Int)≤400∧0≤p.c∧p.c≤400
theorem YR (p:ix) (K:KE) (hpre:fD p) (hK:JL p K=true):(aY 0 (bg HF) bp 600 DR (nF p).1 (nF p).2.1 (nF p).2.2 K)=true:=by
 refine Eq.trans (b:=(let z0:Bool:=(K (.bool false) .leaf 0);iP (p.fr≤(400:Int)) (iP (p.c≤(400:Int)) (mP (aL 0 p.fr) (mP (aL 0 (p.fr+(p.l.length:Int))) (iP ((p.fr+(p.l.length:Int))≤(400:Int)) (iP ((p.l.length:Int)≤(400:Int)) (ax fun p1:FR=>mP (([.sy (.imm p.h 18 Ke p.l ai),.fn 181 [.ptr 0 0]],(.node .leaf (some (.blk false 5 1 [[aa]])) .leaf),1)=Li p1) (mP (yg p1) (mP (((.imm p.h 18 Ke p.l ai):SY)=(.imm p.h 18 Ke p.l ai)) (mP (((.int 3 p.fr):SY)=(.int 3 p.fr)) (ac (qL [qI 3 p.fr,qI 3 p.c,qY ((.imm p.h 18 Ke p.l ai))]) (ax fun p2:ee=>mP (([.sy (.imm p.h 18 Ke p.l ai),.sy (.imm p.h 18 Ke p.l ai),.fn 37 []],.leaf,0)=jy p2) (mP (cW p2) (iP (p.fr=p.fr) (iP (p.c=p.c) (K (.bool true) .leaf 0) z0) z0)))))))) z0) z0))) z0) z0)) (by kernel_rfl) ?_
 dsimp only[fD]at hpre
 obtain⟨u1,u2,u3,u4,u5,u6⟩:=hpre
 refine iI (fun hc1=> ?_) (fun hc1=> ?_)
 refine iI (fun hc2=> ?_) (fun hc2=> ?_)
 refine aQ (aQ ?_)
 refine iI (fun hc3=> ?_) (fun hc3=> ?_)
 refine iI (fun hc4=> ?_) (fun hc4=> ?_)
 refine aP (⟨p.h,p.l⟩:FR) rfl (by(try dsimp only[yg]);exact⟨by assumption,by omega⟩) ?_
 refine aK (aK ?_)
 refine aG (by simp[qL,qI,qS,qY,aF]) ?_
 refine aP (⟨p.h,p.l,p.h,p.l⟩:ee) rfl (by(try dsimp only[cW]);first|exact⟨rfl,by omega⟩|exact⟨by assumption,by omega⟩) ?_
 refine iI (fun hc5=> ?_) (fun hc5=> ?_)
 refine iI (fun hc6=> ?_) (fun hc6=> ?_)
 exact hK
 first|(exfalso;omega)|(exfalso;simp_all;done)
 first|(exfalso;omega)|(exfalso;simp_all;done)
 first|(exfalso;omega)|(exfalso;simp_all;done)
 first|(exfalso;omega)|(exfalso;simp_all;done)
 first|(exfalso;omega)|(exfalso;simp_all;done)
 first|(exfalso;omega)|(exfalso;simp_all;done)
noncomputable def Ei:aM:=bn (fun us M=>(Nat.beq (iS us 0 0) 3)) (be nF (cm fD JL)) (fun _ _ _ _=>false)
theorem NZ:aX Tryz.prog 108 0 Ei:=aD (bi (f:=108) (k:=0) (ay Gy) DQ (by rfl) (by rfl) YR) dT
noncomputable def Ax:=aZ HF 0 Ei 108 [(0,15)]
theorem By:aE Tryz.prog Ax:=az NZ Gy
def OD:XF:=DR
theorem Sa:aW Tryz.prog 108 OD=true:=DQ
structure iw where
 fr:Int
 c:Int
 h:Value
 l:List Ke
noncomputable def nE (p:iw):IE:=([.agg [ju,aa,aa,bt,.sy (.int 3 p.fr),.sy (.int 3 p.c),aw,aI,aI,aa,aJ,aw,aa,aa,aa,aa,aa,aa,aa,.nilS,aa,.str [],aa,aw,.nilS,aa,aJ,.bool false,.nilS,.sy (.imm p.h 18 Ke p.l ai),.nilS]],.leaf,0)
noncomputable def JK (p:iw) (K:KE):Bool:=K (.bool true) .leaf 0
def fC (p:iw):Prop:=p.l.length=0∧0≤p.fr∧p.fr≤400∧p.c=0
theorem YQ (p:iw) (K:KE) (hpre:fC p) (hK:JK p K=true):(aY 0 (bg Ax) bp 600 OD (nE p).1 (nE p).2.1 (nE p).2.2 K)=true:=by
 refine Eq.trans (b:=(let z0:Bool:=(K (.bool false) .leaf 0);iP (p.fr≤(400:Int)) (mP (((.int 3 p.fr):SY)=(.int 3 p.fr)) (ac (qL [qI 3 p.fr,qI 3 p.c,qY ((.imm p.h 18 Ke p.l ai))]) (iP (¬(p.l.length:Int)=(0:Int)) (iP (p.fr=p.fr) (iP (p.c=(0:Int)) z0 z0) z0) (iP ((0:Int)<(p.l.length:Int)) (mP (0≤(0:Int)∧(0:Int)<(p.l.length:Int)) (ah fun x1:Ke=>iP (p.l[0]?=some x1) (false) true)) (iP (p.fr=p.fr) (iP (p.c=(0:Int)) (K (.bool true) .leaf 0) z0) z0))))) z0)) (by kernel_rfl) ?_
 dsimp only[fC]at hpre
 obtain⟨u1,u2,u3,u4⟩:=hpre
 refine iI (fun hc1=> ?_) (fun hc1=> ?_)
 refine aK ?_
 refine aG (by simp[qL,qI,qS,qY,aF]) ?_
 refine iI (fun hc2=> ?_) (fun hc2=> ?_)
 refine iI (fun hc3=> ?_) (fun hc3=> ?_)
 refine iI (fun hc4=> ?_) (fun hc4=> ?_)
 first|(exfalso;omega)|(exfalso;simp_all;done)
 first|(exfalso;omega)|(exfalso;simp_all;done)
 first|(exfalso;omega)|(exfalso;simp_all;done)
 refine iI (fun hc5=> ?_) (fun hc5=> ?_)
 refine gy ?_
 refine aj (fun x1=> ?_)
 refine iI (fun hi6=> ?_) (fun _=>rfl)
 exfalso;omega
 refine iI (fun hc7=> ?_) (fun hc7=> ?_)
 refine iI (fun hc8=> ?_) (fun hc8=> ?_)
 exact hK
 first|(exfalso;omega)|(exfalso;simp_all;done)
 first|(exfalso;omega)|(exfalso;simp_all;done)
 first|(exfalso;omega)|(exfalso;simp_all;done)
noncomputable def OO:aM:=bn (fun us M=>(Nat.beq (iS us 0 0) 4)) (be nE (cm fC JK)) Ei
theorem Zu:aX Tryz.prog 108 0 OO:=aD (bi (f:=108) (k:=0) (ay By) Sa (by rfl) (by rfl) YQ) NZ
noncomputable def Aw:=aZ Ax 0 OO 108 [(0,15)]
theorem Bw:aE Tryz.prog Aw:=az Zu By
noncomputable def ig (a:Bool):Bool:=Bool.rec true false a
noncomputable def Sh1 (l:List Ke) (com:Int) (c0:Int) (k0:Nat):T:=(.node (.node (.node (.node .leaf (some (.prow 68 18 Ke l ai)) .leaf) (some (bA)) .leaf) (some (jb)) (.node (.node .leaf (some (jb)) .leaf) (some (bV 1 9)) .leaf)) (some (bS 1 1 2 3 4 5 aa)) (.node (.node (.node .leaf (some (.map [(.agg bu,.sy (.int 0 c0),0)] 1)) .leaf) (some (jb)) .leaf) (some (bR 1 6 7 8 aa k0 com)) (.node .leaf (some (jb)) .leaf)))
noncomputable def dI (l:List Ke) (com:Int) (c0:Int):T:=Sh1 l com c0 l.length
noncomputable def Sh2 (l:List Ke) (com:Int) (c0:Int) (c1:Int) (k0:Nat):T:=(.node (.node (.node (.node .leaf (some (.prow 68 18 Ke l ai)) .leaf) (some (bA)) .leaf) (some (bN)) (.node (.node .leaf (some (bN)) .leaf) (some (bV 2 9)) .leaf)) (some (bS 2 1 2 3 4 5 aa)) (.node (.node (.node .leaf (some (.map [(.agg bu,.sy (.int 0 c0),0),(.agg bK,.sy (.int 0 c1),1)] 2)) .leaf) (some (bN)) .leaf) (some (bR 2 6 7 8 aa k0 com)) (.node .leaf (some (bN)) .leaf)))
noncomputable def dB (l:List Ke) (com:Int) (c0:Int) (c1:Int):T:=Sh2 l com c0 c1 l.length
noncomputable def Sf2 (l:List Ke) (com:Int) (c0:Int) (c1:Int) (me:Int) (k0:Nat):T:=(.node (.node (.node (.node .leaf (some (.prow 68 18 Ke l ai)) .leaf) (some (bA)) .leaf) (some (bN)) (.node (.node .leaf (some (bN)) .leaf) (some (bV 2 9)) .leaf)) (some (bS 2 1 2 3 4 5 (.sy (.int 1 me)))) (.node (.node (.node .leaf (some (.map [(.agg bu,.sy (.int 0 c0),0),(.agg bK,.sy (.int 0 c1),1)] 2)) .leaf) (some (bN)) .leaf) (some (bR 2 6 7 8 (.sy (.int 1 me)) k0 com)) (.node .leaf (some (bN)) .leaf)))
noncomputable def dJ (l:List Ke) (com:Int) (c0:Int) (c1:Int) (me:Int):T:=Sf2 l com c0 c1 me l.length
noncomputable def Sh3 (l:List Ke) (com:Int) (c0:Int) (c1:Int) (c2:Int) (k0:Nat):T:=(.node (.node (.node (.node .leaf (some (.prow 68 18 Ke l ai)) .leaf) (some (bA)) .leaf) (some (bE)) (.node (.node .leaf (some (bE)) .leaf) (some (bV 3 9)) .leaf)) (some (bS 3 1 2 3 4 5 aa)) (.node (.node (.node .leaf (some (.map [(.agg bu,.sy (.int 0 c0),0),(.agg bK,.sy (.int 0 c1),1),(.agg cQ,.sy (.int 0 c2),2)] 3)) .leaf) (some (bE)) .leaf) (some (bR 3 6 7 8 aa k0 com)) (.node .leaf (some (bE)) .leaf)))
noncomputable def dA (l:List Ke) (com:Int) (c0:Int) (c1:Int) (c2:Int):T:=Sh3 l com c0 c1 c2 l.length
noncomputable def Sf3 (l:List Ke) (com:Int) (c0:Int) (c1:Int) (c2:Int) (me:Int) (k0:Nat):T:=(.node (.node (.node (.node .leaf (some (.prow 68 18 Ke l ai)) .leaf) (some (bA)) .leaf) (some (bE)) (.node (.node .leaf (some (bE)) .leaf) (some (bV 3 9)) .leaf)) (some (bS 3 1 2 3 4 5 (.sy (.int 1 me)))) (.node (.node (.node .leaf (some (.map [(.agg bu,.sy (.int 0 c0),0),(.agg bK,.sy (.int 0 c1),1),(.agg cQ,.sy (.int 0 c2),2)] 3)) .leaf) (some (bE)) .leaf) (some (bR 3 6 7 8 (.sy (.int 1 me)) k0 com)) (.node .leaf (some (bE)) .leaf)))
noncomputable def dm (l:List Ke) (com:Int) (c0:Int) (c1:Int) (c2:Int) (me:Int):T:=Sf3 l com c0 c1 c2 me l.length
noncomputable def Sh4 (l:List Ke) (com:Int) (c0:Int) (c1:Int) (c2:Int) (c3:Int) (k0:Nat):T:=(.node (.node (.node (.node .leaf (some (.prow 68 18 Ke l ai)) .leaf) (some (bA)) .leaf) (some (bw)) (.node (.node .leaf (some (bw)) .leaf) (some (bV 4 9)) .leaf)) (some (bS 4 1 2 3 4 5 aa)) (.node (.node (.node .leaf (some (.map [(.agg bu,.sy (.int 0 c0),0),(.agg bK,.sy (.int 0 c1),1),(.agg cQ,.sy (.int 0 c2),2),(.agg fx,.sy (.int 0 c3),3)] 4)) .leaf) (some (bw)) .leaf) (some (bR 4 6 7 8 aa k0 com)) (.node .leaf (some (bw)) .leaf)))
noncomputable def dz (l:List Ke) (com:Int) (c0:Int) (c1:Int) (c2:Int) (c3:Int):T:=Sh4 l com c0 c1 c2 c3 l.length
noncomputable def Sf4 (l:List Ke) (com:Int) (c0:Int) (c1:Int) (c2:Int) (c3:Int) (me:Int) (k0:Nat):T:=(.node (.node (.node (.node .leaf (some (.prow 68 18 Ke l ai)) .leaf) (some (bA)) .leaf) (some (bw)) (.node (.node .leaf (some (bw)) .leaf) (some (bV 4 9)) .leaf)) (some (bS 4 1 2 3 4 5 (.sy (.int 1 me)))) (.node (.node (.node .leaf (some (.map [(.agg bu,.sy (.int 0 c0),0),(.agg bK,.sy (.int 0 c1),1),(.agg cQ,.sy (.int 0 c2),2),(.agg fx,.sy (.int 0 c3),3)] 4)) .leaf) (some (bw)) .leaf) (some (bR 4 6 7 8 (.sy (.int 1 me)) k0 com)) (.node .leaf (some (bw)) .leaf)))
noncomputable def cV (l:List Ke) (com:Int) (c0:Int) (c1:Int) (c2:Int) (c3:Int) (me:Int):T:=Sf4 l com c0 c1 c2 c3 me l.length
def gZ:XF:=.mk 48 (.one 4) (.seq (g_ 1 [p_ 0 4 (.mv (.c (.bool false)))]) (.seq (h_ 13 [p_ 0 6 (m_ 0),p_ 1 7 (n_ 6),p_ 2 8 (f_ 0 7),p_ 3 9 (f_ 0 8),r_ 4 10 (.ld true 3 (.t 9)),p_ 5 11 (m_ 0),p_ 6 12 (n_ 11),p_ 7 13 (f_ 8 12),r_ 8 14 (.ld true 2 (.t 13)),c_ 9 15 45 [.t 10,.t 14],p_ 10 16 (.bin 0 2 (i_ 6) (.t 15)),p_ 11 17 (.bin 0 0 (i_ 12) (.t 16)),p_ 12 5 (m_ 17)]) (.seq (g_ 31 [p_ 0 18 (m_ 0),p_ 1 19 (n_ 18),p_ 2 20 (f_ 0 19),p_ 3 21 (f_ 3 20),r_ 4 22 (l_ 21),c_ 5 23 42 [.t 22],p_ 6 24 (.un 0 (.t 23)),p_ 7 25 (m_ 24),am 8 26 25 true (m_ 1),am 9 27 25 true (m_ 0),am 10 28 25 true (n_ 27),am 11 29 25 true (f_ 0 28),am 12 30 25 true (f_ 6 29),aU 13 31 25 true (l_ 30),am 14 32 25 true (.bin 3 3 (.t 26) (.t 31)),p_ 15 33 (.pick (.t 25) (.t 32) (.c (.bool false))),p_ 16 34 (m_ 33),am 17 35 34 true (m_ 1),am 18 36 34 true (.cnv 4 (.t 35)),am 19 37 34 true (m_ 0),am 20 38 34 true (n_ 37),am 21 39 34 true (f_ 0 38),am 22 40 34 true (f_ 6 39),aU 23 41 34 true (l_ 40),am 24 42 34 true (.cnv 4 (.t 41)),am 25 43 34 true (.bin 0 1 (.t 36) (.t 42)),am 26 44 34 true (m_ 5),am 27 45 34 true (.cnv 4 (.t 44)),am 28 46 34 true (.bin 3 3 (.t 43) (.t 45)),p_ 29 47 (.pick (.t 34) (.t 46) (.c (.bool false))),p_ 30 4 (m_ 47)]) .ret)))
theorem fv:aW Tryz.prog 97 gZ=true:=by kernel_rfl
structure wY where
 l:List Ke
 com:Int
 c0:Int
 now:Int
noncomputable def sJ (p:wY):IE:=([.ptr 0 0,.sy (.int 0 p.now)],(dI p.l p.com p.c0),10)
noncomputable def Gh (p:wY) (K:KE):Bool:=K (.bool false) (dI p.l p.com p.c0) 10
theorem WY (p:wY) (K:KE) (hK:Gh p K=true):(aY 1 (bg Aw) bp 600 gZ (sJ p).1 (sJ p).2.1 (sJ p).2.2 K)=true:=by
 refine Eq.trans (b:=(K (.bool false) (dI p.l p.com p.c0) 10)) (by kernel_rfl) ?_
 repeat' (first|exact hK|refine mI (by first|rfl|omega|(simp only[aL];omega)) ?_|refine aG ?_ ?_|refine iI (fun _=> ?_) (fun _=> ?_)|refine aj (fun _=> ?_)|refine aB ⟨⟩ rfl (by omega) ?_|exact rfl)
noncomputable def AX:aM:=bn (fun us M=>bC (Nat.beq (ca M 1) 1) (cD M 0 8)) (be sJ Gh) (fun _ _ _ _=>false)
theorem JT:aX Tryz.prog 97 1 AX:=aD (ck (f:=97) (k:=1) (ay Bw) fv (by rfl) (by rfl) WY) dT
noncomputable def xD:=aZ Aw 1 AX 97 [(0,4),(1,20)]
theorem yt:aE Tryz.prog xD:=az JT Bw
def Kx:XF:=gZ
theorem Pd:aW Tryz.prog 97 Kx=true:=fv
structure wW where
 l:List Ke
 com:Int
 c0:Int
 c1:Int
 now:Int
noncomputable def sH (p:wW):IE:=([.ptr 0 0,.sy (.int 0 p.now)],(dB p.l p.com p.c0 p.c1),10)
noncomputable def Gf (p:wW) (K:KE):Bool:=K (.bool false) (dB p.l p.com p.c0 p.c1) 10
theorem WW (p:wW) (K:KE) (hK:Gf p K=true):(aY 1 (bg xD) bp 600 Kx (sH p).1 (sH p).2.1 (sH p).2.2 K)=true:=by
 refine Eq.trans (b:=(K (.bool false) (dB p.l p.com p.c0 p.c1) 10)) (by kernel_rfl) ?_
 repeat' (first|exact hK|refine mI (by first|rfl|omega|(simp only[aL];omega)) ?_|refine aG ?_ ?_|refine iI (fun _=> ?_) (fun _=> ?_)|refine aj (fun _=> ?_)|refine aB ⟨⟩ rfl (by omega) ?_|exact rfl)
noncomputable def AU:aM:=bn (fun us M=>bC (Nat.beq (ca M 1) 2) (cD M 0 8)) (be sH Gf) AX
theorem JQ:aX Tryz.prog 97 1 AU:=aD (ck (f:=97) (k:=1) (ay yt) Pd (by rfl) (by rfl) WW) JT
noncomputable def xB:=aZ xD 1 AU 97 [(0,4),(1,20)]
theorem yq:aE Tryz.prog xB:=az JQ yt
def Kz:XF:=gZ
theorem Pe:aW Tryz.prog 97 Kz=true:=fv
structure wX where
 l:List Ke
 com:Int
 c0:Int
 c1:Int
 me:Int
 now:Int
noncomputable def sI (p:wX):IE:=([.ptr 0 0,.sy (.int 0 p.now)],(dJ p.l p.com p.c0 p.c1 p.me),10)
noncomputable def Gg (p:wX) (K:KE):Bool:=K (.bool false) (dJ p.l p.com p.c0 p.c1 p.me) 10
theorem WX (p:wX) (K:KE) (hK:Gg p K=true):(aY 1 (bg xB) bp 600 Kz (sI p).1 (sI p).2.1 (sI p).2.2 K)=true:=by
 refine Eq.trans (b:=(let z0:Bool:=(K (.bool false) (dJ p.l p.com p.c0 p.c1 p.me) 10);iP (p.me=(0:Int)) z0 (iP (p.me=(1:Int)) z0 z0))) (by kernel_rfl) ?_
 repeat' (first|exact hK|refine mI (by first|rfl|omega|(simp only[aL];omega)) ?_|refine aG ?_ ?_|refine iI (fun _=> ?_) (fun _=> ?_)|refine aj (fun _=> ?_)|refine aB ⟨⟩ rfl (by omega) ?_|exact rfl)
noncomputable def AW:aM:=bn (fun us M=>bC (Nat.beq (ca M 1) 2) (ig (cD M 0 8))) (be sI Gg) AU
theorem JS:aX Tryz.prog 97 1 AW:=aD (ck (f:=97) (k:=1) (ay yq) Pe (by rfl) (by rfl) WX) JQ
noncomputable def xC:=aZ xB 1 AW 97 [(0,4),(1,20)]
theorem yr:aE Tryz.prog xC:=az JS yq
def Kv:XF:=gZ
theorem Pb:aW Tryz.prog 97 Kv=true:=fv
structure wU where
 l:List Ke
 com:Int
 c0:Int
 c1:Int
 c2:Int
 now:Int
noncomputable def sF (p:wU):IE:=([.ptr 0 0,.sy (.int 0 p.now)],(dA p.l p.com p.c0 p.c1 p.c2),10)
noncomputable def Gd (p:wU) (K:KE):Bool:=K (.bool false) (dA p.l p.com p.c0 p.c1 p.c2) 10
theorem WU (p:wU) (K:KE) (hK:Gd p K=true):(aY 1 (bg xC) bp 600 Kv (sF p).1 (sF p).2.1 (sF p).2.2 K)=true:=by
 refine Eq.trans (b:=(K (.bool false) (dA p.l p.com p.c0 p.c1 p.c2) 10)) (by kernel_rfl) ?_
 repeat' (first|exact hK|refine mI (by first|rfl|omega|(simp only[aL];omega)) ?_|refine aG ?_ ?_|refine iI (fun _=> ?_) (fun _=> ?_)|refine aj (fun _=> ?_)|refine aB ⟨⟩ rfl (by omega) ?_|exact rfl)
noncomputable def AS:aM:=bn (fun us M=>bC (Nat.beq (ca M 1) 3) (cD M 0 8)) (be sF Gd) AW
theorem JO:aX Tryz.prog 97 1 AS:=aD (ck (f:=97) (k:=1) (ay yr) Pb (by rfl) (by rfl) WU) JS
noncomputable def xz:=aZ xC 1 AS 97 [(0,4),(1,20)]
theorem yo:aE Tryz.prog xz:=az JO yr
def Kw:XF:=gZ
theorem Pc:aW Tryz.prog 97 Kw=true:=fv
structure wV where
 l:List Ke
 com:Int
 c0:Int
 c1:Int
 c2:Int
 me:Int
 now:Int
noncomputable def sG (p:wV):IE:=([.ptr 0 0,.sy (.int 0 p.now)],(dm p.l p.com p.c0 p.c1 p.c2 p.me),10)
noncomputable def Ge (p:wV) (K:KE):Bool:=K (.bool false) (dm p.l p.com p.c0 p.c1 p.c2 p.me) 10
theorem WV (p:wV) (K:KE) (hK:Ge p K=true):(aY 1 (bg xz) bp 600 Kw (sG p).1 (sG p).2.1 (sG p).2.2 K)=true:=by
 refine Eq.trans (b:=(let z0:Bool:=(K (.bool false) (dm p.l p.com p.c0 p.c1 p.c2 p.me) 10);iP (p.me=(0:Int)) z0 (iP (p.me=(1:Int)) z0 (iP (p.me=(2:Int)) z0 z0)))) (by kernel_rfl) ?_
 repeat' (first|exact hK|refine mI (by first|rfl|omega|(simp only[aL];omega)) ?_|refine aG ?_ ?_|refine iI (fun _=> ?_) (fun _=> ?_)|refine aj (fun _=> ?_)|refine aB ⟨⟩ rfl (by omega) ?_|exact rfl)
noncomputable def AT:aM:=bn (fun us M=>bC (Nat.beq (ca M 1) 3) (ig (cD M 0 8))) (be sG Ge) AS
theorem JP:aX Tryz.prog 97 1 AT:=aD (ck (f:=97) (k:=1) (ay yo) Pc (by rfl) (by rfl) WV) JO
noncomputable def xA:=aZ xz 1 AT 97 [(0,4),(1,20)]
theorem yp:aE Tryz.prog xA:=az JP yo
def Kt:XF:=gZ
theorem OZ:aW Tryz.prog 97 Kt=true:=fv
structure wS where
 l:List Ke
 com:Int
 c0:Int
 c1:Int
 c2:Int
 c3:Int
 now:Int
noncomputable def sD (p:wS):IE:=([.ptr 0 0,.sy (.int 0 p.now)],(dz p.l p.com p.c0 p.c1 p.c2 p.c3),10)
noncomputable def Gb (p:wS) (K:KE):Bool:=K (.bool false) (dz p.l p.com p.c0 p.c1 p.c2 p.c3) 10
theorem WS (p:wS) (K:KE) (hK:Gb p K=true):(aY 1 (bg xA) bp 600 Kt (sD p).1 (sD p).2.1 (sD p).2.2 K)=true:=by
 refine Eq.trans (b:=(K (.bool false) (dz p.l p.com p.c0 p.c1 p.c2 p.c3) 10)) (by kernel_rfl) ?_
 repeat' (first|exact hK|refine mI (by first|rfl|omega|(simp only[aL];omega)) ?_|refine aG ?_ ?_|refine iI (fun _=> ?_) (fun _=> ?_)|refine aj (fun _=> ?_)|refine aB ⟨⟩ rfl (by omega) ?_|exact rfl)
noncomputable def AR:aM:=bn (fun us M=>bC (Nat.beq (ca M 1) 4) (cD M 0 8)) (be sD Gb) AT
theorem JN:aX Tryz.prog 97 1 AR:=aD (ck (f:=97) (k:=1) (ay yp) OZ (by rfl) (by rfl) WS) JP
noncomputable def xx:=aZ xA 1 AR 97 [(0,4),(1,20)]
theorem ym:aE Tryz.prog xx:=az JN yp
def Ku:XF:=gZ
theorem Pa:aW Tryz.prog 97 Ku=true:=fv
structure wT where
 l:List Ke
 com:Int
 c0:Int
 c1:Int
 c2:Int
 c3:Int
 me:Int
 now:Int
noncomputable def sE (p:wT):IE:=([.ptr 0 0,.sy (.int 0 p.now)],(cV p.l p.com p.c0 p.c1 p.c2 p.c3 p.me),10)
noncomputable def Gc (p:wT) (K:KE):Bool:=K (.bool false) (cV p.l p.com p.c0 p.c1 p.c2 p.c3 p.me) 10
theorem WT (p:wT) (K:KE) (hK:Gc p K=true):(aY 1 (bg xx) bp 600 Ku (sE p).1 (sE p).2.1 (sE p).2.2 K)=true:=by
 refine Eq.trans (b:=(let z0:Bool:=(K (.bool false) (cV p.l p.com p.c0 p.c1 p.c2 p.c3 p.me) 10);iP (p.me=(0:Int)) z0 (iP (p.me=(1:Int)) z0 (iP (p.me=(2:Int)) z0 (iP (p.me=(3:Int)) z0 z0))))) (by kernel_rfl) ?_
 repeat' (first|exact hK|refine mI (by first|rfl|omega|(simp only[aL];omega)) ?_|refine aG ?_ ?_|refine iI (fun _=> ?_) (fun _=> ?_)|refine aj (fun _=> ?_)|refine aB ⟨⟩ rfl (by omega) ?_|exact rfl)
noncomputable def KW:aM:=bn (fun us M=>bC (Nat.beq (ca M 1) 4) (ig (cD M 0 8))) (be sE Gc) AR
theorem XE:aX Tryz.prog 97 1 KW:=aD (ck (f:=97) (k:=1) (ay ym) Pa (by rfl) (by rfl) WT) JN
noncomputable def xy:=aZ xx 1 KW 97 [(0,4),(1,20)]
theorem yn:aE Tryz.prog xy:=az XE ym
def fM:XF:=.mk 32 (.one 4) (.seq (g_ 1 [p_ 0 4 (.mv (.c (.bool false)))]) (.seq (h_ 28 [p_ 0 5 (m_ 1),p_ 1 6 (m_ 0),p_ 2 7 (n_ 6),p_ 3 8 (f_ 17 7),r_ 4 9 (l_ 8),p_ 5 10 (.bin 3 3 (.t 5) (.t 9)),p_ 6 11 (m_ 10),am 7 12 11 true (m_ 0),am 8 13 11 true (m_ 1),da 9 14 11 true 97 [.t 12,.t 13],am 10 15 11 true (m_ 14),am 11 16 15 false (m_ 0),am 13 18 15 false (m_ 0),am 14 19 15 false (n_ 18),am 15 20 15 false (f_ 0 19),am 16 21 15 false (f_ 0 20),am 17 22 15 false (f_ 2 21),aU 18 23 15 false (l_ 22),da 12 17 15 false 98 [.t 16],ag_ 18 23 15 false (l_ 22),da 19 24 15 false 52 [.t 17,.t 23],am 20 25 15 false (.un 0 (.t 24)),am 21 26 15 false (m_ 25),am 22 27 26 true (m_ 0),da 23 28 26 true 99 [.t 27],am 24 29 15 false (.pick (.t 26) (.t 28) (.c (.bool false))),am 25 30 11 true (.pick (.t 15) (.c (.bool true)) (.t 29)),p_ 26 31 (.pick (.t 11) (.t 30) (.c (.bool false))),p_ 27 4 (m_ 31)]) .ret))
theorem eT:aW Tryz.prog 72 fM=true:=by kernel_rfl
structure pW where
 l:List Ke
 com:Int
 c0:Int
 now:Int
noncomputable def pP (p:pW):IE:=([.ptr 0 0,.sy (.int 0 p.now)],(dI p.l p.com p.c0),10)
noncomputable def Cp (p:pW) (K:KE):Bool:=K (.bool false) (dI p.l p.com p.c0) 10
theorem UD (p:pW) (K:KE) (hK:Cp p K=true):(aY 1 (bg xy) bp 600 fM (pP p).1 (pP p).2.1 (pP p).2.2 K)=true:=by
 refine Eq.trans (b:=(iP ((2:Int)≤p.now) (ax fun p1:wY=>mP (([.ptr 0 0,.sy (.int 0 p.now)],(dI p.l p.com p.c0),10)=sJ p1) (mP ((0:Int)=0) (ac (ah fun q1:Prop=>iP (¬q1) (ac (ah fun q2:Prop=>iP (¬q2) (K (.bool false) (dI p1.l p1.com p1.c0) 10) (K (.bool false) (dI p1.l p1.com p1.c0) 10)) (ah fun q3:Prop=>iP (¬q3) (K (.bool false) (dI p1.l p1.com p1.c0) 10) (K (.bool false) (dI p1.l p1.com p1.c0) 10))) (K (.bool false) (dI p1.l p1.com p1.c0) 10)) (ah fun q4:Prop=>iP (¬q4) (ac (ah fun q5:Prop=>iP (¬q5) (K (.bool false) (dI p1.l p1.com p1.c0) 10) (K (.bool false) (dI p1.l p1.com p1.c0) 10)) (ah fun q6:Prop=>iP (¬q6) (K (.bool false) (dI p1.l p1.com p1.c0) 10) (K (.bool false) (dI p1.l p1.com p1.c0) 10))) (K (.bool false) (dI p1.l p1.com p1.c0) 10))))) (K (.bool false) (dI p.l p.com p.c0) 10))) (by kernel_rfl) ?_
 repeat' (first|exact hK|refine mI (by first|rfl|omega|(simp only[aL];omega)) ?_|refine aG ?_ ?_|refine iI (fun _=> ?_) (fun _=> ?_)|refine aj (fun _=> ?_)|refine aB ⟨⟩ rfl (by omega) ?_|exact rfl|refine aH ⟨p.l,p.com,p.c0,p.now⟩ (mI rfl ?_))
noncomputable def ya:aM:=bn (fun us M=>bC (Nat.beq (ca M 1) 1) (cD M 0 8)) (be pP Cp) (fun _ _ _ _=>false)
theorem Gu:aX Tryz.prog 72 1 ya:=aD (ck (f:=72) (k:=1) (ay yn) eT (by rfl) (by rfl) UD) dT
noncomputable def vg:=aZ xy 1 ya 72 [(0,4),(1,20)]
theorem wD:aE Tryz.prog vg:=az Gu yn
def GL:XF:=fM
theorem Mc:aW Tryz.prog 72 GL=true:=eT
structure pV where
 l:List Ke
 com:Int
 c0:Int
 c1:Int
 now:Int
noncomputable def pO (p:pV):IE:=([.ptr 0 0,.sy (.int 0 p.now)],(dB p.l p.com p.c0 p.c1),10)
noncomputable def Cn (p:pV) (K:KE):Bool:=K (.bool false) (dB p.l p.com p.c0 p.c1) 10
theorem UB (p:pV) (K:KE) (hK:Cn p K=true):(aY 1 (bg vg) bp 600 GL (pO p).1 (pO p).2.1 (pO p).2.2 K)=true:=by
 refine Eq.trans (b:=(iP ((2:Int)≤p.now) (ax fun p1:wW=>mP (([.ptr 0 0,.sy (.int 0 p.now)],(dB p.l p.com p.c0 p.c1),10)=sH p1) (mP ((0:Int)=0) (ac (ah fun q1:Prop=>iP (¬q1) (ac (ah fun q2:Prop=>iP (¬q2) (K (.bool false) (dB p1.l p1.com p1.c0 p1.c1) 10) (K (.bool false) (dB p1.l p1.com p1.c0 p1.c1) 10)) (ah fun q3:Prop=>iP (¬q3) (K (.bool false) (dB p1.l p1.com p1.c0 p1.c1) 10) (K (.bool false) (dB p1.l p1.com p1.c0 p1.c1) 10))) (K (.bool false) (dB p1.l p1.com p1.c0 p1.c1) 10)) (ah fun q4:Prop=>iP (¬q4) (ac (ah fun q5:Prop=>iP (¬q5) (K (.bool false) (dB p1.l p1.com p1.c0 p1.c1) 10) (K (.bool false) (dB p1.l p1.com p1.c0 p1.c1) 10)) (ah fun q6:Prop=>iP (¬q6) (K (.bool false) (dB p1.l p1.com p1.c0 p1.c1) 10) (K (.bool false) (dB p1.l p1.com p1.c0 p1.c1) 10))) (K (.bool false) (dB p1.l p1.com p1.c0 p1.c1) 10))))) (K (.bool false) (dB p.l p.com p.c0 p.c1) 10))) (by kernel_rfl) ?_
 repeat' (first|exact hK|refine mI (by first|rfl|omega|(simp only[aL];omega)) ?_|refine aG ?_ ?_|refine iI (fun _=> ?_) (fun _=> ?_)|refine aj (fun _=> ?_)|refine aB ⟨⟩ rfl (by omega) ?_|exact rfl|refine aH ⟨p.l,p.com,p.c0,p.c1,p.now⟩ (mI rfl ?_))
noncomputable def xY:aM:=bn (fun us M=>bC (Nat.beq (ca M 1) 2) (cD M 0 8)) (be pO Cn) ya
theorem Gs:aX Tryz.prog 72 1 xY:=aD (ck (f:=72) (k:=1) (ay wD) Mc (by rfl) (by rfl) UB) Gu
noncomputable def vd:=aZ vg 1 xY 72 [(0,4),(1,20)]
theorem wB:aE Tryz.prog vd:=az Gs wD
def GM:XF:=fM
theorem Md:aW Tryz.prog 72 GM=true:=eT
structure jB where
 l:List Ke
 com:Int
 c0:Int
 c1:Int
 me:Int
 now:Int
noncomputable def mA (p:jB):IE:=([.ptr 0 0,.sy (.int 0 p.now)],(dJ p.l p.com p.c0 p.c1 p.me),10)
noncomputable def Co (p:jB) (K:KE):Bool:=K (.bool false) (dJ p.l p.com p.c0 p.c1 p.me) 10
theorem UC (p:jB) (K:KE) (hK:Co p K=true):(aY 1 (bg vd) bp 600 GM (mA p).1 (mA p).2.1 (mA p).2.2 K)=true:=by
 refine Eq.trans (b:=(iP ((2:Int)≤p.now) (ax fun p1:wX=>mP (([.ptr 0 0,.sy (.int 0 p.now)],(dJ p.l p.com p.c0 p.c1 p.me),10)=sI p1) (mP ((0:Int)=0) (ac (ah fun q1:Prop=>iP (¬q1) (ac (ah fun q2:Prop=>iP (¬q2) (K (.bool false) (dJ p1.l p1.com p1.c0 p1.c1 p1.me) 10) (K (.bool false) (dJ p1.l p1.com p1.c0 p1.c1 p1.me) 10)) (ah fun q3:Prop=>iP (¬q3) (K (.bool false) (dJ p1.l p1.com p1.c0 p1.c1 p1.me) 10) (K (.bool false) (dJ p1.l p1.com p1.c0 p1.c1 p1.me) 10))) (K (.bool false) (dJ p1.l p1.com p1.c0 p1.c1 p1.me) 10)) (ah fun q4:Prop=>iP (¬q4) (ac (ah fun q5:Prop=>iP (¬q5) (K (.bool false) (dJ p1.l p1.com p1.c0 p1.c1 p1.me) 10) (K (.bool false) (dJ p1.l p1.com p1.c0 p1.c1 p1.me) 10)) (ah fun q6:Prop=>iP (¬q6) (K (.bool false) (dJ p1.l p1.com p1.c0 p1.c1 p1.me) 10) (K (.bool false) (dJ p1.l p1.com p1.c0 p1.c1 p1.me) 10))) (K (.bool false) (dJ p1.l p1.com p1.c0 p1.c1 p1.me) 10))))) (K (.bool false) (dJ p.l p.com p.c0 p.c1 p.me) 10))) (by kernel_rfl) ?_
 repeat' (first|exact hK|refine mI (by first|rfl|omega|(simp only[aL];omega)) ?_|refine aG ?_ ?_|refine iI (fun _=> ?_) (fun _=> ?_)|refine aj (fun _=> ?_)|refine aB ⟨⟩ rfl (by omega) ?_|exact rfl|refine aH ⟨p.l,p.com,p.c0,p.c1,p.me,p.now⟩ (mI rfl ?_))
noncomputable def xZ:aM:=bn (fun us M=>bC (Nat.beq (ca M 1) 2) (ig (cD M 0 8))) (be mA Co) xY
theorem Gt:aX Tryz.prog 72 1 xZ:=aD (ck (f:=72) (k:=1) (ay wB) Md (by rfl) (by rfl) UC) Gs
noncomputable def ve:=aZ vd 1 xZ 72 [(0,4),(1,20)]
theorem wC:aE Tryz.prog ve:=az Gt wB
def GJ:XF:=fM
theorem Ma:aW Tryz.prog 72 GJ=true:=eT
structure pU where
 l:List Ke
 com:Int
 c0:Int
 c1:Int
 c2:Int
 now:Int
noncomputable def pN (p:pU):IE:=([.ptr 0 0,.sy (.int 0 p.now)],(dA p.l p.com p.c0 p.c1 p.c2),10)
noncomputable def Cl (p:pU) (K:KE):Bool:=K (.bool false) (dA p.l p.com p.c0 p.c1 p.c2) 10
theorem Uz (p:pU) (K:KE) (hK:Cl p K=true):(aY 1 (bg ve) bp 600 GJ (pN p).1 (pN p).2.1 (pN p).2.2 K)=true:=by
 refine Eq.trans (b:=(iP ((2:Int)≤p.now) (ax fun p1:wU=>mP (([.ptr 0 0,.sy (.int 0 p.now)],(dA p.l p.com p.c0 p.c1 p.c2),10)=sF p1) (mP ((0:Int)=0) (ac (ah fun q1:Prop=>iP (¬q1) (ac (ah fun q2:Prop=>iP (¬q2) (K (.bool false) (dA p1.l p1.com p1.c0 p1.c1 p1.c2) 10) (K (.bool false) (dA p1.l p1.com p1.c0 p1.c1 p1.c2) 10)) (ah fun q3:Prop=>iP (¬q3) (K (.bool false) (dA p1.l p1.com p1.c0 p1.c1 p1.c2) 10) (K (.bool false) (dA p1.l p1.com p1.c0 p1.c1 p1.c2) 10))) (K (.bool false) (dA p1.l p1.com p1.c0 p1.c1 p1.c2) 10)) (ah fun q4:Prop=>iP (¬q4) (ac (ah fun q5:Prop=>iP (¬q5) (K (.bool false) (dA p1.l p1.com p1.c0 p1.c1 p1.c2) 10) (K (.bool false) (dA p1.l p1.com p1.c0 p1.c1 p1.c2) 10)) (ah fun q6:Prop=>iP (¬q6) (K (.bool false) (dA p1.l p1.com p1.c0 p1.c1 p1.c2) 10) (K (.bool false) (dA p1.l p1.com p1.c0 p1.c1 p1.c2) 10))) (K (.bool false) (dA p1.l p1.com p1.c0 p1.c1 p1.c2) 10))))) (K (.bool false) (dA p.l p.com p.c0 p.c1 p.c2) 10))) (by kernel_rfl) ?_
 repeat' (first|exact hK|refine mI (by first|rfl|omega|(simp only[aL];omega)) ?_|refine aG ?_ ?_|refine iI (fun _=> ?_) (fun _=> ?_)|refine aj (fun _=> ?_)|refine aB ⟨⟩ rfl (by omega) ?_|exact rfl|refine aH ⟨p.l,p.com,p.c0,p.c1,p.c2,p.now⟩ (mI rfl ?_))
noncomputable def xW:aM:=bn (fun us M=>bC (Nat.beq (ca M 1) 3) (cD M 0 8)) (be pN Cl) xZ
theorem Gq:aX Tryz.prog 72 1 xW:=aD (ck (f:=72) (k:=1) (ay wC) Ma (by rfl) (by rfl) Uz) Gt
noncomputable def va:=aZ ve 1 xW 72 [(0,4),(1,20)]
theorem wz:aE Tryz.prog va:=az Gq wC
def GK:XF:=fM
theorem Mb:aW Tryz.prog 72 GK=true:=eT
structure jA where
 l:List Ke
 com:Int
 c0:Int
 c1:Int
 c2:Int
 me:Int
 now:Int
noncomputable def mz (p:jA):IE:=([.ptr 0 0,.sy (.int 0 p.now)],(dm p.l p.com p.c0 p.c1 p.c2 p.me),10)
noncomputable def Cm (p:jA) (K:KE):Bool:=K (.bool false) (dm p.l p.com p.c0 p.c1 p.c2 p.me) 10
theorem UA (p:jA) (K:KE) (hK:Cm p K=true):(aY 1 (bg va) bp 600 GK (mz p).1 (mz p).2.1 (mz p).2.2 K)=true:=by
 refine Eq.trans (b:=(iP ((2:Int)≤p.now) (ax fun p1:wV=>mP (([.ptr 0 0,.sy (.int 0 p.now)],(dm p.l p.com p.c0 p.c1 p.c2 p.me),10)=sG p1) (mP ((0:Int)=0) (ac (ah fun q1:Prop=>iP (¬q1) (ac (ah fun q2:Prop=>iP (¬q2) (K (.bool false) (dm p1.l p1.com p1.c0 p1.c1 p1.c2 p1.me) 10) (K (.bool false) (dm p1.l p1.com p1.c0 p1.c1 p1.c2 p1.me) 10)) (ah fun q3:Prop=>iP (¬q3) (K (.bool false) (dm p1.l p1.com p1.c0 p1.c1 p1.c2 p1.me) 10) (K (.bool false) (dm p1.l p1.com p1.c0 p1.c1 p1.c2 p1.me) 10))) (K (.bool false) (dm p1.l p1.com p1.c0 p1.c1 p1.c2 p1.me) 10)) (ah fun q4:Prop=>iP (¬q4) (ac (ah fun q5:Prop=>iP (¬q5) (K (.bool false) (dm p1.l p1.com p1.c0 p1.c1 p1.c2 p1.me) 10) (K (.bool false) (dm p1.l p1.com p1.c0 p1.c1 p1.c2 p1.me) 10)) (ah fun q6:Prop=>iP (¬q6) (K (.bool false) (dm p1.l p1.com p1.c0 p1.c1 p1.c2 p1.me) 10) (K (.bool false) (dm p1.l p1.com p1.c0 p1.c1 p1.c2 p1.me) 10))) (K (.bool false) (dm p1.l p1.com p1.c0 p1.c1 p1.c2 p1.me) 10))))) (K (.bool false) (dm p.l p.com p.c0 p.c1 p.c2 p.me) 10))) (by kernel_rfl) ?_
 repeat' (first|exact hK|refine mI (by first|rfl|omega|(simp only[aL];omega)) ?_|refine aG ?_ ?_|refine iI (fun _=> ?_) (fun _=> ?_)|refine aj (fun _=> ?_)|refine aB ⟨⟩ rfl (by omega) ?_|exact rfl|refine aH ⟨p.l,p.com,p.c0,p.c1,p.c2,p.me,p.now⟩ (mI rfl ?_))
noncomputable def xX:aM:=bn (fun us M=>bC (Nat.beq (ca M 1) 3) (ig (cD M 0 8))) (be mz Cm) xW
theorem Gr:aX Tryz.prog 72 1 xX:=aD (ck (f:=72) (k:=1) (ay wz) Mb (by rfl) (by rfl) UA) Gq
noncomputable def vb:=aZ va 1 xX 72 [(0,4),(1,20)]
theorem wA:aE Tryz.prog vb:=az Gr wz
def GH:XF:=fM
theorem LY:aW Tryz.prog 72 GH=true:=eT
structure pT where
 l:List Ke
 com:Int
 c0:Int
 c1:Int
 c2:Int
 c3:Int
 now:Int
noncomputable def pM (p:pT):IE:=([.ptr 0 0,.sy (.int 0 p.now)],(dz p.l p.com p.c0 p.c1 p.c2 p.c3),10)
noncomputable def Cj (p:pT) (K:KE):Bool:=K (.bool false) (dz p.l p.com p.c0 p.c1 p.c2 p.c3) 10
theorem Ux (p:pT) (K:KE) (hK:Cj p K=true):(aY 1 (bg vb) bp 600 GH (pM p).1 (pM p).2.1 (pM p).2.2 K)=true:=by
 refine Eq.trans (b:=(iP ((2:Int)≤p.now) (ax fun p1:wS=>mP (([.ptr 0 0,.sy (.int 0 p.now)],(dz p.l p.com p.c0 p.c1 p.c2 p.c3),10)=sD p1) (mP ((0:Int)=0) (ac (ah fun q1:Prop=>iP (¬q1) (ac (ah fun q2:Prop=>iP (¬q2) (K (.bool false) (dz p1.l p1.com p1.c0 p1.c1 p1.c2 p1.c3) 10) (K (.bool false) (dz p1.l p1.com p1.c0 p1.c1 p1.c2 p1.c3) 10)) (ah fun q3:Prop=>iP (¬q3) (K (.bool false) (dz p1.l p1.com p1.c0 p1.c1 p1.c2 p1.c3) 10) (K (.bool false) (dz p1.l p1.com p1.c0 p1.c1 p1.c2 p1.c3) 10))) (K (.bool false) (dz p1.l p1.com p1.c0 p1.c1 p1.c2 p1.c3) 10)) (ah fun q4:Prop=>iP (¬q4) (ac (ah fun q5:Prop=>iP (¬q5) (K (.bool false) (dz p1.l p1.com p1.c0 p1.c1 p1.c2 p1.c3) 10) (K (.bool false) (dz p1.l p1.com p1.c0 p1.c1 p1.c2 p1.c3) 10)) (ah fun q6:Prop=>iP (¬q6) (K (.bool false) (dz p1.l p1.com p1.c0 p1.c1 p1.c2 p1.c3) 10) (K (.bool false) (dz p1.l p1.com p1.c0 p1.c1 p1.c2 p1.c3) 10))) (K (.bool false) (dz p1.l p1.com p1.c0 p1.c1 p1.c2 p1.c3) 10))))) (K (.bool false) (dz p.l p.com p.c0 p.c1 p.c2 p.c3) 10))) (by kernel_rfl) ?_
 repeat' (first|exact hK|refine mI (by first|rfl|omega|(simp only[aL];omega)) ?_|refine aG ?_ ?_|refine iI (fun _=> ?_) (fun _=> ?_)|refine aj (fun _=> ?_)|refine aB ⟨⟩ rfl (by omega) ?_|exact rfl|refine aH ⟨p.l,p.com,p.c0,p.c1,p.c2,p.c3,p.now⟩ (mI rfl ?_))
noncomputable def xV:aM:=bn (fun us M=>bC (Nat.beq (ca M 1) 4) (cD M 0 8)) (be pM Cj) xX
theorem Gp:aX Tryz.prog 72 1 xV:=aD (ck (f:=72) (k:=1) (ay wA) LY (by rfl) (by rfl) Ux) Gr
noncomputable def uY:=aZ vb 1 xV 72 [(0,4),(1,20)]
theorem wx:aE Tryz.prog uY:=az Gp wA
def GI:XF:=fM
theorem LZ:aW Tryz.prog 72 GI=true:=eT
structure jz where
 l:List Ke
 com:Int
 c0:Int
 c1:Int
 c2:Int
 c3:Int
 me:Int
 now:Int
noncomputable def my (p:jz):IE:=([.ptr 0 0,.sy (.int 0 p.now)],(cV p.l p.com p.c0 p.c1 p.c2 p.c3 p.me),10)
noncomputable def Ck (p:jz) (K:KE):Bool:=K (.bool false) (cV p.l p.com p.c0 p.c1 p.c2 p.c3 p.me) 10
theorem Uy (p:jz) (K:KE) (hK:Ck p K=true):(aY 1 (bg uY) bp 600 GI (my p).1 (my p).2.1 (my p).2.2 K)=true:=by
 refine Eq.trans (b:=(iP ((2:Int)≤p.now) (ax fun p1:wT=>mP (([.ptr 0 0,.sy (.int 0 p.now)],(cV p.l p.com p.c0 p.c1 p.c2 p.c3 p.me),10)=sE p1) (mP ((0:Int)=0) (ac (ah fun q1:Prop=>iP (¬q1) (ac (ah fun q2:Prop=>iP (¬q2) (K (.bool false) (cV p1.l p1.com p1.c0 p1.c1 p1.c2 p1.c3 p1.me) 10) (K (.bool false) (cV p1.l p1.com p1.c0 p1.c1 p1.c2 p1.c3 p1.me) 10)) (ah fun q3:Prop=>iP (¬q3) (K (.bool false) (cV p1.l p1.com p1.c0 p1.c1 p1.c2 p1.c3 p1.me) 10) (K (.bool false) (cV p1.l p1.com p1.c0 p1.c1 p1.c2 p1.c3 p1.me) 10))) (K (.bool false) (cV p1.l p1.com p1.c0 p1.c1 p1.c2 p1.c3 p1.me) 10)) (ah fun q4:Prop=>iP (¬q4) (ac (ah fun q5:Prop=>iP (¬q5) (K (.bool false) (cV p1.l p1.com p1.c0 p1.c1 p1.c2 p1.c3 p1.me) 10) (K (.bool false) (cV p1.l p1.com p1.c0 p1.c1 p1.c2 p1.c3 p1.me) 10)) (ah fun q6:Prop=>iP (¬q6) (K (.bool false) (cV p1.l p1.com p1.c0 p1.c1 p1.c2 p1.c3 p1.me) 10) (K (.bool false) (cV p1.l p1.com p1.c0 p1.c1 p1.c2 p1.c3 p1.me) 10))) (K (.bool false) (cV p1.l p1.com p1.c0 p1.c1 p1.c2 p1.c3 p1.me) 10))))) (K (.bool false) (cV p.l p.com p.c0 p.c1 p.c2 p.c3 p.me) 10))) (by kernel_rfl) ?_
 repeat' (first|exact hK|refine mI (by first|rfl|omega|(simp only[aL];omega)) ?_|refine aG ?_ ?_|refine iI (fun _=> ?_) (fun _=> ?_)|refine aj (fun _=> ?_)|refine aB ⟨⟩ rfl (by omega) ?_|exact rfl|refine aH ⟨p.l,p.com,p.c0,p.c1,p.c2,p.c3,p.me,p.now⟩ (mI rfl ?_))
noncomputable def GP:aM:=bn (fun us M=>bC (Nat.beq (ca M 1) 4) (ig (cD M 0 8))) (be my Ck) xV
theorem UF:aX Tryz.prog 72 1 GP:=aD (ck (f:=72) (k:=1) (ay wx) LZ (by rfl) (by rfl) Uy) Gp
noncomputable def uZ:=aZ uY 1 GP 72 [(0,4),(1,20)]
theorem wy:aE Tryz.prog uZ:=az UF wx
def eC (l:List Ke) (c:Int):List Ke:=(l.drop c.toNat).take 16
theorem Jg {l o:List Ke} {c:Int} {n:Nat} (h0:0≤c) (h1:c≤(l.length:Int)) (h:o=(l.drop c.toNat).take ((c+min ((l.length:Int) - c) 16).toNat - c.toNat)∧o.length=n):o=eC l c:=by
 rw[h.1]
 unfold eC
 rcases Int.le_total ((l.length:Int) - c) 16 with q|q
 ·rw[List.take_of_length_le (i:=(c+min ((l.length:Int) - c) 16).toNat - c.toNat) (by rw[akG];omega),List.take_of_length_le (by rw[akG];omega)]
 ·rw[show(c+min ((l.length:Int) - c) 16).toNat - c.toNat=16 by omega]
def Su:XF:=.mk 54 (.one 2) (.seq (g_ 1 [p_ 0 2 (.mv (.c .nilS))]) (.seq (g_ 1 [p_ 0 3 (.mv (.c .nilS))]) (.seq (.seq (g_ 9 [p_ 0 9 (m_ 0),p_ 1 10 (n_ 9),p_ 2 11 (f_ 0 10),p_ 3 12 (f_ 0 11),p_ 4 13 (f_ 2 12),r_ 5 14 (l_ 13),r_ 6 15 (.sls 2 (.t 14) (some (i_ 1)) none none),p_ 7 16 (k_ 15),p_ 8 17 (.mv (i_ 0))]) (.block 2 (.loop [0,2,3,5,6,7,8,15,16,17,18,19,20,21,22,23,24,25,26,27,28,29,30,31,32,33,34,35,36,37,38,39,40,41,42,43,44,45,46,47,48,49,50,51,52,53] (.seq (g_ 1 [p_ 0 18 (.bin 3 0 (.t 17) (.t 16))]) (.seq (.cond (.t 18) .skip (.exit 2)) (.seq (.block 3 (.seq (g_ 4 [p_ 0 19 (.ixs 2 (.t 15) (.t 17)),r_ 1 20 (.ld true 2 (.t 19)),e_ 2 5 (.al 52 [.int 1 (.ofNat 0),.int 2 (.ofNat 0)]),bm 3 (.st 2 (.t 5) (.t 20))]) (.seq (g_ 4 [p_ 0 21 (m_ 0),c_ 1 22 91 [.t 21,.c (.int 1 (.ofNat 3))],e_ 2 6 (.al 74 [.int 1 (.ofNat 0),.int 1 (.ofNat 0),.int 1 (.ofNat 0),.int 3 (.ofNat 0),.int 3 (.ofNat 0),.int 3 (.ofNat 0),.int 3 (.ofNat 0),.int 4 (.ofNat 0),.int 4 (.ofNat 0),.int 1 (.ofNat 0),.int 2 (.ofNat 0),.int 3 (.ofNat 0),.int 1 (.ofNat 0),.int 1 (.ofNat 0),.int 1 (.ofNat 0),.int 1 (.ofNat 0),.int 1 (.ofNat 0),.int 1 (.ofNat 0),.int 1 (.ofNat 0),.nilS,.int 1 (.ofNat 0),.str [],.int 1 (.ofNat 0),.int 3 (.ofNat 0),.nilS,.int 1 (.ofNat 0),.int 2 (.ofNat 0),.bool false,.nilS,.nilS,.nilS]),bm 3 (.st 31 (.t 6) (.t 22))]) (.seq (h_ 12 [p_ 0 24 (m_ 0),p_ 1 25 (n_ 24),p_ 2 26 (f_ 0 25),p_ 3 27 (f_ 3 26),r_ 4 28 (l_ 27),r_ 5 29 (.ld true 2 (.t 5)),c_ 6 30 92 [.t 28,.t 29,i_ 16],p_ 7 23 (m_ 30),p_ 8 31 (.ext 0 (.t 23)),p_ 9 32 (.ext 1 (.t 23)),p_ 10 7 (m_ 31),p_ 11 8 (m_ 32)]) (.seq (g_ 16 [p_ 0 33 (m_ 7),p_ 1 34 (.cnv 3 (.t 33)),p_ 2 35 (m_ 0),p_ 3 36 (n_ 35),p_ 4 37 (f_ 0 36),p_ 5 38 (f_ 3 37),r_ 6 39 (l_ 38),c_ 7 40 33 [.t 39],p_ 8 41 (.cnv 3 (.t 40)),p_ 9 42 (m_ 8),p_ 10 43 (f_ 4 6),bm 11 (.st 1 (.t 43) (.t 34)),p_ 12 44 (f_ 5 6),bm 13 (.st 1 (.t 44) (.t 41)),p_ 14 45 (f_ 29 6),bm 15 (.st 1 (.t 45) (.t 42))]) (g_ 7 [p_ 0 46 (m_ 3),r_ 1 47 (.ld true 2 (.t 5)),r_ 2 48 (.ld true 31 (.t 6)),p_ 3 49 (.bld [.int 1 (.ofNat 0),.int 2 (.ofNat 0),.int 1 (.ofNat 0),.int 1 (.ofNat 0),.int 1 (.ofNat 0),.int 3 (.ofNat 0),.int 3 (.ofNat 0),.int 3 (.ofNat 0),.int 3 (.ofNat 0),.int 4 (.ofNat 0),.int 4 (.ofNat 0),.int 1 (.ofNat 0),.int 2 (.ofNat 0),.int 3 (.ofNat 0),.int 1 (.ofNat 0),.int 1 (.ofNat 0),.int 1 (.ofNat 0),.int 1 (.ofNat 0),.int 1 (.ofNat 0),.int 1 (.ofNat 0),.int 1 (.ofNat 0),.nilS,.int 1 (.ofNat 0),.str [],.int 1 (.ofNat 0),.int 3 (.ofNat 0),.nilS,.int 1 (.ofNat 0),.int 2 (.ofNat 0),.bool false,.nilS,.nilS,.nilS] [(0,2),(2,31)] [.t 47,.t 48]),e_ 4 50 (.bsl 118 33 1 [.int 1 (.ofNat 0),.int 2 (.ofNat 0),.int 1 (.ofNat 0),.int 1 (.ofNat 0),.int 1 (.ofNat 0),.int 3 (.ofNat 0),.int 3 (.ofNat 0),.int 3 (.ofNat 0),.int 3 (.ofNat 0),.int 4 (.ofNat 0),.int 4 (.ofNat 0),.int 1 (.ofNat 0),.int 2 (.ofNat 0),.int 3 (.ofNat 0),.int 1 (.ofNat 0),.int 1 (.ofNat 0),.int 1 (.ofNat 0),.int 1 (.ofNat 0),.int 1 (.ofNat 0),.int 1 (.ofNat 0),.int 1 (.ofNat 0),.nilS,.int 1 (.ofNat 0),.str [],.int 1 (.ofNat 0),.int 3 (.ofNat 0),.nilS,.int 1 (.ofNat 0),.int 2 (.ofNat 0),.bool false,.nilS,.nilS,.nilS] [(0,33)] [.t 49]),e_ 5 51 (.app 118 33 224 (.t 46) (.t 50)),p_ 6 3 (m_ 51)])))))) (g_ 2 [p_ 0 52 (.bin 0 0 (.t 17) (i_ 1)),p_ 1 17 (m_ 52)]))))))) (.seq (g_ 2 [p_ 0 53 (m_ 3),p_ 1 2 (m_ 53)]) .ret))))
theorem Vl:aW Tryz.prog 70 Su=true:=by kernel_rfl
structure zE where
 l:List Ke
 com:Int
 c0:Int
noncomputable def zw (p:zE):IE:=([.ptr 0 0],(dI p.l p.com p.c0),10)
noncomputable def NJ (p:zE) (K:KE):Bool:=K .nilS (dI p.l p.com p.c0) 10
theorem abb (p:zE) (K:KE) (hK:NJ p K=true):(aY 1 (bg uZ) bp 600 Su (zw p).1 (zw p).2.1 (zw p).2.2 K)=true:=by
 refine Eq.trans (b:=(ac (K .nilS (dI p.l p.com p.c0) 10) (K .nilS (dI p.l p.com p.c0) 10))) (by kernel_rfl) ?_
 refine aG ?_ ?_
 exact hK
 exact hK
noncomputable def IK:aM:=bn (fun us M=>bC (Nat.beq (ca M 1) 1) (cD M 0 8)) (be zw NJ) (fun _ _ _ _=>false)
theorem QY:aX Tryz.prog 70 1 IK:=aD (ck (f:=70) (k:=1) (ay wy) Vl (by rfl) (by rfl) abb) dT
noncomputable def DC:=aZ uZ 1 IK 70 [(0,4)]
theorem DB:aE Tryz.prog DC:=az QY wy
def AK:XF:=.mk 54 (.one 2) (.seq (g_ 1 [p_ 0 2 (.mv (.c .nilS))]) (.seq (g_ 1 [p_ 0 3 (.mv (.c .nilS))]) (.seq (.seq (g_ 9 [p_ 0 9 (m_ 0),p_ 1 10 (n_ 9),p_ 2 11 (f_ 0 10),p_ 3 12 (f_ 0 11),p_ 4 13 (f_ 2 12),r_ 5 14 (l_ 13),r_ 6 15 (.sls 2 (.t 14) (some (i_ 1)) none none),p_ 7 16 (k_ 15),p_ 8 17 (.mv (i_ 0))]) (.block 2 (.loop [0,2,3,5,6,7,8,15,16,17,18,19,20,21,22,23,24,25,26,27,28,29,30,31,32,33,34,35,36,37,38,39,40,41,42,43,44,45,46,47,48,49,50,51,52,53] (.seq (g_ 1 [p_ 0 18 (.bin 3 0 (.t 17) (.t 16))]) (.seq (.cond (.t 18) .skip (.exit 2)) (.seq (.block 3 (.seq (g_ 4 [p_ 0 19 (.ixs 2 (.t 15) (.t 17)),r_ 1 20 (.ld true 2 (.t 19)),e_ 2 5 (.al 52 [.int 1 (.ofNat 0),.int 2 (.ofNat 0)]),bm 3 (.st 2 (.t 5) (.t 20))]) (.seq (g_ 4 [p_ 0 21 (m_ 0),c_ 1 22 91 [.t 21,.c (.int 1 (.ofNat 3))],e_ 2 6 (.al 74 [.int 1 (.ofNat 0),.int 1 (.ofNat 0),.int 1 (.ofNat 0),.int 3 (.ofNat 0),.int 3 (.ofNat 0),.int 3 (.ofNat 0),.int 3 (.ofNat 0),.int 4 (.ofNat 0),.int 4 (.ofNat 0),.int 1 (.ofNat 0),.int 2 (.ofNat 0),.int 3 (.ofNat 0),.int 1 (.ofNat 0),.int 1 (.ofNat 0),.int 1 (.ofNat 0),.int 1 (.ofNat 0),.int 1 (.ofNat 0),.int 1 (.ofNat 0),.int 1 (.ofNat 0),.nilS,.int 1 (.ofNat 0),.str [],.int 1 (.ofNat 0),.int 3 (.ofNat 0),.nilS,.int 1 (.ofNat 0),.int 2 (.ofNat 0),.bool false,.nilS,.nilS,.nilS]),bm 3 (.st 31 (.t 6) (.t 22))]) (.seq (.aft (h_ 12 [p_ 0 24 (m_ 0),p_ 1 25 (n_ 24),p_ 2 26 (f_ 0 25),p_ 3 27 (f_ 3 26),r_ 4 28 (l_ 27),r_ 5 29 (.ld true 2 (.t 5)),c_ 6 30 92 [.t 28,.t 29,i_ 16],p_ 7 23 (m_ 30),p_ 8 31 (.ext 0 (.t 23)),p_ 9 32 (.ext 1 (.t 23)),p_ 10 7 (m_ 31),p_ 11 8 (m_ 32)]) [(0,[.frz 8])]) (.seq (g_ 16 [p_ 0 33 (m_ 7),p_ 1 34 (.cnv 3 (.t 33)),p_ 2 35 (m_ 0),p_ 3 36 (n_ 35),p_ 4 37 (f_ 0 36),p_ 5 38 (f_ 3 37),r_ 6 39 (l_ 38),c_ 7 40 33 [.t 39],p_ 8 41 (.cnv 3 (.t 40)),p_ 9 42 (m_ 8),p_ 10 43 (f_ 4 6),bm 11 (.st 1 (.t 43) (.t 34)),p_ 12 44 (f_ 5 6),bm 13 (.st 1 (.t 44) (.t 41)),p_ 14 45 (f_ 29 6),bm 15 (.st 1 (.t 45) (.t 42))]) (g_ 7 [p_ 0 46 (m_ 3),r_ 1 47 (.ld true 2 (.t 5)),r_ 2 48 (.ld true 31 (.t 6)),p_ 3 49 (.bld [.int 1 (.ofNat 0),.int 2 (.ofNat 0),.int 1 (.ofNat 0),.int 1 (.ofNat 0),.int 1 (.ofNat 0),.int 3 (.ofNat 0),.int 3 (.ofNat 0),.int 3 (.ofNat 0),.int 3 (.ofNat 0),.int 4 (.ofNat 0),.int 4 (.ofNat 0),.int 1 (.ofNat 0),.int 2 (.ofNat 0),.int 3 (.ofNat 0),.int 1 (.ofNat 0),.int 1 (.ofNat 0),.int 1 (.ofNat 0),.int 1 (.ofNat 0),.int 1 (.ofNat 0),.int 1 (.ofNat 0),.int 1 (.ofNat 0),.nilS,.int 1 (.ofNat 0),.str [],.int 1 (.ofNat 0),.int 3 (.ofNat 0),.nilS,.int 1 (.ofNat 0),.int 2 (.ofNat 0),.bool false,.nilS,.nilS,.nilS] [(0,2),(2,31)] [.t 47,.t 48]),e_ 4 50 (.bsl 118 33 1 [.int 1 (.ofNat 0),.int 2 (.ofNat 0),.int 1 (.ofNat 0),.int 1 (.ofNat 0),.int 1 (.ofNat 0),.int 3 (.ofNat 0),.int 3 (.ofNat 0),.int 3 (.ofNat 0),.int 3 (.ofNat 0),.int 4 (.ofNat 0),.int 4 (.ofNat 0),.int 1 (.ofNat 0),.int 2 (.ofNat 0),.int 3 (.ofNat 0),.int 1 (.ofNat 0),.int 1 (.ofNat 0),.int 1 (.ofNat 0),.int 1 (.ofNat 0),.int 1 (.ofNat 0),.int 1 (.ofNat 0),.int 1 (.ofNat 0),.nilS,.int 1 (.ofNat 0),.str [],.int 1 (.ofNat 0),.int 3 (.ofNat 0),.nilS,.int 1 (.ofNat 0),.int 2 (.ofNat 0),.bool false,.nilS,.nilS,.nilS] [(0,33)] [.t 49]),e_ 5 51 (.app 118 33 224 (.t 46) (.t 50)),p_ 6 3 (m_ 51)])))))) (g_ 2 [p_ 0 52 (.bin 0 0 (.t 17) (i_ 1)),p_ 1 17 (m_ 52)]))))))) (.seq (g_ 2 [p_ 0 53 (m_ 3),p_ 1 2 (m_ 53)]) .ret))))
theorem xR:aW Tryz.prog 70 AK=true:=by kernel_rfl
structure rk where
 l:List Ke
 com:Int
 c0:Int
 c1:Int
structure Nk where
 h1:Value
 e1:List Ke
def uM (p:rk) (r:Nk):Prop:=r.e1=eC p.l p.c1
noncomputable def zt (p:rk):IE:=([.ptr 0 0],(dB p.l p.com p.c0 p.c1),10)
noncomputable def CA (p:rk) (K:KE):Bool:=ah fun r:Nk=>iP (uM p r) (K (.sl 1 0 1 (.rest 0)) (.node (.node (.node (.node .leaf (some (bN)) .leaf) (some (bR 2 7 8 9 aa p.l.length p.com)) .leaf) (some (.blk true 118 33 [[ke,bj,cu,aa,aa,bt,.sy (.int 3 p.c1),.sy (.int 3 p.com),aw,aI,aI,aa,aJ,aw,aa,aa,aa,aa,aa,aa,aa,.nilS,aa,.str [],aa,aw,.nilS,aa,aJ,.bool false,.nilS,.sy (.imm r.h1 18 Ke r.e1 ai),.nilS]])) (.node (.node .leaf (some (.map [(.agg bu,.sy (.int 0 p.c0),0),(.agg bK,.sy (.int 0 p.c1),1)] 2)) .leaf) (some (bN)) .leaf)) (some (bS 2 2 3 4 5 6 aa)) (.node (.node (.node .leaf (some (.prow 68 18 Ke p.l ai)) .leaf) (some (bA)) .leaf) (some (bN)) (.node (.node .leaf (some (bN)) .leaf) (some (bV 2 10)) .leaf))) 11) true
def rR (p:rk):Prop:=p.l.length≤400∧0≤p.com∧p.com≤400∧0≤p.c1∧p.c1≤(p.l.length:Int)
theorem aae {p:rk} {K:KE} (hK:CA p K=true) (r:Nk) (h:uM p r):K (.sl 1 0 1 (.rest 0)) (.node (.node (.node (.node .leaf (some (bN)) .leaf) (some (bR 2 7 8 9 aa p.l.length p.com)) .leaf) (some (.blk true 118 33 [[ke,bj,cu,aa,aa,bt,.sy (.int 3 p.c1),.sy (.int 3 p.com),aw,aI,aI,aa,aJ,aw,aa,aa,aa,aa,aa,aa,aa,.nilS,aa,.str [],aa,aw,.nilS,aa,aJ,.bool false,.nilS,.sy (.imm r.h1 18 Ke r.e1 ai),.nilS]])) (.node (.node .leaf (some (.map [(.agg bu,.sy (.int 0 p.c0),0),(.agg bK,.sy (.int 0 p.c1),1)] 2)) .leaf) (some (bN)) .leaf)) (some (bS 2 2 3 4 5 6 aa)) (.node (.node (.node .leaf (some (.prow 68 18 Ke p.l ai)) .leaf) (some (bA)) .leaf) (some (bN)) (.node (.node .leaf (some (bN)) .leaf) (some (bV 2 10)) .leaf))) 11=true:=aA h (au hK r)
theorem aba (p:rk) (K:KE) (hpre:rR p) (hK:CA p K=true):(aY 1 (bg DC) bp 600 AK (zt p).1 (zt p).2.1 (zt p).2.2 K)=true:=by
 refine Eq.trans (b:=(mP (aL 0 ((p.l.length:Int) - p.c1)) (mP (aL 0 (p.c1+(min ((p.l.length:Int) - p.c1) (16:Int)))) (mP (p.l.length=p.l.length∧0≤p.c1∧p.c1≤(p.c1+(min ((p.l.length:Int) - p.c1) (16:Int)))∧(p.c1+(min ((p.l.length:Int) - p.c1) (16:Int)))≤(p.l.length:Int)) (bf (([.sy (.psub 0 18 p.c1.toNat (((p.c1+(min ((p.l.length:Int) - p.c1) (16:Int))).toNat) - p.c1.toNat) 0 none)],(.node .leaf (some (.prow 68 18 Ke p.l ai)) .leaf),1)) dP ce cq fun p1 r1=>mP (r1.o.length=r1.o.length) (mP (r1.o.length=r1.o.length) (ah fun h1:Value=>mP (aL 3 p.c1) (mP (aL 3 p.com) (K (.sl 1 0 1 (.rest 0)) (.node (.node (.node (.node .leaf (some (bN)) .leaf) (some (bR 2 7 8 9 aa p.l.length p.com)) .leaf) (some (.blk true 118 33 [[ke,bj,cu,aa,aa,bt,.sy (.int 3 p.c1),.sy (.int 3 p.com),aw,aI,aI,aa,aJ,aw,aa,aa,aa,aa,aa,aa,aa,.nilS,aa,.str [],aa,aw,.nilS,aa,aJ,.bool false,.nilS,.sy (.imm h1 18 Ke r1.o ai),.nilS]])) (.node (.node .leaf (some (.map [(.agg bu,.sy (.int 0 p.c0),0),(.agg bK,.sy (.int 0 p.c1),1)] 2)) .leaf) (some (bN)) .leaf)) (some (bS 2 2 3 4 5 6 aa)) (.node (.node (.node .leaf (some (.prow 68 18 Ke p1.l ai)) .leaf) (some (bA)) .leaf) (some (bN)) (.node (.node .leaf (some (bN)) .leaf) (some (bV 2 10)) .leaf))) 11))))))))) (by kernel_rfl) ?_
 dsimp only[rR]at hpre
 obtain⟨u0,u1,u2,u3,u4⟩:=hpre
 refine aQ (aQ (mI (by(first|omega|(simp[aC]<;>omega))) ?_))
 refine aB (⟨p.l,p.c1.toNat,((p.c1+(min ((p.l.length:Int) - p.c1) (16:Int))).toNat) - p.c1.toNat⟩:dj) rfl (by(try dsimp only[ce]);first|omega|(simp only[aky,akG];omega)) fun r1 hi1=> ?_
 dsimp only[cq]at hi1
 refine aK (aK ?_)
 refine aj (fun h1=> ?_)
 refine aQ (aQ ?_)
 exact aae hK ⟨h1,r1.o⟩ (by dsimp only[uM]<;>exact Jg (by omega) (by omega) (by assumption))
noncomputable def IJ:aM:=bn (fun us M=>bC (Nat.beq (ca M 1) 2) (cD M 0 8)) (be zt (cm rR CA)) IK
theorem QX:aX Tryz.prog 70 1 IJ:=aD (bi (f:=70) (k:=1) (ay DB) xR (by rfl) (by rfl) aba) QY
noncomputable def DA:=aZ DC 1 IJ 70 [(0,4)]
theorem Dz:aE Tryz.prog DA:=az QX DB
def St:XF:=AK
theorem Vk:aW Tryz.prog 70 St=true:=xR
structure rj where
 l:List Ke
 com:Int
 c0:Int
 c1:Int
 c2:Int
structure Nj where
 h1:Value
 e1:List Ke
 h2:Value
 e2:List Ke
def uL (p:rj) (r:Nj):Prop:=r.e1=eC p.l p.c1∧r.e2=eC p.l p.c2
noncomputable def zr (p:rj):IE:=([.ptr 0 0],(dA p.l p.com p.c0 p.c1 p.c2),10)
noncomputable def Cz (p:rj) (K:KE):Bool:=ah fun r:Nj=>iP (uL p r) (K (.sl 1 0 2 (.rest 0)) (.node (.node (.node (.node .leaf (some (bE)) .leaf) (some (bR 3 7 8 9 aa p.l.length p.com)) .leaf) (some (.blk true 118 33 [[ke,bj,cu,aa,aa,bt,.sy (.int 3 p.c1),.sy (.int 3 p.com),aw,aI,aI,aa,aJ,aw,aa,aa,aa,aa,aa,aa,aa,.nilS,aa,.str [],aa,aw,.nilS,aa,aJ,.bool false,.nilS,.sy (.imm r.h1 18 Ke r.e1 ai),.nilS],[sR,bj,cu,aa,aa,bt,.sy (.int 3 p.c2),.sy (.int 3 p.com),aw,aI,aI,aa,aJ,aw,aa,aa,aa,aa,aa,aa,aa,.nilS,aa,.str [],aa,aw,.nilS,aa,aJ,.bool false,.nilS,.sy (.imm r.h2 18 Ke r.e2 ai),.nilS]])) (.node (.node .leaf (some (.map [(.agg bu,.sy (.int 0 p.c0),0),(.agg bK,.sy (.int 0 p.c1),1),(.agg cQ,.sy (.int 0 p.c2),2)] 3)) .leaf) (some (bE)) .leaf)) (some (bS 3 2 3 4 5 6 aa)) (.node (.node (.node .leaf (some (.prow 68 18 Ke p.l ai)) .leaf) (some (bA)) .leaf) (some (bE)) (.node (.node .leaf (some (bE)) .leaf) (some (bV 3 10)) .leaf))) 11) true
def rQ (p:rj):Prop:=p.l.length≤400∧0≤p.com∧p.com≤400∧0≤p.c1∧p.c1≤(p.l.length:Int)∧0≤p.c2∧p.c2≤(p.l.length:Int)
theorem aad {p:rj} {K:KE} (hK:Cz p K=true) (r:Nj) (h:uL p r):K (.sl 1 0 2 (.rest 0)) (.node (.node (.node (.node .leaf (some (bE)) .leaf) (some (bR 3 7 8 9 aa p.l.length p.com)) .leaf) (some (.blk true 118 33 [[ke,bj,cu,aa,aa,bt,.sy (.int 3 p.c1),.sy (.int 3 p.com),aw,aI,aI,aa,aJ,aw,aa,aa,aa,aa,aa,aa,aa,.nilS,aa,.str [],aa,aw,.nilS,aa,aJ,.bool false,.nilS,.sy (.imm r.h1 18 Ke r.e1 ai),.nilS],[sR,bj,cu,aa,aa,bt,.sy (.int 3 p.c2),.sy (.int 3 p.com),aw,aI,aI,aa,aJ,aw,aa,aa,aa,aa,aa,aa,aa,.nilS,aa,.str [],aa,aw,.nilS,aa,aJ,.bool false,.nilS,.sy (.imm r.h2 18 Ke r.e2 ai),.nilS]])) (.node (.node .leaf (some (.map [(.agg bu,.sy (.int 0 p.c0),0),(.agg bK,.sy (.int 0 p.c1),1),(.agg cQ,.sy (.int 0 p.c2),2)] 3)) .leaf) (some (bE)) .leaf)) (some (bS 3 2 3 4 5 6 aa)) (.node (.node (.node .leaf (some (.prow 68 18 Ke p.l ai)) .leaf) (some (bA)) .leaf) (some (bE)) (.node (.node .leaf (some (bE)) .leaf) (some (bV 3 10)) .leaf))) 11=true:=aA h (au hK r)
theorem aa9 (p:rj) (K:KE) (hpre:rQ p) (hK:Cz p K=true):(aY 1 (bg DA) bp 600 St (zr p).1 (zr p).2.1 (zr p).2.2 K)=true:=by
 refine Eq.trans (b:=(mP (aL 0 ((p.l.length:Int) - p.c1)) (mP (aL 0 (p.c1+(min ((p.l.length:Int) - p.c1) (16:Int)))) (mP (p.l.length=p.l.length∧0≤p.c1∧p.c1≤(p.c1+(min ((p.l.length:Int) - p.c1) (16:Int)))∧(p.c1+(min ((p.l.length:Int) - p.c1) (16:Int)))≤(p.l.length:Int)) (bf (([.sy (.psub 0 18 p.c1.toNat (((p.c1+(min ((p.l.length:Int) - p.c1) (16:Int))).toNat) - p.c1.toNat) 0 none)],(.node .leaf (some (.prow 68 18 Ke p.l ai)) .leaf),1)) dP ce cq fun p1 r1=>mP (r1.o.length=r1.o.length) (mP (r1.o.length=r1.o.length) (ah fun h1:Value=>mP (aL 3 p.c1) (mP (aL 3 p.com) (mP (aL 0 ((p.l.length:Int) - p.c2)) (mP (aL 0 (p.c2+(min ((p.l.length:Int) - p.c2) (16:Int)))) (mP (p.l.length=p1.l.length∧0≤p.c2∧p.c2≤(p.c2+(min ((p.l.length:Int) - p.c2) (16:Int)))∧(p.c2+(min ((p.l.length:Int) - p.c2) (16:Int)))≤(p.l.length:Int)) (bf (([.sy (.psub 0 18 p.c2.toNat (((p.c2+(min ((p.l.length:Int) - p.c2) (16:Int))).toNat) - p.c2.toNat) 0 none)],(.node .leaf (some (.prow 68 18 Ke p1.l ai)) .leaf),1)) dP ce cq fun p2 r2=>mP (r2.o.length=r2.o.length) (mP (r2.o.length=r2.o.length) (ah fun h2:Value=>mP (aL 3 p.c2) (mP (aL 3 p.com) (K (.sl 1 0 2 (.rest 0)) (.node (.node (.node (.node .leaf (some (bE)) .leaf) (some (bR 3 7 8 9 aa p.l.length p.com)) .leaf) (some (.blk true 118 33 [[ke,bj,cu,aa,aa,bt,.sy (.int 3 p.c1),.sy (.int 3 p.com),aw,aI,aI,aa,aJ,aw,aa,aa,aa,aa,aa,aa,aa,.nilS,aa,.str [],aa,aw,.nilS,aa,aJ,.bool false,.nilS,.sy (.imm h1 18 Ke r1.o ai),.nilS],[sR,bj,cu,aa,aa,bt,.sy (.int 3 p.c2),.sy (.int 3 p.com),aw,aI,aI,aa,aJ,aw,aa,aa,aa,aa,aa,aa,aa,.nilS,aa,.str [],aa,aw,.nilS,aa,aJ,.bool false,.nilS,.sy (.imm h2 18 Ke r2.o ai),.nilS]])) (.node (.node .leaf (some (.map [(.agg bu,.sy (.int 0 p.c0),0),(.agg bK,.sy (.int 0 p.c1),1),(.agg cQ,.sy (.int 0 p.c2),2)] 3)) .leaf) (some (bE)) .leaf)) (some (bS 3 2 3 4 5 6 aa)) (.node (.node (.node .leaf (some (.prow 68 18 Ke p2.l ai)) .leaf) (some (bA)) .leaf) (some (bE)) (.node (.node .leaf (some (bE)) .leaf) (some (bV 3 10)) .leaf))) 11)))))))))))))))) (by kernel_rfl) ?_
 dsimp only[rQ]at hpre
 obtain⟨u0,u1,u2,u3,u4,u5,u6⟩:=hpre
 refine aQ (aQ (mI (by(first|omega|(simp[aC]<;>omega))) ?_))
 refine aB (⟨p.l,p.c1.toNat,((p.c1+(min ((p.l.length:Int) - p.c1) (16:Int))).toNat) - p.c1.toNat⟩:dj) rfl (by(try dsimp only[ce]);first|omega|(simp only[aky,akG];omega)) fun r1 hi1=> ?_
 dsimp only[cq]at hi1
 refine aK (aK ?_)
 refine aj (fun h1=> ?_)
 refine aQ (aQ (aQ (aQ (mI (by(try dsimp only);(first|omega|(simp[aC]<;>omega))) ?_))))
 refine aB (⟨p.l,p.c2.toNat,((p.c2+(min ((p.l.length:Int) - p.c2) (16:Int))).toNat) - p.c2.toNat⟩:dj) rfl (by(try dsimp only[ce]);first|omega|(simp only[aky,akG];omega)) fun r2 hi2=> ?_
 dsimp only[cq]at hi2
 refine aK (aK ?_)
 refine aj (fun h2=> ?_)
 refine aQ (aQ ?_)
 exact aad hK ⟨h1,r1.o,h2,r2.o⟩ (by dsimp only[uL]<;>refine⟨?_,?_⟩<;>exact Jg (by omega) (by omega) (by assumption))
noncomputable def II:aM:=bn (fun us M=>bC (Nat.beq (ca M 1) 3) (cD M 0 8)) (be zr (cm rQ Cz)) IJ
theorem QW:aX Tryz.prog 70 1 II:=aD (bi (f:=70) (k:=1) (ay Dz) Vk (by rfl) (by rfl) aa9) QX
noncomputable def Dy:=aZ DA 1 II 70 [(0,4)]
theorem Dx:aE Tryz.prog Dy:=az QW Dz
def Ss:XF:=AK
theorem Vj:aW Tryz.prog 70 Ss=true:=xR
structure ri where
 l:List Ke
 com:Int
 c0:Int
 c1:Int
 c2:Int
 c3:Int
structure Ni where
 h1:Value
 e1:List Ke
 h2:Value
 e2:List Ke
 h3:Value
 e3:List Ke
def uK (p:ri) (r:Ni):Prop:=r.e1=eC p.l p.c1∧r.e2=eC p.l p.c2∧r.e3=eC p.l p.c3
noncomputable def zq (p:ri):IE:=([.ptr 0 0],(dz p.l p.com p.c0 p.c1 p.c2 p.c3),10)
noncomputable def Cy (p:ri) (K:KE):Bool:=ah fun r:Ni=>iP (uK p r) (K (.sl 1 0 3 (.rest 0)) (.node (.node (.node (.node .leaf (some (bw)) .leaf) (some (bR 4 7 8 9 aa p.l.length p.com)) .leaf) (some (.blk true 118 33 [[ke,bj,cu,aa,aa,bt,.sy (.int 3 p.c1),.sy (.int 3 p.com),aw,aI,aI,aa,aJ,aw,aa,aa,aa,aa,aa,aa,aa,.nilS,aa,.str [],aa,aw,.nilS,aa,aJ,.bool false,.nilS,.sy (.imm r.h1 18 Ke r.e1 ai),.nilS],[sR,bj,cu,aa,aa,bt,.sy (.int 3 p.c2),.sy (.int 3 p.com),aw,aI,aI,aa,aJ,aw,aa,aa,aa,aa,aa,aa,aa,.nilS,aa,.str [],aa,aw,.nilS,aa,aJ,.bool false,.nilS,.sy (.imm r.h2 18 Ke r.e2 ai),.nilS],[cu,bj,cu,aa,aa,bt,.sy (.int 3 p.c3),.sy (.int 3 p.com),aw,aI,aI,aa,aJ,aw,aa,aa,aa,aa,aa,aa,aa,.nilS,aa,.str [],aa,aw,.nilS,aa,aJ,.bool false,.nilS,.sy (.imm r.h3 18 Ke r.e3 ai),.nilS]])) (.node (.node .leaf (some (.map [(.agg bu,.sy (.int 0 p.c0),0),(.agg bK,.sy (.int 0 p.c1),1),(.agg cQ,.sy (.int 0 p.c2),2),(.agg fx,.sy (.int 0 p.c3),3)] 4)) .leaf) (some (bw)) .leaf)) (some (bS 4 2 3 4 5 6 aa)) (.node (.node (.node .leaf (some (.prow 68 18 Ke p.l ai)) .leaf) (some (bA)) .leaf) (some (bw)) (.node (.node .leaf (some (bw)) .leaf) (some (bV 4 10)) .leaf))) 11) true
def rP (p:ri):Prop:=p.l.length≤400∧0≤p.com∧p.com≤400∧0≤p.c1∧p.c1≤(p.l.length:Int)∧0≤p.c2∧p.c2≤(p.l.length:Int)∧0≤p.c3∧p.c3≤(p.l.length:Int)
theorem aac {p:ri} {K:KE} (hK:Cy p K=true) (r:Ni) (h:uK p r):K (.sl 1 0 3 (.rest 0)) (.node (.node (.node (.node .leaf (some (bw)) .leaf) (some (bR 4 7 8 9 aa p.l.length p.com)) .leaf) (some (.blk true 118 33 [[ke,bj,cu,aa,aa,bt,.sy (.int 3 p.c1),.sy (.int 3 p.com),aw,aI,aI,aa,aJ,aw,aa,aa,aa,aa,aa,aa,aa,.nilS,aa,.str [],aa,aw,.nilS,aa,aJ,.bool false,.nilS,.sy (.imm r.h1 18 Ke r.e1 ai),.nilS],[sR,bj,cu,aa,aa,bt,.sy (.int 3 p.c2),.sy (.int 3 p.com),aw,aI,aI,aa,aJ,aw,aa,aa,aa,aa,aa,aa,aa,.nilS,aa,.str [],aa,aw,.nilS,aa,aJ,.bool false,.nilS,.sy (.imm r.h2 18 Ke r.e2 ai),.nilS],[cu,bj,cu,aa,aa,bt,.sy (.int 3 p.c3),.sy (.int 3 p.com),aw,aI,aI,aa,aJ,aw,aa,aa,aa,aa,aa,aa,aa,.nilS,aa,.str [],aa,aw,.nilS,aa,aJ,.bool false,.nilS,.sy (.imm r.h3 18 Ke r.e3 ai),.nilS]])) (.node (.node .leaf (some (.map [(.agg bu,.sy (.int 0 p.c0),0),(.agg bK,.sy (.int 0 p.c1),1),(.agg cQ,.sy (.int 0 p.c2),2),(.agg fx,.sy (.int 0 p.c3),3)] 4)) .leaf) (some (bw)) .leaf)) (some (bS 4 2 3 4 5 6 aa)) (.node (.node (.node .leaf (some (.prow 68 18 Ke p.l ai)) .leaf) (some (bA)) .leaf) (some (bw)) (.node (.node .leaf (some (bw)) .leaf) (some (bV 4 10)) .leaf))) 11=true:=aA h (au hK r)
theorem aa8 (p:ri) (K:KE) (hpre:rP p) (hK:Cy p K=true):(aY 1 (bg Dy) bp 600 Ss (zq p).1 (zq p).2.1 (zq p).2.2 K)=true:=by
 refine Eq.trans (b:=(mP (aL 0 ((p.l.length:Int) - p.c1)) (mP (aL 0 (p.c1+(min ((p.l.length:Int) - p.c1) (16:Int)))) (mP (p.l.length=p.l.length∧0≤p.c1∧p.c1≤(p.c1+(min ((p.l.length:Int) - p.c1) (16:Int)))∧(p.c1+(min ((p.l.length:Int) - p.c1) (16:Int)))≤(p.l.length:Int)) (bf (([.sy (.psub 0 18 p.c1.toNat (((p.c1+(min ((p.l.length:Int) - p.c1) (16:Int))).toNat) - p.c1.toNat) 0 none)],(.node .leaf (some (.prow 68 18 Ke p.l ai)) .leaf),1)) dP ce cq fun p1 r1=>mP (r1.o.length=r1.o.length) (mP (r1.o.length=r1.o.length) (ah fun h1:Value=>mP (aL 3 p.c1) (mP (aL 3 p.com) (mP (aL 0 ((p.l.length:Int) - p.c2)) (mP (aL 0 (p.c2+(min ((p.l.length:Int) - p.c2) (16:Int)))) (mP (p.l.length=p1.l.length∧0≤p.c2∧p.c2≤(p.c2+(min ((p.l.length:Int) - p.c2) (16:Int)))∧(p.c2+(min ((p.l.length:Int) - p.c2) (16:Int)))≤(p.l.length:Int)) (bf (([.sy (.psub 0 18 p.c2.toNat (((p.c2+(min ((p.l.length:Int) - p.c2) (16:Int))).toNat) - p.c2.toNat) 0 none)],(.node .leaf (some (.prow 68 18 Ke p1.l ai)) .leaf),1)) dP ce cq fun p2 r2=>mP (r2.o.length=r2.o.length) (mP (r2.o.length=r2.o.length) (ah fun h2:Value=>mP (aL 3 p.c2) (mP (aL 3 p.com) (mP (aL 0 ((p.l.length:Int) - p.c3)) (mP (aL 0 (p.c3+(min ((p.l.length:Int) - p.c3) (16:Int)))) (mP (p.l.length=p2.l.length∧0≤p.c3∧p.c3≤(p.c3+(min ((p.l.length:Int) - p.c3) (16:Int)))∧(p.c3+(min ((p.l.length:Int) - p.c3) (16:Int)))≤(p.l.length:Int)) (bf (([.sy (.psub 0 18 p.c3.toNat (((p.c3+(min ((p.l.length:Int) - p.c3) (16:Int))).toNat) - p.c3.toNat) 0 none)],(.node .leaf (some (.prow 68 18 Ke p2.l ai)) .leaf),1)) dP ce cq fun p3 r3=>mP (r3.o.length=r3.o.length) (mP (r3.o.length=r3.o.length) (ah fun h3:Value=>mP (aL 3 p.c3) (mP (aL 3 p.com) (K (.sl 1 0 3 (.rest 0)) (.node (.node (.node (.node .leaf (some (bw)) .leaf) (some (bR 4 7 8 9 aa p.l.length p.com)) .leaf) (some (.blk true 118 33 [[ke,bj,cu,aa,aa,bt,.sy (.int 3 p.c1),.sy (.int 3 p.com),aw,aI,aI,aa,aJ,aw,aa,aa,aa,aa,aa,aa,aa,.nilS,aa,.str [],aa,aw,.nilS,aa,aJ,.bool false,.nilS,.sy (.imm h1 18 Ke r1.o ai),.nilS],[sR,bj,cu,aa,aa,bt,.sy (.int 3 p.c2),.sy (.int 3 p.com),aw,aI,aI,aa,aJ,aw,aa,aa,aa,aa,aa,aa,aa,.nilS,aa,.str [],aa,aw,.nilS,aa,aJ,.bool false,.nilS,.sy (.imm h2 18 Ke r2.o ai),.nilS],[cu,bj,cu,aa,aa,bt,.sy (.int 3 p.c3),.sy (.int 3 p.com),aw,aI,aI,aa,aJ,aw,aa,aa,aa,aa,aa,aa,aa,.nilS,aa,.str [],aa,aw,.nilS,aa,aJ,.bool false,.nilS,.sy (.imm h3 18 Ke r3.o ai),.nilS]])) (.node (.node .leaf (some (.map [(.agg bu,.sy (.int 0 p.c0),0),(.agg bK,.sy (.int 0 p.c1),1),(.agg cQ,.sy (.int 0 p.c2),2),(.agg fx,.sy (.int 0 p.c3),3)] 4)) .leaf) (some (bw)) .leaf)) (some (bS 4 2 3 4 5 6 aa)) (.node (.node (.node .leaf (some (.prow 68 18 Ke p3.l ai)) .leaf) (some (bA)) .leaf) (some (bw)) (.node (.node .leaf (some (bw)) .leaf) (some (bV 4 10)) .leaf))) 11))))))))))))))))))))))) (by kernel_rfl) ?_
 dsimp only[rP]at hpre
 obtain⟨u0,u1,u2,u3,u4,u5,u6,u7,u8⟩:=hpre
 refine aQ (aQ (mI (by(first|omega|(simp[aC]<;>omega))) ?_))
 refine aB (⟨p.l,p.c1.toNat,((p.c1+(min ((p.l.length:Int) - p.c1) (16:Int))).toNat) - p.c1.toNat⟩:dj) rfl (by(try dsimp only[ce]);first|omega|(simp only[aky,akG];omega)) fun r1 hi1=> ?_
 dsimp only[cq]at hi1
 refine aK (aK ?_)
 refine aj (fun h1=> ?_)
 refine aQ (aQ (aQ (aQ (mI (by(try dsimp only);(first|omega|(simp[aC]<;>omega))) ?_))))
 refine aB (⟨p.l,p.c2.toNat,((p.c2+(min ((p.l.length:Int) - p.c2) (16:Int))).toNat) - p.c2.toNat⟩:dj) rfl (by(try dsimp only[ce]);first|omega|(simp only[aky,akG];omega)) fun r2 hi2=> ?_
 dsimp only[cq]at hi2
 refine aK (aK ?_)
 refine aj (fun h2=> ?_)
 refine aQ (aQ (aQ (aQ (mI (by(try dsimp only);(first|omega|(simp[aC]<;>omega))) ?_))))
 refine aB (⟨p.l,p.c3.toNat,((p.c3+(min ((p.l.length:Int) - p.c3) (16:Int))).toNat) - p.c3.toNat⟩:dj) rfl (by(try dsimp only[ce]);first|omega|(simp only[aky,akG];omega)) fun r3 hi3=> ?_
 dsimp only[cq]at hi3
 refine aK (aK ?_)
 refine aj (fun h3=> ?_)
 refine aQ (aQ ?_)
 exact aac hK ⟨h1,r1.o,h2,r2.o,h3,r3.o⟩ (by dsimp only[uK]<;>refine⟨?_,?_,?_⟩<;>exact Jg (by omega) (by omega) (by assumption))
noncomputable def Tj:aM:=bn (fun us M=>bC (Nat.beq (ca M 1) 4) (cD M 0 8)) (be zq (cm rP Cy)) II
theorem abP:aX Tryz.prog 70 1 Tj:=aD (bi (f:=70) (k:=1) (ay Dx) Vj (by rfl) (by rfl) aa8) QW
noncomputable def Dw:=aZ Dy 1 Tj 70 [(0,4)]
theorem Dv:aE Tryz.prog Dw:=az abP Dx
def ja:XF:=.mk 95 (.one 4) (.seq (g_ 1 [p_ 0 4 (.mv (.c .nilS))]) (.seq (g_ 3 [p_ 0 7 (.bld [.int 1 (.ofNat 0),.int 1 (.ofNat 0),.int 1 (.ofNat 0),.int 3 (.ofNat 0),.int 3 (.ofNat 0),.int 3 (.ofNat 0),.int 3 (.ofNat 0),.int 4 (.ofNat 0),.int 4 (.ofNat 0),.int 1 (.ofNat 0),.int 2 (.ofNat 0),.int 3 (.ofNat 0),.int 1 (.ofNat 0),.int 1 (.ofNat 0),.int 1 (.ofNat 0),.int 1 (.ofNat 0),.int 1 (.ofNat 0),.int 1 (.ofNat 0),.int 1 (.ofNat 0),.nilS,.int 1 (.ofNat 0),.str [],.int 1 (.ofNat 0),.int 3 (.ofNat 0),.nilS,.int 1 (.ofNat 0),.int 2 (.ofNat 0),.bool false,.nilS,.nilS,.nilS] [(0,1)] [.c (.int 1 (.ofNat 11))]),e_ 1 5 (.al 74 [.int 1 (.ofNat 0),.int 1 (.ofNat 0),.int 1 (.ofNat 0),.int 3 (.ofNat 0),.int 3 (.ofNat 0),.int 3 (.ofNat 0),.int 3 (.ofNat 0),.int 4 (.ofNat 0),.int 4 (.ofNat 0),.int 1 (.ofNat 0),.int 2 (.ofNat 0),.int 3 (.ofNat 0),.int 1 (.ofNat 0),.int 1 (.ofNat 0),.int 1 (.ofNat 0),.int 1 (.ofNat 0),.int 1 (.ofNat 0),.int 1 (.ofNat 0),.int 1 (.ofNat 0),.nilS,.int 1 (.ofNat 0),.str [],.int 1 (.ofNat 0),.int 3 (.ofNat 0),.nilS,.int 1 (.ofNat 0),.int 2 (.ofNat 0),.bool false,.nilS,.nilS,.nilS]),bm 2 (.st 31 (.t 5) (.t 7))]) (.seq (.seq (g_ 3 [p_ 0 8 (m_ 0),c_ 1 9 32 [.t 8],p_ 2 10 (.un 0 (.t 9))]) (.cond (.t 10) (h_ 12 [p_ 0 11 (m_ 0),p_ 1 12 (n_ 11),p_ 2 13 (f_ 7 12),r_ 3 14 (l_ 13),p_ 4 15 (m_ 0),p_ 5 16 (n_ 15),p_ 6 17 (f_ 8 16),r_ 7 18 (.ld true 2 (.t 17)),p_ 8 19 (f_ 1 5),bm 9 (.st 1 (.t 19) (.t 14)),a_ 7 18 (.ld true 2 (.t 17)),p_ 10 20 (f_ 25 5),bm 11 (.st 2 (.t 20) (.t 18))]) .skip)) (.seq (.seq (g_ 3 [p_ 0 21 (m_ 0),c_ 1 22 19 [.t 21],p_ 2 23 (.un 0 (.t 22))]) (.cond (.t 23) (.seq (.seq (g_ 9 [p_ 0 24 (m_ 0),c_ 1 25 32 [.t 24],p_ 2 26 (m_ 25),am 3 27 26 false (m_ 0),am 4 28 26 false (n_ 27),am 5 29 26 false (f_ 14 28),aU 6 30 26 false (l_ 29),am 7 31 26 false (.un 0 (.t 30)),p_ 8 32 (.pick (.t 26) (.c (.bool true)) (.t 31))]) (.cond (.t 32) (.seq (g_ 1 [p_ 0 4 (.mv (.c .nilS))]) .ret) .skip)) (.seq (h_ 8 [p_ 0 33 (m_ 0),r_ 1 34 (.ld true 31 (.t 5)),p_ 2 35 (m_ 0),p_ 3 36 (n_ 35),p_ 4 37 (f_ 10 36),r_ 5 38 (l_ 37),c_ 6 39 69 [.t 33,.t 34,.t 38],p_ 7 4 (m_ 39)]) .ret)) .skip)) (.seq (g_ 1 [p_ 0 6 (.mv (.c .nilS))]) (.seq (.seq (h_ 9 [p_ 0 40 (m_ 0),p_ 1 41 (n_ 40),p_ 2 42 (f_ 13 41),r_ 3 43 (l_ 42),p_ 4 44 (m_ 0),p_ 5 45 (n_ 44),p_ 6 46 (f_ 8 45),r_ 7 47 (.ld true 2 (.t 46)),c_ 8 48 57 [.t 43,.t 47]]) (.cond (.t 48) (.seq (g_ 2 [p_ 0 49 (f_ 0 5),bm 1 (.st 1 (.t 49) (.c (.int 1 (.ofNat 12))))]) (h_ 10 [p_ 0 50 (m_ 0),r_ 1 51 (.ld true 31 (.t 5)),p_ 2 52 (m_ 0),p_ 3 53 (n_ 52),p_ 4 54 (f_ 0 53),p_ 5 55 (f_ 0 54),p_ 6 56 (f_ 2 55),r_ 7 57 (l_ 56),c_ 8 58 69 [.t 50,.t 51,.t 57],p_ 9 6 (m_ 58)])) .skip)) (.seq (.seq (h_ 11 [p_ 0 59 (m_ 0),p_ 1 60 (n_ 59),p_ 2 61 (f_ 0 60),p_ 3 62 (f_ 0 61),r_ 4 63 (.ld true 3 (.t 62)),p_ 6 65 (m_ 0),p_ 7 66 (n_ 65),p_ 8 67 (f_ 8 66),r_ 9 68 (.ld true 2 (.t 67)),c_ 5 64 41 [.t 63],a_ 9 68 (.ld true 2 (.t 67)),p_ 10 69 (.eqs false 2 (.st [(0,1,false,.int),(1,1,false,.int)]) (.t 64) (.t 68))]) (.cond (.t 69) (g_ 5 [p_ 0 70 (m_ 6),p_ 1 71 (m_ 0),c_ 2 72 70 [.t 71],e_ 3 73 (.app 118 33 224 (.t 70) (.t 72)),p_ 4 6 (m_ 73)]) .skip)) (.seq (.block 2 (.seq (g_ 7 [p_ 0 75 (m_ 0),p_ 1 76 (n_ 75),p_ 2 77 (f_ 0 76),p_ 3 78 (f_ 5 77),r_ 4 79 (l_ 78),p_ 5 80 (.isn true 1 (.t 79)),p_ 6 74 (m_ 80)]) (.cond (.t 74) (g_ 5 [p_ 0 81 (m_ 6),p_ 1 82 (m_ 0),c_ 2 83 71 [.t 82],e_ 3 84 (.app 118 33 224 (.t 81) (.t 83)),p_ 4 6 (m_ 84)]) (.seq (g_ 4 [p_ 0 86 (m_ 0),p_ 1 87 (m_ 1),c_ 2 88 72 [.t 86,.t 87],p_ 3 85 (m_ 88)]) (.cond (.t 85) (g_ 6 [p_ 0 89 (m_ 6),p_ 1 90 (m_ 0),p_ 2 91 (m_ 1),c_ 3 92 73 [.t 90,.t 91],e_ 4 93 (.app 118 33 224 (.t 89) (.t 92)),p_ 5 6 (m_ 93)]) .skip))))) (.seq (g_ 2 [p_ 0 94 (m_ 6),p_ 1 4 (m_ 94)]) .ret)))))))))
theorem gz:aW Tryz.prog 50 ja=true:=by kernel_rfl
structure qR where
 l:List Ke
 com:Int
 c0:Int
 now:Int
noncomputable def vP (p:qR):IE:=([.ptr 0 0,.sy (.int 0 p.now)],(dI p.l p.com p.c0),10)
noncomputable def JJ (p:qR) (K:KE):Bool:=K .nilS (dI p.l p.com p.c0) 10
def oZ (p:qR):Prop:=p.l.length≤400∧0≤p.com∧p.com≤400
theorem YL (p:qR) (K:KE) (hpre:oZ p) (hK:JJ p K=true):(aY 1 (bg Dw) bp 600 ja (vP p).1 (vP p).2.1 (vP p).2.2 K)=true:=by
 refine Eq.trans (b:=(ax fun p1:zE=>mP (([.ptr 0 0],(dI p.l p.com p.c0),10)=zw p1) (ax fun p2:pW=>mP (([.ptr 0 0,.sy (.int 0 p.now)],(dI p1.l p1.com p1.c0),10)=pP p2) (K .nilS (dI p2.l p2.com p2.c0) 10)))) (by kernel_rfl) ?_
 dsimp only[oZ]at hpre
 refine aH (⟨p.l,p.com,p.c0⟩:zE) ?_
 refine aK ?_
 refine aH (⟨p.l,p.com,p.c0,p.now⟩:pW) ?_
 refine aK ?_
 exact hK
noncomputable def Ee:aM:=bn (fun us M=>bC (Nat.beq (ca M 1) 1) (cD M 0 8)) (be vP (cm oZ JJ)) (fun _ _ _ _=>false)
theorem NV:aX Tryz.prog 50 1 Ee:=aD (bi (f:=50) (k:=1) (ay Dv) gz (by rfl) (by rfl) YL) dT
noncomputable def Au:=aZ Dw 1 Ee 50 [(0,4),(1,20)]
theorem Bv:aE Tryz.prog Au:=az NV Dv
def Ox:XF:=ja
theorem RE:aW Tryz.prog 50 Ox=true:=gz
structure nJ where
 l:List Ke
 com:Int
 c0:Int
 c1:Int
 now:Int
structure Jk where
 h1:Value
 e1:List Ke
def rX (p:nJ) (r:Jk):Prop:=r.e1=eC p.l p.c1
noncomputable def vN (p:nJ):IE:=([.ptr 0 0,.sy (.int 0 p.now)],(dB p.l p.com p.c0 p.c1),10)
noncomputable def zU (p:nJ) (K:KE):Bool:=ah fun r:Jk=>iP (rX p r) (K (.sl 1 0 1 (.rest 0)) (.node (.node (.node (.node .leaf (some (bN)) .leaf) (some (bR 2 7 8 9 aa p.l.length p.com)) .leaf) (some (.blk true 118 33 [[ke,bj,cu,aa,aa,bt,.sy (.int 3 p.c1),.sy (.int 3 p.com),aw,aI,aI,aa,aJ,aw,aa,aa,aa,aa,aa,aa,aa,.nilS,aa,.str [],aa,aw,.nilS,aa,aJ,.bool false,.nilS,.sy (.imm r.h1 18 Ke r.e1 ai),.nilS]])) (.node (.node .leaf (some (.map [(.agg bu,.sy (.int 0 p.c0),0),(.agg bK,.sy (.int 0 p.c1),1)] 2)) .leaf) (some (bN)) .leaf)) (some (bS 2 2 3 4 5 6 aa)) (.node (.node (.node .leaf (some (.prow 68 18 Ke p.l ai)) .leaf) (some (bA)) .leaf) (some (bN)) (.node (.node .leaf (some (bN)) .leaf) (some (bV 2 10)) .leaf))) 11) true
def oX (p:nJ):Prop:=p.l.length≤400∧0≤p.com∧p.com≤400∧0≤p.c1∧p.c1≤(p.l.length:Int)
theorem Yf {p:nJ} {K:KE} (hK:zU p K=true) (r:Jk) (h:rX p r):K (.sl 1 0 1 (.rest 0)) (.node (.node (.node (.node .leaf (some (bN)) .leaf) (some (bR 2 7 8 9 aa p.l.length p.com)) .leaf) (some (.blk true 118 33 [[ke,bj,cu,aa,aa,bt,.sy (.int 3 p.c1),.sy (.int 3 p.com),aw,aI,aI,aa,aJ,aw,aa,aa,aa,aa,aa,aa,aa,.nilS,aa,.str [],aa,aw,.nilS,aa,aJ,.bool false,.nilS,.sy (.imm r.h1 18 Ke r.e1 ai),.nilS]])) (.node (.node .leaf (some (.map [(.agg bu,.sy (.int 0 p.c0),0),(.agg bK,.sy (.int 0 p.c1),1)] 2)) .leaf) (some (bN)) .leaf)) (some (bS 2 2 3 4 5 6 aa)) (.node (.node (.node .leaf (some (.prow 68 18 Ke p.l ai)) .leaf) (some (bA)) .leaf) (some (bN)) (.node (.node .leaf (some (bN)) .leaf) (some (bV 2 10)) .leaf))) 11=true:=aA h (au hK r)
theorem YJ (p:nJ) (K:KE) (hpre:oX p) (hK:zU p K=true):(aY 1 (bg Au) bp 600 Ox (vN p).1 (vN p).2.1 (vN p).2.2 K)=true:=by
 refine Eq.trans (b:=(bf (([.ptr 0 0],(dB p.l p.com p.c0 p.c1),10)) zt rR uM fun p1 r1=>ax fun p2:pV=>mP (([.ptr 0 0,.sy (.int 0 p.now)],(dB p1.l p1.com p1.c0 p1.c1),10)=pO p2) (K (.sl 1 0 1 (.rest 0)) (.node (.node (.node (.node .leaf (some (bN)) .leaf) (some (bR 2 7 8 9 aa p2.l.length p2.com)) .leaf) (some (.blk true 118 33 [[ke,bj,cu,aa,aa,bt,.sy (.int 3 p1.c1),.sy (.int 3 p1.com),aw,aI,aI,aa,aJ,aw,aa,aa,aa,aa,aa,aa,aa,.nilS,aa,.str [],aa,aw,.nilS,aa,aJ,.bool false,.nilS,.sy (.imm r1.h1 18 Ke r1.e1 ai),.nilS]])) (.node (.node .leaf (some (.map [(.agg bu,.sy (.int 0 p2.c0),0),(.agg bK,.sy (.int 0 p2.c1),1)] 2)) .leaf) (some (bN)) .leaf)) (some (bS 2 2 3 4 5 6 aa)) (.node (.node (.node .leaf (some (.prow 68 18 Ke p2.l ai)) .leaf) (some (bA)) .leaf) (some (bN)) (.node (.node .leaf (some (bN)) .leaf) (some (bV 2 10)) .leaf))) 11))) (by kernel_rfl) ?_
 dsimp only[oX]at hpre
 refine aB (⟨p.l,p.com,p.c0,p.c1⟩:rk) rfl (by(try dsimp only[rR]);omega) fun r1 hi1=> ?_
 dsimp only[uM]at hi1
 refine aH (⟨p.l,p.com,p.c0,p.c1,p.now⟩:pV) ?_
 refine aK ?_
 exact Yf hK ⟨r1.h1,r1.e1⟩ (by dsimp only[rX]<;>assumption)
noncomputable def Ec:aM:=bn (fun us M=>bC (Nat.beq (ca M 1) 2) (cD M 0 8)) (be vN (cm oX zU)) Ee
theorem NT:aX Tryz.prog 50 1 Ec:=aD (bi (f:=50) (k:=1) (ay Bv) RE (by rfl) (by rfl) YJ) NV
noncomputable def As:=aZ Au 1 Ec 50 [(0,4),(1,20)]
theorem Bt:aE Tryz.prog As:=az NT Bv
def Oy:XF:=ja
theorem RF:aW Tryz.prog 50 Oy=true:=gz
structure qQ where
 l:List Ke
 com:Int
 c0:Int
 c1:Int
 me:Int
 now:Int
noncomputable def vO (p:qQ):IE:=([.ptr 0 0,.sy (.int 0 p.now)],(dJ p.l p.com p.c0 p.c1 p.me),10)
noncomputable def JI (p:qQ) (K:KE):Bool:=K .nilS (dJ p.l p.com p.c0 p.c1 p.me) 10
def oY (p:qQ):Prop:=1≤p.me∧p.me<2
theorem YK (p:qQ) (K:KE) (hpre:oY p) (hK:JI p K=true):(aY 1 (bg As) bp 600 Oy (vO p).1 (vO p).2.1 (vO p).2.2 K)=true:=by
 refine Eq.trans (b:=(let z0:Bool:=(K .nilS (dJ p.l p.com p.c0 p.c1 p.me) 10);iP (p.me<(16:Int)) (ac (qL [qI 1 p.me]) (iP (p.me<(16:Int)) (ac (qL [qI 1 p.me]) (iP ((0:Int)=p.me) (false) (ax fun p1:jB=>mP (([.ptr 0 0,.sy (.int 0 p.now)],(dJ p.l p.com p.c0 p.c1 p.me),10)=mA p1) (K .nilS (dJ p1.l p1.com p1.c0 p1.c1 p1.me) 10)))) (iP (p.me<(16:Int)) z0 z0))) (iP (p.me<(16:Int)) (ac (qL [qI 1 p.me]) (iP ((0:Int)=p.me) (false) (ax fun p2:jB=>mP (([.ptr 0 0,.sy (.int 0 p.now)],(dJ p.l p.com p.c0 p.c1 p.me),10)=mA p2) (K .nilS (dJ p2.l p2.com p2.c0 p2.c1 p2.me) 10)))) (iP (p.me<(16:Int)) z0 z0)))) (by kernel_rfl) ?_
 dsimp only[oY]at hpre
 obtain⟨u1,u2⟩:=hpre
 refine iI (fun hc1=> ?_) (fun hc1=> ?_)
 refine aG (by simp[qL,qI,qS,qY,aF]) ?_
 refine iI (fun hc2=> ?_) (fun hc2=> ?_)
 refine aG (by simp[qL,qI,qS,qY,aF]) ?_
 refine iI (fun hc3=> ?_) (fun hc3=> ?_)
 exfalso;omega
 refine aH (⟨p.l,p.com,p.c0,p.c1,p.me,p.now⟩:jB) ?_
 refine aK ?_
 exact hK
 refine iI (fun hc4=> ?_) (fun hc4=> ?_)
 exact hK
 exact hK
 refine iI (fun hc5=> ?_) (fun hc5=> ?_)
 refine aG (by simp[qL,qI,qS,qY,aF]) ?_
 refine iI (fun hc6=> ?_) (fun hc6=> ?_)
 exfalso;omega
 refine aH (⟨p.l,p.com,p.c0,p.c1,p.me,p.now⟩:jB) ?_
 refine aK ?_
 exact hK
 refine iI (fun hc7=> ?_) (fun hc7=> ?_)
 exact hK
 exact hK
noncomputable def Ed:aM:=bn (fun us M=>bC (Nat.beq (ca M 1) 2) (ig (cD M 0 8))) (be vO (cm oY JI)) Ec
theorem NU:aX Tryz.prog 50 1 Ed:=aD (bi (f:=50) (k:=1) (ay Bt) RF (by rfl) (by rfl) YK) NT
noncomputable def At:=aZ As 1 Ed 50 [(0,4),(1,20)]
theorem Bu:aE Tryz.prog At:=az NU Bt
def Ov:XF:=ja
theorem RC:aW Tryz.prog 50 Ov=true:=gz
structure nI where
 l:List Ke
 com:Int
 c0:Int
 c1:Int
 c2:Int
 now:Int
structure Jj where
 h1:Value
 e1:List Ke
 h2:Value
 e2:List Ke
def rW (p:nI) (r:Jj):Prop:=r.e1=eC p.l p.c1∧r.e2=eC p.l p.c2
noncomputable def vM (p:nI):IE:=([.ptr 0 0,.sy (.int 0 p.now)],(dA p.l p.com p.c0 p.c1 p.c2),10)
noncomputable def zT (p:nI) (K:KE):Bool:=ah fun r:Jj=>iP (rW p r) (K (.sl 1 0 2 (.rest 0)) (.node (.node (.node (.node .leaf (some (bE)) .leaf) (some (bR 3 7 8 9 aa p.l.length p.com)) .leaf) (some (.blk true 118 33 [[ke,bj,cu,aa,aa,bt,.sy (.int 3 p.c1),.sy (.int 3 p.com),aw,aI,aI,aa,aJ,aw,aa,aa,aa,aa,aa,aa,aa,.nilS,aa,.str [],aa,aw,.nilS,aa,aJ,.bool false,.nilS,.sy (.imm r.h1 18 Ke r.e1 ai),.nilS],[sR,bj,cu,aa,aa,bt,.sy (.int 3 p.c2),.sy (.int 3 p.com),aw,aI,aI,aa,aJ,aw,aa,aa,aa,aa,aa,aa,aa,.nilS,aa,.str [],aa,aw,.nilS,aa,aJ,.bool false,.nilS,.sy (.imm r.h2 18 Ke r.e2 ai),.nilS]])) (.node (.node .leaf (some (.map [(.agg bu,.sy (.int 0 p.c0),0),(.agg bK,.sy (.int 0 p.c1),1),(.agg cQ,.sy (.int 0 p.c2),2)] 3)) .leaf) (some (bE)) .leaf)) (some (bS 3 2 3 4 5 6 aa)) (.node (.node (.node .leaf (some (.prow 68 18 Ke p.l ai)) .leaf) (some (bA)) .leaf) (some (bE)) (.node (.node .leaf (some (bE)) .leaf) (some (bV 3 10)) .leaf))) 11) true
def oW (p:nI):Prop:=p.l.length≤400∧0≤p.com∧p.com≤400∧0≤p.c1∧p.c1≤(p.l.length:Int)∧0≤p.c2∧p.c2≤(p.l.length:Int)
theorem Ye {p:nI} {K:KE} (hK:zT p K=true) (r:Jj) (h:rW p r):K (.sl 1 0 2 (.rest 0)) (.node (.node (.node (.node .leaf (some (bE)) .leaf) (some (bR 3 7 8 9 aa p.l.length p.com)) .leaf) (some (.blk true 118 33 [[ke,bj,cu,aa,aa,bt,.sy (.int 3 p.c1),.sy (.int 3 p.com),aw,aI,aI,aa,aJ,aw,aa,aa,aa,aa,aa,aa,aa,.nilS,aa,.str [],aa,aw,.nilS,aa,aJ,.bool false,.nilS,.sy (.imm r.h1 18 Ke r.e1 ai),.nilS],[sR,bj,cu,aa,aa,bt,.sy (.int 3 p.c2),.sy (.int 3 p.com),aw,aI,aI,aa,aJ,aw,aa,aa,aa,aa,aa,aa,aa,.nilS,aa,.str [],aa,aw,.nilS,aa,aJ,.bool false,.nilS,.sy (.imm r.h2 18 Ke r.e2 ai),.nilS]])) (.node (.node .leaf (some (.map [(.agg bu,.sy (.int 0 p.c0),0),(.agg bK,.sy (.int 0 p.c1),1),(.agg cQ,.sy (.int 0 p.c2),2)] 3)) .leaf) (some (bE)) .leaf)) (some (bS 3 2 3 4 5 6 aa)) (.node (.node (.node .leaf (some (.prow 68 18 Ke p.l ai)) .leaf) (some (bA)) .leaf) (some (bE)) (.node (.node .leaf (some (bE)) .leaf) (some (bV 3 10)) .leaf))) 11=true:=aA h (au hK r)
theorem YH (p:nI) (K:KE) (hpre:oW p) (hK:zT p K=true):(aY 1 (bg At) bp 600 Ov (vM p).1 (vM p).2.1 (vM p).2.2 K)=true:=by
 refine Eq.trans (b:=(bf (([.ptr 0 0],(dA p.l p.com p.c0 p.c1 p.c2),10)) zr rQ uL fun p1 r1=>ax fun p2:pU=>mP (([.ptr 0 0,.sy (.int 0 p.now)],(dA p1.l p1.com p1.c0 p1.c1 p1.c2),10)=pN p2) (K (.sl 1 0 2 (.rest 0)) (.node (.node (.node (.node .leaf (some (bE)) .leaf) (some (bR 3 7 8 9 aa p2.l.length p2.com)) .leaf) (some (.blk true 118 33 [[ke,bj,cu,aa,aa,bt,.sy (.int 3 p1.c1),.sy (.int 3 p1.com),aw,aI,aI,aa,aJ,aw,aa,aa,aa,aa,aa,aa,aa,.nilS,aa,.str [],aa,aw,.nilS,aa,aJ,.bool false,.nilS,.sy (.imm r1.h1 18 Ke r1.e1 ai),.nilS],[sR,bj,cu,aa,aa,bt,.sy (.int 3 p1.c2),.sy (.int 3 p1.com),aw,aI,aI,aa,aJ,aw,aa,aa,aa,aa,aa,aa,aa,.nilS,aa,.str [],aa,aw,.nilS,aa,aJ,.bool false,.nilS,.sy (.imm r1.h2 18 Ke r1.e2 ai),.nilS]])) (.node (.node .leaf (some (.map [(.agg bu,.sy (.int 0 p2.c0),0),(.agg bK,.sy (.int 0 p2.c1),1),(.agg cQ,.sy (.int 0 p2.c2),2)] 3)) .leaf) (some (bE)) .leaf)) (some (bS 3 2 3 4 5 6 aa)) (.node (.node (.node .leaf (some (.prow 68 18 Ke p2.l ai)) .leaf) (some (bA)) .leaf) (some (bE)) (.node (.node .leaf (some (bE)) .leaf) (some (bV 3 10)) .leaf))) 11))) (by kernel_rfl) ?_
 dsimp only[oW]at hpre
 refine aB (⟨p.l,p.com,p.c0,p.c1,p.c2⟩:rj) rfl (by(try dsimp only[rQ]);omega) fun r1 hi1=> ?_
 dsimp only[uL]at hi1
 refine aH (⟨p.l,p.com,p.c0,p.c1,p.c2,p.now⟩:pU) ?_
 refine aK ?_
 exact Ye hK ⟨r1.h1,r1.e1,r1.h2,r1.e2⟩ (by dsimp only[rW]<;>assumption)
noncomputable def Ea:aM:=bn (fun us M=>bC (Nat.beq (ca M 1) 3) (cD M 0 8)) (be vM (cm oW zT)) Ed
theorem NR:aX Tryz.prog 50 1 Ea:=aD (bi (f:=50) (k:=1) (ay Bu) RC (by rfl) (by rfl) YH) NU
noncomputable def Aq:=aZ At 1 Ea 50 [(0,4),(1,20)]
theorem Br:aE Tryz.prog Aq:=az NR Bu
def Ow:XF:=ja
theorem RD:aW Tryz.prog 50 Ow=true:=gz
structure lH where
 l:List Ke
 com:Int
 c0:Int
 c1:Int
 c2:Int
 me:Int
 now:Int
noncomputable def qG (p:lH):IE:=([.ptr 0 0,.sy (.int 0 p.now)],(dm p.l p.com p.c0 p.c1 p.c2 p.me),10)
noncomputable def JH (p:lH) (K:KE):Bool:=K .nilS (dm p.l p.com p.c0 p.c1 p.c2 p.me) 10
def jl (p:lH):Prop:=1≤p.me∧p.me<3
theorem YI (p:lH) (K:KE) (hpre:jl p) (hK:JH p K=true):(aY 1 (bg Aq) bp 600 Ow (qG p).1 (qG p).2.1 (qG p).2.2 K)=true:=by
 refine Eq.trans (b:=(let z0:Bool:=(K .nilS (dm p.l p.com p.c0 p.c1 p.c2 p.me) 10);iP (p.me<(16:Int)) (ac (qL [qI 1 p.me]) (iP (p.me<(16:Int)) (ac (qL [qI 1 p.me]) (iP ((0:Int)=p.me) (false) (ax fun p1:jA=>mP (([.ptr 0 0,.sy (.int 0 p.now)],(dm p.l p.com p.c0 p.c1 p.c2 p.me),10)=mz p1) (K .nilS (dm p1.l p1.com p1.c0 p1.c1 p1.c2 p1.me) 10)))) (iP (p.me<(16:Int)) z0 z0))) (iP (p.me<(16:Int)) (ac (qL [qI 1 p.me]) (iP ((0:Int)=p.me) (false) (ax fun p2:jA=>mP (([.ptr 0 0,.sy (.int 0 p.now)],(dm p.l p.com p.c0 p.c1 p.c2 p.me),10)=mz p2) (K .nilS (dm p2.l p2.com p2.c0 p2.c1 p2.c2 p2.me) 10)))) (iP (p.me<(16:Int)) z0 z0)))) (by kernel_rfl) ?_
 dsimp only[jl]at hpre
 obtain⟨u1,u2⟩:=hpre
 refine iI (fun hc1=> ?_) (fun hc1=> ?_)
 refine aG (by simp[qL,qI,qS,qY,aF]) ?_
 refine iI (fun hc2=> ?_) (fun hc2=> ?_)
 refine aG (by simp[qL,qI,qS,qY,aF]) ?_
 refine iI (fun hc3=> ?_) (fun hc3=> ?_)
 exfalso;omega
 refine aH (⟨p.l,p.com,p.c0,p.c1,p.c2,p.me,p.now⟩:jA) ?_
 refine aK ?_
 exact hK
 refine iI (fun hc4=> ?_) (fun hc4=> ?_)
 exact hK
 exact hK
 refine iI (fun hc5=> ?_) (fun hc5=> ?_)
 refine aG (by simp[qL,qI,qS,qY,aF]) ?_
 refine iI (fun hc6=> ?_) (fun hc6=> ?_)
 exfalso;omega
 refine aH (⟨p.l,p.com,p.c0,p.c1,p.c2,p.me,p.now⟩:jA) ?_
 refine aK ?_
 exact hK
 refine iI (fun hc7=> ?_) (fun hc7=> ?_)
 exact hK
 exact hK
noncomputable def Eb:aM:=bn (fun us M=>bC (Nat.beq (ca M 1) 3) (ig (cD M 0 8))) (be qG (cm jl JH)) Ea
theorem NS:aX Tryz.prog 50 1 Eb:=aD (bi (f:=50) (k:=1) (ay Br) RD (by rfl) (by rfl) YI) NR
noncomputable def Ar:=aZ Aq 1 Eb 50 [(0,4),(1,20)]
theorem Bs:aE Tryz.prog Ar:=az NS Br
def Ot:XF:=ja
theorem RA:aW Tryz.prog 50 Ot=true:=gz
structure nH where
 l:List Ke
 com:Int
 c0:Int
 c1:Int
 c2:Int
 c3:Int
 now:Int
structure Ji where
 h1:Value
 e1:List Ke
 h2:Value
 e2:List Ke
 h3:Value
 e3:List Ke
def rV (p:nH) (r:Ji):Prop:=r.e1=eC p.l p.c1∧r.e2=eC p.l p.c2∧r.e3=eC p.l p.c3
noncomputable def vL (p:nH):IE:=([.ptr 0 0,.sy (.int 0 p.now)],(dz p.l p.com p.c0 p.c1 p.c2 p.c3),10)
noncomputable def zS (p:nH) (K:KE):Bool:=ah fun r:Ji=>iP (rV p r) (K (.sl 1 0 3 (.rest 0)) (.node (.node (.node (.node .leaf (some (bw)) .leaf) (some (bR 4 7 8 9 aa p.l.length p.com)) .leaf) (some (.blk true 118 33 [[ke,bj,cu,aa,aa,bt,.sy (.int 3 p.c1),.sy (.int 3 p.com),aw,aI,aI,aa,aJ,aw,aa,aa,aa,aa,aa,aa,aa,.nilS,aa,.str [],aa,aw,.nilS,aa,aJ,.bool false,.nilS,.sy (.imm r.h1 18 Ke r.e1 ai),.nilS],[sR,bj,cu,aa,aa,bt,.sy (.int 3 p.c2),.sy (.int 3 p.com),aw,aI,aI,aa,aJ,aw,aa,aa,aa,aa,aa,aa,aa,.nilS,aa,.str [],aa,aw,.nilS,aa,aJ,.bool false,.nilS,.sy (.imm r.h2 18 Ke r.e2 ai),.nilS],[cu,bj,cu,aa,aa,bt,.sy (.int 3 p.c3),.sy (.int 3 p.com),aw,aI,aI,aa,aJ,aw,aa,aa,aa,aa,aa,aa,aa,.nilS,aa,.str [],aa,aw,.nilS,aa,aJ,.bool false,.nilS,.sy (.imm r.h3 18 Ke r.e3 ai),.nilS]])) (.node (.node .leaf (some (.map [(.agg bu,.sy (.int 0 p.c0),0),(.agg bK,.sy (.int 0 p.c1),1),(.agg cQ,.sy (.int 0 p.c2),2),(.agg fx,.sy (.int 0 p.c3),3)] 4)) .leaf) (some (bw)) .leaf)) (some (bS 4 2 3 4 5 6 aa)) (.node (.node (.node .leaf (some (.prow 68 18 Ke p.l ai)) .leaf) (some (bA)) .leaf) (some (bw)) (.node (.node .leaf (some (bw)) .leaf) (some (bV 4 10)) .leaf))) 11) true
def oV (p:nH):Prop:=p.l.length≤400∧0≤p.com∧p.com≤400∧0≤p.c1∧p.c1≤(p.l.length:Int)∧0≤p.c2∧p.c2≤(p.l.length:Int)∧0≤p.c3∧p.c3≤(p.l.length:Int)
theorem Yd {p:nH} {K:KE} (hK:zS p K=true) (r:Ji) (h:rV p r):K (.sl 1 0 3 (.rest 0)) (.node (.node (.node (.node .leaf (some (bw)) .leaf) (some (bR 4 7 8 9 aa p.l.length p.com)) .leaf) (some (.blk true 118 33 [[ke,bj,cu,aa,aa,bt,.sy (.int 3 p.c1),.sy (.int 3 p.com),aw,aI,aI,aa,aJ,aw,aa,aa,aa,aa,aa,aa,aa,.nilS,aa,.str [],aa,aw,.nilS,aa,aJ,.bool false,.nilS,.sy (.imm r.h1 18 Ke r.e1 ai),.nilS],[sR,bj,cu,aa,aa,bt,.sy (.int 3 p.c2),.sy (.int 3 p.com),aw,aI,aI,aa,aJ,aw,aa,aa,aa,aa,aa,aa,aa,.nilS,aa,.str [],aa,aw,.nilS,aa,aJ,.bool false,.nilS,.sy (.imm r.h2 18 Ke r.e2 ai),.nilS],[cu,bj,cu,aa,aa,bt,.sy (.int 3 p.c3),.sy (.int 3 p.com),aw,aI,aI,aa,aJ,aw,aa,aa,aa,aa,aa,aa,aa,.nilS,aa,.str [],aa,aw,.nilS,aa,aJ,.bool false,.nilS,.sy (.imm r.h3 18 Ke r.e3 ai),.nilS]])) (.node (.node .leaf (some (.map [(.agg bu,.sy (.int 0 p.c0),0),(.agg bK,.sy (.int 0 p.c1),1),(.agg cQ,.sy (.int 0 p.c2),2),(.agg fx,.sy (.int 0 p.c3),3)] 4)) .leaf) (some (bw)) .leaf)) (some (bS 4 2 3 4 5 6 aa)) (.node (.node (.node .leaf (some (.prow 68 18 Ke p.l ai)) .leaf) (some (bA)) .leaf) (some (bw)) (.node (.node .leaf (some (bw)) .leaf) (some (bV 4 10)) .leaf))) 11=true:=aA h (au hK r)
theorem YF (p:nH) (K:KE) (hpre:oV p) (hK:zS p K=true):(aY 1 (bg Ar) bp 600 Ot (vL p).1 (vL p).2.1 (vL p).2.2 K)=true:=by
 refine Eq.trans (b:=(bf (([.ptr 0 0],(dz p.l p.com p.c0 p.c1 p.c2 p.c3),10)) zq rP uK fun p1 r1=>ax fun p2:pT=>mP (([.ptr 0 0,.sy (.int 0 p.now)],(dz p1.l p1.com p1.c0 p1.c1 p1.c2 p1.c3),10)=pM p2) (K (.sl 1 0 3 (.rest 0)) (.node (.node (.node (.node .leaf (some (bw)) .leaf) (some (bR 4 7 8 9 aa p2.l.length p2.com)) .leaf) (some (.blk true 118 33 [[ke,bj,cu,aa,aa,bt,.sy (.int 3 p1.c1),.sy (.int 3 p1.com),aw,aI,aI,aa,aJ,aw,aa,aa,aa,aa,aa,aa,aa,.nilS,aa,.str [],aa,aw,.nilS,aa,aJ,.bool false,.nilS,.sy (.imm r1.h1 18 Ke r1.e1 ai),.nilS],[sR,bj,cu,aa,aa,bt,.sy (.int 3 p1.c2),.sy (.int 3 p1.com),aw,aI,aI,aa,aJ,aw,aa,aa,aa,aa,aa,aa,aa,.nilS,aa,.str [],aa,aw,.nilS,aa,aJ,.bool false,.nilS,.sy (.imm r1.h2 18 Ke r1.e2 ai),.nilS],[cu,bj,cu,aa,aa,bt,.sy (.int 3 p1.c3),.sy (.int 3 p1.com),aw,aI,aI,aa,aJ,aw,aa,aa,aa,aa,aa,aa,aa,.nilS,aa,.str [],aa,aw,.nilS,aa,aJ,.bool false,.nilS,.sy (.imm r1.h3 18 Ke r1.e3 ai),.nilS]])) (.node (.node .leaf (some (.map [(.agg bu,.sy (.int 0 p2.c0),0),(.agg bK,.sy (.int 0 p2.c1),1),(.agg cQ,.sy (.int 0 p2.c2),2),(.agg fx,.sy (.int 0 p2.c3),3)] 4)) .leaf) (some (bw)) .leaf)) (some (bS 4 2 3 4 5 6 aa)) (.node (.node (.node .leaf (some (.prow 68 18 Ke p2.l ai)) .leaf) (some (bA)) .leaf) (some (bw)) (.node (.node .leaf (some (bw)) .leaf) (some (bV 4 10)) .leaf))) 11))) (by kernel_rfl) ?_
 dsimp only[oV]at hpre
 refine aB (⟨p.l,p.com,p.c0,p.c1,p.c2,p.c3⟩:ri) rfl (by(try dsimp only[rP]);omega) fun r1 hi1=> ?_
 dsimp only[uK]at hi1
 refine aH (⟨p.l,p.com,p.c0,p.c1,p.c2,p.c3,p.now⟩:pT) ?_
 refine aK ?_
 exact Yd hK ⟨r1.h1,r1.e1,r1.h2,r1.e2,r1.h3,r1.e3⟩ (by dsimp only[rV]<;>assumption)
noncomputable def DZ:aM:=bn (fun us M=>bC (Nat.beq (ca M 1) 4) (cD M 0 8)) (be vL (cm oV zS)) Eb
theorem NQ:aX Tryz.prog 50 1 DZ:=aD (bi (f:=50) (k:=1) (ay Bs) RA (by rfl) (by rfl) YF) NS
noncomputable def Ao:=aZ Ar 1 DZ 50 [(0,4),(1,20)]
theorem Bp:aE Tryz.prog Ao:=az NQ Bs
def Ou:XF:=ja
theorem RB:aW Tryz.prog 50 Ou=true:=gz
structure iu where
 l:List Ke
 com:Int
 c0:Int
 c1:Int
 c2:Int
 c3:Int
 me:Int
 now:Int
noncomputable def nD (p:iu):IE:=([.ptr 0 0,.sy (.int 0 p.now)],(cV p.l p.com p.c0 p.c1 p.c2 p.c3 p.me),10)
noncomputable def JG (p:iu) (K:KE):Bool:=K .nilS (cV p.l p.com p.c0 p.c1 p.c2 p.c3 p.me) 10
def fA (p:iu):Prop:=1≤p.me∧p.me<4
theorem YG (p:iu) (K:KE) (hpre:fA p) (hK:JG p K=true):(aY 1 (bg Ao) bp 600 Ou (nD p).1 (nD p).2.1 (nD p).2.2 K)=true:=by
 refine Eq.trans (b:=(let z0:Bool:=(K .nilS (cV p.l p.com p.c0 p.c1 p.c2 p.c3 p.me) 10);iP (p.me<(16:Int)) (ac (qL [qI 1 p.me]) (iP (p.me<(16:Int)) (ac (qL [qI 1 p.me]) (iP ((0:Int)=p.me) (false) (ax fun p1:jz=>mP (([.ptr 0 0,.sy (.int 0 p.now)],(cV p.l p.com p.c0 p.c1 p.c2 p.c3 p.me),10)=my p1) (K .nilS (cV p1.l p1.com p1.c0 p1.c1 p1.c2 p1.c3 p1.me) 10)))) (iP (p.me<(16:Int)) z0 z0))) (iP (p.me<(16:Int)) (ac (qL [qI 1 p.me]) (iP ((0:Int)=p.me) (false) (ax fun p2:jz=>mP (([.ptr 0 0,.sy (.int 0 p.now)],(cV p.l p.com p.c0 p.c1 p.c2 p.c3 p.me),10)=my p2) (K .nilS (cV p2.l p2.com p2.c0 p2.c1 p2.c2 p2.c3 p2.me) 10)))) (iP (p.me<(16:Int)) z0 z0)))) (by kernel_rfl) ?_
 dsimp only[fA]at hpre
 obtain⟨u1,u2⟩:=hpre
 refine iI (fun hc1=> ?_) (fun hc1=> ?_)
 refine aG (by simp[qL,qI,qS,qY,aF]) ?_
 refine iI (fun hc2=> ?_) (fun hc2=> ?_)
 refine aG (by simp[qL,qI,qS,qY,aF]) ?_
 refine iI (fun hc3=> ?_) (fun hc3=> ?_)
 exfalso;omega
 refine aH (⟨p.l,p.com,p.c0,p.c1,p.c2,p.c3,p.me,p.now⟩:jz) ?_
 refine aK ?_
 exact hK
 refine iI (fun hc4=> ?_) (fun hc4=> ?_)
 exact hK
 exact hK
 refine iI (fun hc5=> ?_) (fun hc5=> ?_)
 refine aG (by simp[qL,qI,qS,qY,aF]) ?_
 refine iI (fun hc6=> ?_) (fun hc6=> ?_)
 exfalso;omega
 refine aH (⟨p.l,p.com,p.c0,p.c1,p.c2,p.c3,p.me,p.now⟩:jz) ?_
 refine aK ?_
 exact hK
 refine iI (fun hc7=> ?_) (fun hc7=> ?_)
 exact hK
 exact hK
noncomputable def OM:aM:=bn (fun us M=>bC (Nat.beq (ca M 1) 4) (ig (cD M 0 8))) (be nD (cm fA JG)) DZ
theorem Zs:aX Tryz.prog 50 1 OM:=aD (bi (f:=50) (k:=1) (ay Bp) RB (by rfl) (by rfl) YG) NQ
noncomputable def Ap:=aZ Ao 1 OM 50 [(0,4),(1,20)]
theorem Bq:aE Tryz.prog Ap:=az Zs Bp
end Go.Proofs.Tryz
