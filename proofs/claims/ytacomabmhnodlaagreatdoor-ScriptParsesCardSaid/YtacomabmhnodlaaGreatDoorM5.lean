/- Definitions and lemmas of the proof, without a condition of their own. -/
import Derived.Test.YtacomabmhnodlaaGreatDoorM4
import Derived.KernelRfl
import Derived.RangeFuncBox
import Derived.RangeFuncLeaves
import Derived.RangeFuncFrom
import Derived.Shelf.Abstract
import Derived.WalkKit
import Derived.OwnWalkIn
import Derived.TacticsInMore
import Derived.LoopNIn
import Derived.LoopIn
import Derived.Maps.RangeWalk
import Derived.Test.YtacomabmhnodlaaGreatDoorProg
open List renaming eq_nil_of_length_eq_zero→aaX,getElem?_take_of_lt→aaT,length_append→aaC,length_cons→aaD,mem_cons→aaM,mem_of_getElem?→aaG
open Option.some renaming inj→aaZ,injEq→aaV
open UInt8 renaming ofNat→aaY
namespace Go.Proofs.Tryz
open Go.Proofs.YtacomabmhnodlaaGreatDoor (uJ lz tP kg oA lT nV)
open Go Go.RowKit Go.Sy
open Go.Eng hiding ai
set_option maxRecDepth 1000000
set_option linter.unusedVariables false
set_option maxHeartbeats 4000000
open Go.Txt (wds)
def cq (b:Int):UInt8:=aaY b.toNat
theorem CN {b:Int} (hb:0≤b∧b≤255):(cq b).toNat=b.toNat:=by
 unfold cq;simp;omega
theorem Wk {s:List UInt8} {i:Int} {b:Int} (hb:0≤b∧b≤255) (h0:0≤i) (h1:i<s.length) (e:((s.getD i.toNat 0).toNat:Int)=b):s=s.take i.toNat++cq b::s.drop (i+1).toNat:=by
 have hl:i.toNat<s.length:=by omega
 have e2:s.getD i.toNat 0=cq b:=by
  apply UInt8.toNat_inj.1
  rw[CN hb]
  omega
 have e3:s.drop i.toNat=cq b::s.drop (i+1).toNat:=by
  rw[show(i+1).toNat=i.toNat+1 by omega,List.drop_eq_getElem_cons hl,←e2]
  simp[List.getD,hl]
 rw[←e3,List.take_append_drop]
def NG (s:List UInt8) (b i:Int):Prop:=∀j:Nat,(j:Int)<i→j<s.length→¬((s.getD j 0).toNat:Int)=b
theorem PZ {s:List UInt8} {b i:Int} (h:NG s b i) (h0:0≤i) (h1:¬((s.getD i.toNat 0).toNat:Int)=b):NG s b (i+1):=fun j hj hl=>by
 by_cases e:(j:Int)=i
 ·have:j=i.toNat:=by omega
  subst this;exact h1
 ·exact h j (by omega) hl
theorem Gx {s:List UInt8} {b i:Int} (hb:0≤b∧b≤255) (h:NG s b i) (h0:0≤i):cq b∉s.take i.toNat:=fun q=>by
 obtain⟨j,hj⟩:=List.mem_iff_getElem?.1 q
 have hl:=(List.getElem?_eq_some_iff.1 hj).1
 rw[List.length_take]at hl
 rw[aaT (by omega)]at hj
 refine h j (by omega) (by omega) ?_
 have e:s.getD j 0=cq b:=by simp[List.getD,hj]
 rw[e,CN hb]
 omega
theorem Tc {s:List UInt8} {b i:Int} (hb:0≤b∧b≤255) (h:NG s b i) (h0:(s.length:Int)≤i):cq b∉s:=fun q=>by
 refine Gx hb h (by omega) ?_
 rw[List.take_of_length_le (by omega)]
 exact q
def jT (s:List UInt8) (b:Int) (u v:List UInt8) (q:Prop):Prop:=(q→s=u++cq b::v∧cq b∉u)∧(¬q→u=s∧cq b∉s)
theorem TT {s u v:List UInt8} {b:Int} {q:Prop} (h:jT s b u v q) (hq:q):wds (cq b) s=u::wds (cq b) v:=by
 obtain⟨e1,e2⟩:=h.1 hq
 rw[e1];exact Txt.wds_cut e2
theorem QO {s u v:List UInt8} {b:Int} {q:Prop} (h:jT s b u v q) (hq:¬q):wds (cq b) s=[u]:=by
 obtain⟨e1,e2⟩:=h.2 hq
 rw[e1];exact Txt.wds_none e2
theorem Dk {s u v:List UInt8} {b:Int} {q:Prop} (h:jT s b u v q) (hq:q):s.length=u.length+v.length+1:=by
 have e:=congrArg List.length (h.1 hq).1
 rw[aaC,aaD]at e
 omega
theorem Sl {s u v:List UInt8} {b:Int} {q:Prop} {r w:TX} (h:jT s b u v q) (hq:q) (hz:r=(w++[u])++wds (cq b) v):r=w++wds (cq b) s:=by rw[hz,TT h hq];simp
theorem Pl {s:List UInt8} {i:Int}:(s.drop (0:Int).toNat).take (i.toNat - (0:Int).toNat)=s.take i.toNat:=by simp
theorem Pm {s:List UInt8} {i:Int} (h:i+1≤s.length):(s.drop (i+1).toNat).take ((s.length:Int).toNat - (i+1).toNat)=s.drop (i+1).toNat:=by
 apply List.take_of_length_le
 rw[List.length_drop];omega
def Ax:XC:=(.aft (.seq (.seq (g_ 4 [p_ 0 8 (m_ 7),p_ 1 9 (m_ 0),p_ 2 10 (.len 0 (.t 9)),p_ 3 11 (.bin 3 0 (.t 8) (.t 10))]) (.cond (.t 11) .skip (.exit 2))) (.seq (.block 3 (.seq (g_ 5 [p_ 0 14 (m_ 0),p_ 1 15 (m_ 7),p_ 2 16 (.six (.t 14) (.t 15)),p_ 3 17 (m_ 1),p_ 4 18 (.bin 3 4 (.t 16) (.t 17))]) (.cond (.t 18) (.seq (h_ 10 [p_ 0 19 (m_ 0),p_ 1 20 (m_ 7),p_ 2 21 (.slt (.t 19) none (some (.t 20))),p_ 3 22 (m_ 0),p_ 4 23 (m_ 7),p_ 5 24 (.bin 0 0 (.t 23) (i_ 1)),p_ 6 25 (.slt (.t 22) (some (.t 24)) none),p_ 7 4 (m_ 21),p_ 8 5 (m_ 25),p_ 9 6 (.mv (.c (.bool true)))]) .ret) .skip))) (g_ 3 [p_ 0 12 (m_ 7),p_ 1 13 (.bin 0 0 (.t 12) (i_ 1)),p_ 2 7 (m_ 13)]))) [(0,[.can 0 [0,1,7]]),(1,[.can 0 [4,5,6]]),(2,[.can 0 [0]])])
def Oh:XF:=.mk 27 (.three 4 5 6) (.aft (.seq (g_ 3 [p_ 0 4 (.mv (.c (.str []))),p_ 1 5 (.mv (.c (.str []))),p_ 2 6 (.mv (.c (.bool false)))]) (.seq (.seq (g_ 1 [p_ 0 7 (.mv (i_ 0))]) (.block 2 (.pre [.can 0 [0,1,7],.up 7,.can 0 [0,1,7]] (.inv 0 Ax)))) (.seq (g_ 4 [p_ 0 26 (m_ 0),p_ 1 4 (m_ 26),p_ 2 5 (.mv (.c (.str []))),p_ 3 6 (.mv (.c (.bool false)))]) .ret))) [(0,[.up 4,.up 5,.up 6]),(1,[.up 4,.up 5,.up 6])])
theorem Og:ci Tryz.prog 19 Oh=true:=by kernel_rfl
structure fU where
 s:List UInt8
 b:Int
 i:Int
structure vh where
 u:List UInt8
 v:List UInt8
def Ge (p:fU):Prop:=cq p.b∉p.s
def DU (p:fU) (r:vh):Prop:=p.s=r.u++cq p.b::r.v∧cq p.b∉r.u
noncomputable def kI (p:fU):IL:=((.cons 7 (.sy (.int 0 p.i)) (.cons 1 (.int 1 p.b) (.cons 0 (.sy (.str p.s)) .nil))),.leaf,0)
noncomputable def wh (p:fU) (K:KC):Bool:=ac (iP (Ge p) (K 2 (.cons 0 (.sy (.str p.s)) .nil) .leaf 0) true) (ai fun r:vh=>iP (DU p r) (K 1 (.cons 6 (.bool true) (.cons 5 (.sy (.str r.v)) (.cons 4 (.sy (.str r.u)) .nil))) .leaf 0) true)
def jG (p:fU):Prop:=p.s.length≤1000000∧0≤p.i∧p.i≤(p.s.length:Int)∧NG p.s p.b p.i∧0≤p.b∧p.b≤255
noncomputable def tO (p:fU) (K:KC):Bool:=ac (aC (jG p)) (wh p K)
noncomputable def Bv:gO:=fun j S M nx K=>(Bool.rec (false) (aN fun p:fU=>ac (aC ((S,M,nx)=kI p)) (tO p K)) (Nat.beq j 0))
def iQ (p:fU):Nat:=((p.s.length:Int) - p.i).toNat
noncomputable def Iy (s:IL) (n:Nat) (K:KC):Bool:=aN fun q=>mP (s=kI q∧iQ q<n) (tO q K)
theorem QY {p q:fU} {K:KC} {s:IL} (hm:iQ q<iQ p:=by dsimp only[iQ]<;>(omega)) (hp:jG q:=by dsimp only[jG]<;>(exact⟨g0,by omega,by omega,PZ g3 (by omega) (by assumption),g4⟩)) (hK:wh q K=true:=by exact hK) (e:s=kI q:=by rfl):Iy s (iQ p) K=true:=bj q (bl ⟨e,hm⟩ (bl hp hK))
theorem Pg (p:fU) (K:KC) (hpre:jG p) (hK:wh p K=true):(df (cj xR) Bv 600 Ax (kI p).1 (kI p).2.1 (kI p).2.2 (fun e S M nx=>Nat.casesOn e (aN fun q:fU=>ac (aC ((S,M,nx)=kI q∧iQ q<iQ p)) (tO q K)) (fun e2=>K (Nat.succ e2) S M nx)))=true:=by
 refine Eq.trans (b:=(iP (p.i<(p.s.length:Int)) (mP (0≤p.i∧p.i<(p.s.length:Int)) (iP (((p.s.getD p.i.toNat 0).toNat:Int)=(p.b:Int)) (mP (0≤(0:Int)∧(0:Int)≤p.i∧p.i≤(p.s.length:Int)) (mP (bb 0 (p.i+(1:Int))) (mP (0≤(p.i+(1:Int))∧(p.i+(1:Int))≤(p.s.length:Int)∧(p.s.length:Int)≤(p.s.length:Int)) (K 1 (.cons 6 (.bool true) (.cons 5 (.sy (.str ((p.s.drop ((p.i+(1:Int)).toNat)).take (((p.s.length:Int).toNat) - ((p.i+(1:Int)).toNat))))) (.cons 4 (.sy (.str ((p.s.drop ((0:Int).toNat)).take (p.i.toNat - ((0:Int).toNat))))) .nil))) .leaf 0)))) (mP (bb 0 (p.i+(1:Int))) (Iy ((.cons 7 (.sy (.int 0 (p.i+(1:Int)))) (.cons 1 (.int 1 p.b) (.cons 0 (.sy (.str p.s)) .nil))),.leaf,0) (iQ p) K)))) (K 2 (.cons 0 (.sy (.str p.s)) .nil) .leaf 0))) (by kernel_rfl) ?_
 obtain⟨hK0,hKr0⟩:=aj hK
 have hK1:=hKr0
 dsimp only[jG]at hpre
 obtain⟨g0,g1,g2,g3,g4⟩:=hpre
 refine iI (fun hc1=> ?_) (fun hc1=> ?_)
 refine bC ?_
 refine iI (fun hc2=> ?_) (fun hc2=> ?_)
 refine mI (by(first|omega|(simp[dW]<;>omega))) (fe (mI (by(first|omega|(simp[dW]<;>omega))) ?_))
 exact aq (show p.s=((p.s.drop ((0:Int).toNat)).take (p.i.toNat - ((0:Int).toNat)))++cq p.b::((p.s.drop ((p.i+(1:Int)).toNat)).take (((p.s.length:Int).toNat) - ((p.i+(1:Int)).toNat)))∧cq p.b∉((p.s.drop ((0:Int).toNat)).take (p.i.toNat - ((0:Int).toNat))) from(by rw[Pl,Pm (by omega)];exact⟨Wk g4 (by omega) (by omega) (by assumption),Gx g4 g3 (by omega)⟩)) (az hK1 (⟨(p.s.drop ((0:Int).toNat)).take (p.i.toNat - ((0:Int).toNat)),(p.s.drop ((p.i+(1:Int)).toNat)).take (((p.s.length:Int).toNat) - ((p.i+(1:Int)).toNat))⟩:vh))
 refine fe ?_
 exact QY (q:=⟨p.s,p.b,p.i+(1:Int)⟩)
 exact aq (show cq p.b∉p.s from(by exact Tc g4 g3 (by omega))) hK0
theorem Qr:dR Tryz.prog 27 0 Bv true 0 Ax:=by
 exact gm (lf:=600) bH (aQ uG) (by rfl) kI iQ tO (fun b j x h=>by cases h) (fun S M nx K h=>by obtain⟨p,h⟩:=bR h;exact⟨p,(aa h).1,(aa h).2⟩) (fun p K h=>Pg p K (aa h).1 (aa h).2)
structure rU where
 s:List UInt8
 b:Int
structure MD where
 u:List UInt8
 v:List UInt8
 q:Prop
def oy (p:rU) (r:MD):Prop:=jT p.s p.b r.u r.v r.q
noncomputable def yu (p:rU):IE:=([.sy (.str p.s),.int 1 p.b],.leaf,0)
noncomputable def CG (p:rU) (K:KE):Bool:=ai fun r:MD=>iP (oy p r) (K (.tup [.sy (.str r.u),.sy (.str r.v),.sy (.bool r.q)]) .leaf 0) true
def nt (p:rU):Prop:=p.s.length≤1000000∧0≤p.b∧p.b≤255
theorem Kk {p:rU} {K:KE} (hK:CG p K=true) (r:MD) (h:oy p r):K (.tup [.sy (.str r.u),.sy (.str r.v),.sy (.bool r.q)]) .leaf 0=true:=aq h (az hK r)
theorem Ur (p:rU) (K:KE) (hpre:nt p) (hK:CG p K=true):(cw 0 (cj xR) Bv 600 Oh (yu p).1 (yu p).2.1 (yu p).2.2 K)=true:=by
 refine Eq.trans (b:=(aN fun p1:fU=>mP (((.cons 7 (.sy (.int 0 0)) (.cons 1 (.int 1 p.b) (.cons 0 (.sy (.str p.s)) .nil))),.leaf,0)=kI p1) (mP (jG p1) (ac (iP (Ge p1) (K (.tup [.sy (.str p1.s),.sy (.str aW),.sy (.bool (false=true))]) .leaf 0) true) (ai fun r1:vh=>iP (DU p1 r1) (K (.tup [.sy (.str r1.u),.sy (.str r1.v),.sy (.bool (true=true))]) .leaf 0) true))))) (by kernel_rfl) ?_
 dsimp only[nt]at hpre
 obtain⟨h1,h2,h3⟩:=hpre
 refine eX (⟨p.s,p.b,(0:Int)⟩:fU) rfl (by(try dsimp only[jG]);exact⟨h1,by omega,by omega,fun j h1 h2=>by omega,by omega,by omega⟩) ?_
 refine aE ?_ ?_
 refine iI (p:=cq p.b∉p.s) (fun hi1=> ?_) (fun _=>rfl)
 exact Kk hK ⟨p.s,aW,false=true⟩ (by dsimp only[oy]<;>(first|exact⟨fun _=>hi1,fun q=>absurd rfl q⟩|exact⟨fun q=>(by cases q),fun _=>⟨rfl,hi1⟩⟩))
 refine am (fun r1=> ?_)
 refine iI (p:=p.s=r1.u++cq p.b::r1.v∧cq p.b∉r1.u) (fun hi2=> ?_) (fun _=>rfl)
 exact Kk hK ⟨r1.u,r1.v,true=true⟩ (by dsimp only[oy]<;>(first|exact⟨fun _=>hi2,fun q=>absurd rfl q⟩|exact⟨fun q=>(by cases q),fun _=>⟨rfl,hi2⟩⟩))
noncomputable def xS:=bN xR 0 (ck yu (dP nt CG)) 19 [(0,22)]
theorem uI:aZ Tryz.prog xS:=aR (cM (f:=19) (k:=0) (lp:=Bv) (lf:=600) bH (aQ uG) Og (by rfl) (fun b j x h=>(cG Qr (fun h=>(by cases h)) h)) fun p K h=>Ur p K (aa h).1 (aa h).2) uG
def uY:XC:=(.aft (.block 3 (.seq (g_ 10 [p_ 0 10 (m_ 0),p_ 1 11 (m_ 1),c_ 2 12 19 [.t 10,.t 11],p_ 3 9 (m_ 12),p_ 4 13 (.ext 0 (.t 9)),p_ 5 14 (.ext 1 (.t 9)),p_ 6 15 (.ext 2 (.t 9)),p_ 7 6 (m_ 13),p_ 8 7 (m_ 14),p_ 9 8 (m_ 15)]) (.seq (g_ 5 [p_ 0 16 (m_ 5),p_ 1 17 (m_ 6),e_ 2 18 (.bsl 9 1 1 [.str []] [(0,1)] [.t 17]),e_ 3 19 (.app 9 1 16 (.t 16) (.t 18)),p_ 4 5 (m_ 19)]) (.seq (.seq (g_ 2 [p_ 0 20 (m_ 8),p_ 1 21 (.un 0 (.t 20))]) (.cond (.t 21) (.seq (g_ 2 [p_ 0 22 (m_ 5),p_ 1 4 (m_ 22)]) .ret) .skip)) (g_ 2 [p_ 0 23 (m_ 7),p_ 1 0 (m_ 23)]))))) [(0,[.can 0 [0,1,5]]),(1,[.can 0 [4]])])
def Ep:XF:=.mk 24 (.one 4) (.aft (.seq (g_ 1 [p_ 0 4 (.mv (.c .nilS))]) (.seq (g_ 1 [p_ 0 5 (.mv (.c .nilS))]) (.block 2 (.pre [.can 0 [0,1,5],.born 5 9 1 (List UInt8) aG,.can 0 [0,1,5]] (.inv 0 uY))))) [(0,[.frz 4]),(1,[.frz 4])])
theorem Hw:ci Tryz.prog 21 Ep=true:=by kernel_rfl
structure eK where
 s:List UInt8
 b:Int
 w:List (List UInt8)
structure xv where
 r:List (List UInt8)
def mL (p:eK) (r:xv):Prop:=r.r=p.w++wds (cq p.b) p.s
noncomputable def gQ (p:eK):IL:=((.cons 5 (.sy (.prow 0 p.w.length)) (.cons 1 (.int 1 p.b) (.cons 0 (.sy (.str p.s)) .nil))),(.node .leaf (some (.prow 9 1 (List UInt8) p.w aG)) .leaf),1)
noncomputable def nZ (p:eK) (K:KC):Bool:=ai fun r:xv=>iP (mL p r) (K 1 (.cons 4 (.sy (.prow 0 r.r.length)) .nil) (.node .leaf (some (.prow 9 1 (List UInt8) r.r aG)) .leaf) 1) true
def gV (p:eK):Prop:=p.w.length+p.s.length≤1000000∧0≤p.b∧p.b≤255
theorem Jp {p:eK} {K:KC} (hK:nZ p K=true) (r:xv) (h:mL p r):K 1 (.cons 4 (.sy (.prow 0 r.r.length)) .nil) (.node .leaf (some (.prow 9 1 (List UInt8) r.r aG)) .leaf) 1=true:=aq h (az hK r)
noncomputable def pa (p:eK) (K:KC):Bool:=ac (aC (gV p)) (nZ p K)
noncomputable def rA:gO:=fun j S M nx K=>(Bool.rec (false) (aN fun p:eK=>ac (aC ((S,M,nx)=gQ p)) (pa p K)) (Nat.beq j 0))
def fw (p:eK):Nat:=p.s.length
noncomputable def BV (s:IL) (n:Nat) (K:KC):Bool:=aN fun q=>mP (s=gQ q∧fw q<n) (pa q K)
theorem Mq {p q:eK} {K:KC} {s:IL} (hm:fw q<fw p:=by dsimp only[fw]<;>((have e:=Dk (by assumption) (Classical.not_not.1 (by assumption));omega))) (hp:gV q:=by dsimp only[gV]<;>(have e:=Dk (by assumption) (Classical.not_not.1 (by assumption));exact⟨by rw[aaC,List.length_singleton];omega,g1,g2⟩)) (hK:nZ q K=true:=by exact(lw hK fun r hz=>Sl (by assumption) (Classical.not_not.1 (by assumption)) hz)) (e:s=gQ q:=by rfl):BV s (fw p) K=true:=bj q (bl ⟨e,hm⟩ (bl hp hK))
theorem KP (p:eK) (K:KC) (hpre:gV p) (hK:nZ p K=true):(df (cj xS) rA 600 uY (gQ p).1 (gQ p).2.1 (gQ p).2.2 (fun e S M nx=>Nat.casesOn e (aN fun q:eK=>ac (aC ((S,M,nx)=gQ q∧fw q<fw p)) (pa q K)) (fun e2=>K (Nat.succ e2) S M nx)))=true:=by
 refine Eq.trans (b:=(aH (([.sy (.str p.s),.int 1 p.b],.leaf,0)) yu nt oy fun p1 r1=>mP (p.w.length=p.w.length) (aN fun m1:List (List UInt8)=>mP (ie (m1.map aG) [[.sstr r1.u]]) (mP (dW 16 (p.w.length+m1.length)) (iP (¬r1.q) (K 1 (.cons 4 (.sy (.prow 0 ((p.w++m1).length))) .nil) (.node .leaf (some (.prow 9 1 (List UInt8) (p.w++m1) aG)) .leaf) 1) (BV ((.cons 5 (.sy (.prow 0 ((p.w++m1).length))) (.cons 1 (.int 1 p.b) (.cons 0 (.sy (.str r1.v)) .nil))),(.node .leaf (some (.prow 9 1 (List UInt8) (p.w++m1) aG)) .leaf),1) (fw p) K)))))) (by kernel_rfl) ?_
 dsimp only[gV]at hpre
 obtain⟨g0,g1,g2⟩:=hpre
 refine ay (⟨p.s,p.b⟩:rU) rfl (by(try dsimp only[nt]);exact⟨by omega,by first|decide|omega,by first|decide|omega⟩) fun r1 hi1=> ?_
 dsimp only[oy]at hi1
 refine bi ?_
 refine bj [r1.u] ?_
 refine wI (mI (by(try dsimp only);(first|omega|(simp[dW]<;>omega))) ?_)
 refine iI (fun hc2=> ?_) (fun hc2=> ?_)
 exact Jp hK ⟨p.w++[r1.u]⟩ (by dsimp only[mL]<;>rw[QO (by assumption) (by assumption)])
 exact Mq (q:=⟨r1.v,p.b,p.w++[r1.u]⟩)
theorem LQ:dR Tryz.prog 24 0 rA true 0 uY:=by
 exact gm (lf:=600) bH (aQ uI) (by rfl) gQ fw pa (fun b j x h=>by cases h) (fun S M nx K h=>by obtain⟨p,h⟩:=bR h;exact⟨p,(aa h).1,(aa h).2⟩) (fun p K h=>KP p K (aa h).1 (aa h).2)
structure dK where
 s:List UInt8
 b:Int
structure AA where
 h:Value
 l:List (List UInt8)
def ce (p:dK) (r:AA):Prop:=r.l=wds (cq p.b) p.s
noncomputable def eE (p:dK):IE:=([.sy (.str p.s),.int 1 p.b],.leaf,0)
noncomputable def ue (p:dK) (K:KE):Bool:=ai fun r:AA=>iP (ce p r) (K (.sy (.imm r.h 1 (List UInt8) r.l aG)) .leaf 0) true
def bM (p:dK):Prop:=p.s.length≤1000000∧0≤p.b∧p.b≤255
theorem Mg {p:dK} {K:KE} (hK:ue p K=true) (r:AA) (h:ce p r):K (.sy (.imm r.h 1 (List UInt8) r.l aG)) .leaf 0=true:=aq h (az hK r)
theorem ML (p:dK) (K:KE) (hpre:bM p) (hK:ue p K=true):(cw 0 (cj xS) rA 600 Ep (eE p).1 (eE p).2.1 (eE p).2.2 K)=true:=by
 refine Eq.trans (b:=(aH (((.cons 5 (.sy (.prow 0 0)) (.cons 1 (.int 1 p.b) (.cons 0 (.sy (.str p.s)) .nil))),(.node .leaf (some (.prow 9 1 (List UInt8) ([]:List (List UInt8)) aG)) .leaf),1)) gQ gV mL fun p1 r1=>mP (r1.r.length=r1.r.length) (ai fun h1:Value=>K (.sy (.imm h1 1 (List UInt8) r1.r aG)) .leaf 0))) (by kernel_rfl) ?_
 dsimp only[bM]at hpre
 obtain⟨h1,h2,h3⟩:=hpre
 refine ay (⟨p.s,p.b,([]:List (List UInt8))⟩:eK) rfl (by(try dsimp only[gV]);exact⟨by simp;omega,by omega,by omega⟩) fun r1 hi1=> ?_
 dsimp only[mL]at hi1
 refine bi ?_
 refine am (fun h1=> ?_)
 exact Mg hK ⟨h1,r1.r⟩ (by dsimp only[ce]<;>(have e:=hi1;simpa using e))
noncomputable def pg:=bN xS 0 (ck eE (dP bM ue)) 21 [(0,22)]
theorem oO:aZ Tryz.prog pg:=aR (cM (f:=21) (k:=0) (lp:=rA) (lf:=600) bH (aQ uI) Hw (by rfl) (fun b j x h=>(cG LQ (fun h=>(by cases h)) h)) fun p K h=>ML p K (aa h).1 (aa h).2) uI
open Go.Txt (rn ss Bi cb)
theorem SE {n:Nat} {s:List UInt8} {i:Nat} (h:i<s.length) (h1:¬(48≤(s.getD i 0).toNat∧(s.getD i 0).toNat≤57)∨(18446744073709551615 - ((s.getD i 0).toNat - 48)) / 10<n):rn n (s.drop i)=none:=by
 have e:s.drop i=s.getD i 0::s.drop (i+1):=by rw[List.drop_eq_getElem_cons h];simp[List.getD,h]
 rw[e,rn]
 rcases h1 with h1|h1
 ·rw[if_neg h1]
 ·by_cases hc:48≤(s.getD i 0).toNat∧(s.getD i 0).toNat≤57
  ·rw[if_pos hc,if_pos h1]
  ·rw[if_neg hc]
theorem SD {n:Nat} {s:List UInt8} {i:Nat} (h:i<s.length) (h1:48≤(s.getD i 0).toNat∧(s.getD i 0).toNat≤57) (h2:¬(18446744073709551615 - ((s.getD i 0).toNat - 48)) / 10<n):rn n (s.drop i)=rn (10*n+((s.getD i 0).toNat - 48)) (s.drop (i+1)):=by
 have e:s.drop i=s.getD i 0::s.drop (i+1):=by rw[List.drop_eq_getElem_cons h];simp[List.getD,h]
 rw[e,rn,if_pos h1,if_neg h2]
def vH (s:List UInt8) (n i:Int):Prop:=rn 0 s=rn n.toNat (s.drop i.toNat)
theorem iz {s:List UInt8} {n i d:Int} (h:vH s n i) (h0:0≤i) (hl:i<s.length) (hn:0≤n) (h1:48≤((s.getD i.toNat 0).toNat:Int)) (h2:((s.getD i.toNat 0).toNat:Int)≤57) (hd:d=((s.getD i.toNat 0).toNat:Int) - 48) (h3:¬Int.tdiv (18446744073709551615 - d) 10<n):vH s (10*n+d) (i+1)∧10*n+d≤18446744073709551615∧0≤10*n+d:=by
 unfold vH at h ⊢
 rw[Int.tdiv_eq_ediv_of_nonneg (by omega)]at h3
 refine⟨?_,by omega,by omega⟩
 rw[h,SD (by omega) (by omega) (by omega),show(i+1).toNat=i.toNat+1 by omega]
 congr 1
 omega
theorem vG {s:List UInt8} {n i d:Int} (h:vH s n i) (h0:0≤i) (hl:i<s.length) (hn:0≤n) (hb:((s.getD i.toNat 0).toNat:Int)<48∨57<((s.getD i.toNat 0).toNat:Int)∨(48≤((s.getD i.toNat 0).toNat:Int)∧((s.getD i.toNat 0).toNat:Int)≤57∧d=((s.getD i.toNat 0).toNat:Int) - 48∧Int.tdiv (18446744073709551615 - d) 10<n)):rn 0 s=none:=by
 unfold vH at h
 rw[h]
 refine SE (by omega) ?_
 rcases hb with hb|hb|⟨b1,b2,b3,hb⟩
 ·exact .inl (by omega)
 ·exact .inl (by omega)
 ·rw[Int.tdiv_eq_ediv_of_nonneg (by omega)]at hb
  exact .inr (by omega)
theorem Pw {s:List UInt8} {n i:Int} (h:vH s n i) (h0:(s.length:Int)≤i):rn 0 s=some n.toNat:=by
 unfold vH at h
 rw[h,List.drop_eq_nil_of_le (by omega)];rfl
def jP (m:Int) (s:List UInt8) (z:Int) (q:Prop):Prop:=(q↔cb m s z)∧((∃z,cb m s z)→cb m s z)
theorem dL {m z:Int} {s:List UInt8} (hm:m≤18446744073709551615) (h:ss s=none):jP m s z (false=true):=
 ⟨⟨fun q=>(by cases q),fun q=>by have:=((Bi hm).1 q).2.2;rw[h]at this;cases this⟩,fun⟨z',q⟩=>by have:=((Bi hm).1 q).2.2;rw[h]at this;cases this⟩
theorem jO {m z:Int} {s:List UInt8} (hm:m≤18446744073709551615) (hz:0≤z) (h:ss s=some z.toNat):jP m s z (z≤m):=by
 refine⟨⟨fun q=>(Bi hm).2 ⟨q,hz,h⟩,fun q=>q.2.1⟩,fun⟨z',q⟩=> ?_⟩
 obtain⟨a,b,c⟩:=(Bi hm).1 q
 rw[h]at c;injection c with c
 have e:z=z':=by omega
 rw[e];exact q
theorem ly {s:List UInt8} (h:s=[]∨20<s.length∨(1<s.length∧((s.getD 0 0).toNat:Int)=48)):ss s=none:=by
 unfold ss
 rw[if_pos]
 rcases h with h|h|⟨h,h2⟩
 ·exact .inl h
 ·exact .inr (.inl h)
 ·refine .inr (.inr ⟨h,?_⟩)
  cases s with
  |nil=>simp at h
  |cons c r=>
   simp only[List.getD_cons_zero]at h2
   simp only[List.getElem?_cons_zero,aaV]
   exact UInt8.toNat_inj.1 (show c.toNat=(48:UInt8).toNat by have:(48:UInt8).toNat=48:=rfl;omega)
theorem fh {s:List UInt8} (h:¬s=[]) (h1:¬(20:Int)<s.length) (h2:¬(1:Int)<s.length∨¬((s.getD 0 0).toNat:Int)=48):ss s=rn 0 s:=by
 unfold ss
 rw[if_neg]
 rintro(q|q|⟨q1,q2⟩)
 ·exact h q
 ·omega
 ·rcases h2 with h2|h2
  ·omega
  ·apply h2
   have:s.getD 0 0=48:=by simp[List.getD,q2]
   rw[this];rfl
def At:XC:=(.aft (.seq (.seq (g_ 4 [p_ 0 26 (m_ 7),p_ 1 27 (m_ 0),p_ 2 28 (.len 0 (.t 27)),p_ 3 29 (.bin 3 0 (.t 26) (.t 28))]) (.cond (.t 29) .skip (.exit 2))) (.seq (.block 3 (.seq (.seq (g_ 10 [p_ 0 32 (m_ 0),p_ 1 33 (m_ 7),p_ 2 34 (.six (.t 32) (.t 33)),p_ 3 35 (.bin 3 0 (.t 34) (.c (.int 1 (.ofNat 48)))),p_ 4 36 (m_ 35),au 5 37 36 false (m_ 0),au 6 38 36 false (m_ 7),au 7 39 36 false (.six (.t 37) (.t 38)),au 8 40 36 false (.bin 3 2 (.t 39) (.c (.int 1 (.ofNat 57)))),p_ 9 41 (.pick (.t 36) (.c (.bool true)) (.t 40))]) (.cond (.t 41) (.seq (g_ 2 [p_ 0 4 (.mv (.c (.int 4 (.ofNat 0)))),p_ 1 5 (.mv (.c (.bool false)))]) .ret) .skip)) (.seq (g_ 6 [p_ 0 42 (m_ 0),p_ 1 43 (m_ 7),p_ 2 44 (.six (.t 42) (.t 43)),p_ 3 45 (.bin 0 1 (.t 44) (.c (.int 1 (.ofNat 48)))),p_ 4 46 (.cnv 4 (.t 45)),p_ 5 8 (m_ 46)]) (.seq (.seq (g_ 5 [p_ 0 47 (m_ 6),p_ 1 48 (m_ 8),p_ 2 49 (.bin 0 1 (.c (.int 4 (.ofNat 18446744073709551615))) (.t 48)),p_ 3 50 (.bin 0 3 (.t 49) (.c (.int 4 (.ofNat 10)))),p_ 4 51 (.bin 3 2 (.t 47) (.t 50))]) (.cond (.t 51) (.seq (g_ 2 [p_ 0 4 (.mv (.c (.int 4 (.ofNat 0)))),p_ 1 5 (.mv (.c (.bool false)))]) .ret) .skip)) (g_ 5 [p_ 0 52 (m_ 6),p_ 1 53 (.bin 0 2 (.c (.int 4 (.ofNat 10))) (.t 52)),p_ 2 54 (m_ 8),p_ 3 55 (.bin 0 0 (.t 53) (.t 54)),p_ 4 6 (m_ 55)]))))) (g_ 3 [p_ 0 30 (m_ 7),p_ 1 31 (.bin 0 0 (.t 30) (i_ 1)),p_ 2 7 (m_ 31)]))) [(0,[.can 0 [0,1,6,7]]),(1,[.can 0 [4,5]]),(2,[.can 0 [1,6]])])
def BE:XF:=.mk 60 (.two 4 5) (.aft (.seq (g_ 2 [p_ 0 4 (.mv (.c (.int 4 (.ofNat 0)))),p_ 1 5 (.mv (.c (.bool false)))]) (.seq (.seq (g_ 17 [p_ 0 9 (m_ 0),p_ 1 10 (.bin 5 0 (.t 9) (.c (.str []))),p_ 2 11 (m_ 10),au 3 12 11 false (m_ 0),au 4 13 11 false (.len 0 (.t 12)),au 5 14 11 false (.bin 3 2 (.t 13) (i_ 20)),p_ 6 15 (.pick (.t 11) (.c (.bool true)) (.t 14)),p_ 7 16 (m_ 15),au 8 17 16 false (m_ 0),au 9 18 16 false (.len 0 (.t 17)),au 10 19 16 false (.bin 3 2 (.t 18) (i_ 1)),au 11 20 16 false (m_ 19),au 12 21 20 true (m_ 0),au 13 22 20 true (.six (.t 21) (i_ 0)),au 14 23 20 true (.bin 3 4 (.t 22) (.c (.int 1 (.ofNat 48)))),au 15 24 16 false (.pick (.t 20) (.t 23) (.c (.bool false))),p_ 16 25 (.pick (.t 16) (.c (.bool true)) (.t 24))]) (.cond (.t 25) (.seq (g_ 2 [p_ 0 4 (.mv (.c (.int 4 (.ofNat 0)))),p_ 1 5 (.mv (.c (.bool false)))]) .ret) .skip)) (.seq (g_ 1 [p_ 0 6 (.mv (.c (.int 4 (.ofNat 0))))]) (.seq (.seq (g_ 1 [p_ 0 7 (.mv (i_ 0))]) (.block 2 (.pre [.can 0 [0,1,6,7],.up 6,.up 7,.can 0 [0,1,6,7]] (.inv 0 At)))) (.seq (g_ 6 [p_ 0 56 (m_ 6),p_ 1 57 (m_ 6),p_ 2 58 (m_ 1),p_ 3 59 (.bin 3 1 (.t 57) (.t 58)),p_ 4 4 (m_ 56),p_ 5 5 (m_ 59)]) .ret))))) [(0,[.up 4,.up 5]),(1,[.up 4,.up 5])])
theorem EZ:ci Tryz.prog 23 BE=true:=by kernel_rfl
structure eR where
 s:List UInt8
 m:Int
 z:Int
 i:Int
structure tA where
 z:Int
def zD (p:eR) (r:tA):Prop:=rn 0 p.s=some r.z.toNat∧0≤r.z∧r.z≤18446744073709551615
def vK (p:eR):Prop:=rn 0 p.s=none
noncomputable def jn (p:eR):IL:=((.cons 7 (.sy (.int 0 p.i)) (.cons 6 (.sy (.int 4 p.z)) (.cons 1 (.int 4 p.m) (.cons 0 (.sy (.str p.s)) .nil)))),.leaf,0)
noncomputable def wb (p:eR) (K:KC):Bool:=ac (ai fun r:tA=>iP (zD p r) (K 2 (.cons 6 (.sy (.int 4 r.z)) (.cons 1 (.int 4 p.m) .nil)) .leaf 0) true) (iP (vK p) (K 1 (.cons 5 (.bool false) (.cons 4 (.int 4 (.ofNat 0)) .nil)) .leaf 0) true)
def gC (p:eR):Prop:=p.s.length≤1000000∧0≤p.i∧p.i≤(p.s.length:Int)∧0≤p.z∧p.z≤18446744073709551615∧vH p.s p.z p.i
noncomputable def tK (p:eR) (K:KC):Bool:=ac (aC (gC p)) (wb p K)
noncomputable def pm:gO:=fun j S M nx K=>(Bool.rec (false) (aN fun p:eR=>ac (aC ((S,M,nx)=jn p)) (tK p K)) (Nat.beq j 0))
def iN (p:eR):Nat:=((p.s.length:Int) - p.i).toNat
noncomputable def Iw (s:IL) (n:Nat) (K:KC):Bool:=aN fun q=>mP (s=jn q∧iN q<n) (tK q K)
theorem QW {p q:eR} {K:KC} {s:IL} (hm:iN q<iN p:=by dsimp only[iN]<;>(omega)) (hp:gC q:=by dsimp only[gC]<;>(obtain⟨e1,e2,e3⟩:=iz (d:=((p.s.getD p.i.toNat 0).toNat:Int) - 48) g5 g1 (by omega) g3 (by omega) (by omega) rfl (by assumption);exact⟨g0,by omega,by omega,e3,e2,e1⟩)) (hK:wb q K=true:=by exact(by first|exact hK|exact aE hK0 hK1)) (e:s=jn q:=by rfl):Iw s (iN p) K=true:=bj q (bl ⟨e,hm⟩ (bl hp hK))
theorem Pc (p:eR) (K:KC) (hpre:gC p) (hK:wb p K=true):(df (cj pg) pm 600 At (jn p).1 (jn p).2.1 (jn p).2.2 (fun e S M nx=>Nat.casesOn e (aN fun q:eR=>ac (aC ((S,M,nx)=jn q∧iN q<iN p)) (tK q K)) (fun e2=>K (Nat.succ e2) S M nx)))=true:=by
 refine Eq.trans (b:=(let z0:Bool:=(K 1 (.cons 5 (.bool false) (.cons 4 (.int 4 (.ofNat 0)) .nil)) .leaf 0);iP (p.i<(p.s.length:Int)) (mP (0≤p.i∧p.i<(p.s.length:Int)) (iP (((p.s.getD p.i.toNat 0).toNat:Int)<(48:Int)) z0 (mP (0≤p.i∧p.i<(p.s.length:Int)) (iP ((57:Int)<((p.s.getD p.i.toNat 0).toNat:Int)) z0 (mP (0≤p.i∧p.i<(p.s.length:Int)) (mP (bb 1 (((p.s.getD p.i.toNat 0).toNat:Int) - (48:Int))) (mP (bb 4 (((p.s.getD p.i.toNat 0).toNat:Int) - (48:Int))) (mP (bb 4 ((18446744073709551615:Int) - (((p.s.getD p.i.toNat 0).toNat:Int) - (48:Int)))) (mP ((10:Int)≠0) (mP (bb 4 (Int.tdiv ((18446744073709551615:Int) - (((p.s.getD p.i.toNat 0).toNat:Int) - (48:Int))) (10:Int))) (iP ((Int.tdiv ((18446744073709551615:Int) - (((p.s.getD p.i.toNat 0).toNat:Int) - (48:Int))) (10:Int))<p.z) z0 (mP (bb 4 ((10:Int)*p.z)) (mP (bb 4 (((10:Int)*p.z)+(((p.s.getD p.i.toNat 0).toNat:Int) - (48:Int)))) (mP (bb 0 (p.i+(1:Int))) (Iw ((.cons 7 (.sy (.int 0 (p.i+(1:Int)))) (.cons 6 (.sy (.int 4 (((10:Int)*p.z)+(((p.s.getD p.i.toNat 0).toNat:Int) - (48:Int))))) (.cons 1 (.int 4 p.m) (.cons 0 (.sy (.str p.s)) .nil)))),.leaf,0) (iN p) K))))))))))))))) (K 2 (.cons 6 (.sy (.int 4 p.z)) (.cons 1 (.int 4 p.m) .nil)) .leaf 0))) (by kernel_rfl) ?_
 obtain⟨hK0,hKr0⟩:=aj hK
 have hK1:=hKr0
 dsimp only[gC]at hpre
 obtain⟨g0,g1,g2,g3,g4,g5⟩:=hpre
 refine iI (fun hc1=> ?_) (fun hc1=> ?_)
 refine bC ?_
 refine iI (fun hc2=> ?_) (fun hc2=> ?_)
 exact aq (show rn 0 p.s=none from(by exact vG (d:=((p.s.getD p.i.toNat 0).toNat:Int) - 48) g5 g1 (by omega) g3 (by first|exact .inl (by assumption)|exact .inr (.inl (by assumption))|exact .inr (.inr ⟨by omega,by omega,rfl,by assumption⟩)))) hK1
 refine bC ?_
 refine iI (fun hc3=> ?_) (fun hc3=> ?_)
 exact aq (show rn 0 p.s=none from(by exact vG (d:=((p.s.getD p.i.toNat 0).toNat:Int) - 48) g5 g1 (by omega) g3 (by first|exact .inl (by assumption)|exact .inr (.inl (by assumption))|exact .inr (.inr ⟨by omega,by omega,rfl,by assumption⟩)))) hK1
 refine bC (mI (by simp only[bb];first|omega|(rw[Int.tdiv_eq_ediv_of_nonneg (by omega)];omega)|(obtain⟨e1,e2,e3⟩:=iz (d:=((p.s.getD p.i.toNat 0).toNat:Int) - 48) g5 g1 (by omega) g3 (by omega) (by omega) rfl (by assumption);omega)) (mI (by simp only[bb];first|omega|(rw[Int.tdiv_eq_ediv_of_nonneg (by omega)];omega)|(obtain⟨e1,e2,e3⟩:=iz (d:=((p.s.getD p.i.toNat 0).toNat:Int) - 48) g5 g1 (by omega) g3 (by omega) (by omega) rfl (by assumption);omega)) ?_))
 refine mI (by simp only[bb];first|omega|(rw[Int.tdiv_eq_ediv_of_nonneg (by omega)];omega)|(obtain⟨e1,e2,e3⟩:=iz (d:=((p.s.getD p.i.toNat 0).toNat:Int) - 48) g5 g1 (by omega) g3 (by omega) (by omega) rfl (by assumption);omega)) (mI (by decide) (mI (by simp only[bb];first|omega|(rw[Int.tdiv_eq_ediv_of_nonneg (by omega)];omega)|(obtain⟨e1,e2,e3⟩:=iz (d:=((p.s.getD p.i.toNat 0).toNat:Int) - 48) g5 g1 (by omega) g3 (by omega) (by omega) rfl (by assumption);omega)) ?_))
 refine iI (fun hc4=> ?_) (fun hc4=> ?_)
 exact aq (show rn 0 p.s=none from(by exact vG (d:=((p.s.getD p.i.toNat 0).toNat:Int) - 48) g5 g1 (by omega) g3 (by first|exact .inl (by assumption)|exact .inr (.inl (by assumption))|exact .inr (.inr ⟨by omega,by omega,rfl,by assumption⟩)))) hK1
 refine mI (by simp only[bb];first|omega|(rw[Int.tdiv_eq_ediv_of_nonneg (by omega)];omega)|(obtain⟨e1,e2,e3⟩:=iz (d:=((p.s.getD p.i.toNat 0).toNat:Int) - 48) g5 g1 (by omega) g3 (by omega) (by omega) rfl (by assumption);omega)) (mI (by simp only[bb];first|omega|(rw[Int.tdiv_eq_ediv_of_nonneg (by omega)];omega)|(obtain⟨e1,e2,e3⟩:=iz (d:=((p.s.getD p.i.toNat 0).toNat:Int) - 48) g5 g1 (by omega) g3 (by omega) (by omega) rfl (by assumption);omega)) ?_)
 refine mI (by simp only[bb];first|omega|(rw[Int.tdiv_eq_ediv_of_nonneg (by omega)];omega)|(obtain⟨e1,e2,e3⟩:=iz (d:=((p.s.getD p.i.toNat 0).toNat:Int) - 48) g5 g1 (by omega) g3 (by omega) (by omega) rfl (by assumption);omega)) ?_
 exact QW (q:=⟨p.s,p.m,((10:Int)*p.z)+(((p.s.getD p.i.toNat 0).toNat:Int) - (48:Int)),p.i+(1:Int)⟩)
 exact aq (show rn 0 p.s=some p.z.toNat∧0≤p.z∧p.z≤18446744073709551615 from(by exact⟨Pw g5 (by omega),g3,g4⟩)) (az hK0 (⟨p.z⟩:tA))
theorem Qn:dR Tryz.prog 60 0 pm true 0 At:=by
 exact gm (lf:=600) bH (aQ oO) (by rfl) jn iN tK (fun b j x h=>by cases h) (fun S M nx K h=>by obtain⟨p,h⟩:=bR h;exact⟨p,(aa h).1,(aa h).2⟩) (fun p K h=>Pc p K (aa h).1 (aa h).2)
structure cv where
 s:List UInt8
 m:Int
structure xt where
 z:Int
 q:Prop
def aU (p:cv) (r:xt):Prop:=jP p.m p.s r.z r.q∧0≤r.z∧r.z≤18446744073709551615
noncomputable def cF (p:cv):IE:=([.sy (.str p.s),.int 4 p.m],.leaf,0)
noncomputable def sj (p:cv) (K:KE):Bool:=ai fun r:xt=>iP (aU p r) (K (.tup [.sy (.int 4 r.z),.sy (.bool r.q)]) .leaf 0) true
def ba (p:cv):Prop:=p.s.length≤1000000∧p.m≤18446744073709551615
theorem hO {p:cv} {K:KE} (hK:sj p K=true) (r:xt) (h:aU p r):K (.tup [.sy (.int 4 r.z),.sy (.bool r.q)]) .leaf 0=true:=aq h (az hK r)
theorem KL (p:cv) (K:KE) (hpre:ba p) (hK:sj p K=true):(cw 0 (cj pg) pm 600 BE (cF p).1 (cF p).2.1 (cF p).2.2 K)=true:=by
 refine Eq.trans (b:=(let z0:Bool:=(K (.tup [.sy (.int 4 0),.sy (.bool (false=true))]) .leaf 0);iP (p.s=aW) z0 (iP ((20:Int)<(p.s.length:Int)) z0 (iP ((1:Int)<(p.s.length:Int)) (mP (0≤(0:Int)∧(0:Int)<(p.s.length:Int)) (iP (((p.s.getD 0 0).toNat:Int)=(48:Int)) z0 (aN fun p1:eR=>mP (((.cons 7 (.sy (.int 0 0)) (.cons 6 (.sy (.int 4 0)) (.cons 1 (.int 4 p.m) (.cons 0 (.sy (.str p.s)) .nil)))),.leaf,0)=jn p1) (mP (gC p1) (ac (ai fun r1:tA=>iP (zD p1 r1) (K (.tup [.sy (.int 4 r1.z),.sy (.bool (r1.z≤(p1.m:Int)))]) .leaf 0) true) (iP (vK p1) z0 true)))))) (aN fun p2:eR=>mP (((.cons 7 (.sy (.int 0 0)) (.cons 6 (.sy (.int 4 0)) (.cons 1 (.int 4 p.m) (.cons 0 (.sy (.str p.s)) .nil)))),.leaf,0)=jn p2) (mP (gC p2) (ac (ai fun r2:tA=>iP (zD p2 r2) (K (.tup [.sy (.int 4 r2.z),.sy (.bool (r2.z≤(p2.m:Int)))]) .leaf 0) true) (iP (vK p2) z0 true)))))))) (by kernel_rfl) ?_
 dsimp only[ba]at hpre
 obtain⟨h1,h2⟩:=hpre
 refine iI (fun hc1=> ?_) (fun hc1=> ?_)
 exact hO hK ⟨(0:Int),false=true⟩ (by dsimp only[aU]<;>(first|exact⟨dL h2 (ly (by first|exact .inl (by assumption)|exact .inr (.inl (by omega))|exact .inr (.inr ⟨by omega,by assumption⟩))),by omega,by omega⟩|exact⟨dL h2 ((fh (by assumption) (by assumption) (by first|exact .inl (by assumption)|exact .inr (by assumption))).trans hi0),by omega,by omega⟩|exact⟨jO h2 hi0.2.1 ((fh (by assumption) (by assumption) (by first|exact .inl (by assumption)|exact .inr (by assumption))).trans hi0.1),hi0.2⟩))
 refine iI (fun hc2=> ?_) (fun hc2=> ?_)
 exact hO hK ⟨(0:Int),false=true⟩ (by dsimp only[aU]<;>(first|exact⟨dL h2 (ly (by first|exact .inl (by assumption)|exact .inr (.inl (by omega))|exact .inr (.inr ⟨by omega,by assumption⟩))),by omega,by omega⟩|exact⟨dL h2 ((fh (by assumption) (by assumption) (by first|exact .inl (by assumption)|exact .inr (by assumption))).trans hi0),by omega,by omega⟩|exact⟨jO h2 hi0.2.1 ((fh (by assumption) (by assumption) (by first|exact .inl (by assumption)|exact .inr (by assumption))).trans hi0.1),hi0.2⟩))
 refine iI (fun hc3=> ?_) (fun hc3=> ?_)
 refine bC ?_
 refine iI (fun hc4=> ?_) (fun hc4=> ?_)
 exact hO hK ⟨(0:Int),false=true⟩ (by dsimp only[aU]<;>(first|exact⟨dL h2 (ly (by first|exact .inl (by assumption)|exact .inr (.inl (by omega))|exact .inr (.inr ⟨by omega,by assumption⟩))),by omega,by omega⟩|exact⟨dL h2 ((fh (by assumption) (by assumption) (by first|exact .inl (by assumption)|exact .inr (by assumption))).trans hi0),by omega,by omega⟩|exact⟨jO h2 hi0.2.1 ((fh (by assumption) (by assumption) (by first|exact .inl (by assumption)|exact .inr (by assumption))).trans hi0.1),hi0.2⟩))
 refine eX (⟨p.s,p.m,(0:Int),(0:Int)⟩:eR) rfl (by(try dsimp only[gC]);exact⟨by omega,by omega,by omega,by omega,by omega,rfl⟩) ?_
 refine aE ?_ ?_
 refine am (fun r1=> ?_)
 refine iI (p:=rn 0 p.s=some r1.z.toNat∧0≤r1.z∧r1.z≤18446744073709551615) (fun hi5=> ?_) (fun _=>rfl)
 exact hO hK ⟨r1.z,r1.z≤(p.m:Int)⟩ (by dsimp only[aU]<;>(first|exact⟨dL h2 (ly (by first|exact .inl (by assumption)|exact .inr (.inl (by omega))|exact .inr (.inr ⟨by omega,by assumption⟩))),by omega,by omega⟩|exact⟨dL h2 ((fh (by assumption) (by assumption) (by first|exact .inl (by assumption)|exact .inr (by assumption))).trans hi5),by omega,by omega⟩|exact⟨jO h2 hi5.2.1 ((fh (by assumption) (by assumption) (by first|exact .inl (by assumption)|exact .inr (by assumption))).trans hi5.1),hi5.2⟩))
 refine iI (p:=rn 0 p.s=none) (fun hi6=> ?_) (fun _=>rfl)
 exact hO hK ⟨(0:Int),false=true⟩ (by dsimp only[aU]<;>(first|exact⟨dL h2 (ly (by first|exact .inl (by assumption)|exact .inr (.inl (by omega))|exact .inr (.inr ⟨by omega,by assumption⟩))),by omega,by omega⟩|exact⟨dL h2 ((fh (by assumption) (by assumption) (by first|exact .inl (by assumption)|exact .inr (by assumption))).trans hi6),by omega,by omega⟩|exact⟨jO h2 hi6.2.1 ((fh (by assumption) (by assumption) (by first|exact .inl (by assumption)|exact .inr (by assumption))).trans hi6.1),hi6.2⟩))
 refine eX (⟨p.s,p.m,(0:Int),(0:Int)⟩:eR) rfl (by(try dsimp only[gC]);exact⟨by omega,by omega,by omega,by omega,by omega,rfl⟩) ?_
 refine aE ?_ ?_
 refine am (fun r2=> ?_)
 refine iI (p:=rn 0 p.s=some r2.z.toNat∧0≤r2.z∧r2.z≤18446744073709551615) (fun hi7=> ?_) (fun _=>rfl)
 exact hO hK ⟨r2.z,r2.z≤(p.m:Int)⟩ (by dsimp only[aU]<;>(first|exact⟨dL h2 (ly (by first|exact .inl (by assumption)|exact .inr (.inl (by omega))|exact .inr (.inr ⟨by omega,by assumption⟩))),by omega,by omega⟩|exact⟨dL h2 ((fh (by assumption) (by assumption) (by first|exact .inl (by assumption)|exact .inr (by assumption))).trans hi7),by omega,by omega⟩|exact⟨jO h2 hi7.2.1 ((fh (by assumption) (by assumption) (by first|exact .inl (by assumption)|exact .inr (by assumption))).trans hi7.1),hi7.2⟩))
 refine iI (p:=rn 0 p.s=none) (fun hi8=> ?_) (fun _=>rfl)
 exact hO hK ⟨(0:Int),false=true⟩ (by dsimp only[aU]<;>(first|exact⟨dL h2 (ly (by first|exact .inl (by assumption)|exact .inr (.inl (by omega))|exact .inr (.inr ⟨by omega,by assumption⟩))),by omega,by omega⟩|exact⟨dL h2 ((fh (by assumption) (by assumption) (by first|exact .inl (by assumption)|exact .inr (by assumption))).trans hi8),by omega,by omega⟩|exact⟨jO h2 hi8.2.1 ((fh (by assumption) (by assumption) (by first|exact .inl (by assumption)|exact .inr (by assumption))).trans hi8.1),hi8.2⟩))
noncomputable def sv:=bN pg 0 (ck cF (dP ba sj)) 23 [(0,22)]
theorem sW:aZ Tryz.prog sv:=aR (cM (f:=23) (k:=0) (lp:=pm) (lf:=600) bH (aQ oO) EZ (by rfl) (fun b j x h=>(cG Qn (fun h=>(by cases h)) h)) fun p K h=>KL p K (aa h).1 (aa h).2) oO
end Go.Proofs.Tryz
namespace Go.Proofs.Tryz
open Go.Proofs.YtacomabmhnodlaaGreatDoor (uJ lz tP kg oA lT nV)
open Go Go.RowKit Go.Sy
open Go.Eng hiding ai
set_option maxRecDepth 1000000
set_option linter.unusedVariables false
set_option maxHeartbeats 4000000
open Go.Txt (wds cb)
theorem Zg {α:Type} {l:List α} {a b c:α} (h:(l.length:Int)=3) (h0:l[0]?=some a) (h1:l[1]?=some b) (h2:l[2]?=some c):l=[a,b,c]:=by
 rcases l with _|⟨x,_|⟨y,_|⟨z,r⟩⟩⟩
 ·simp at h
 ·simp at h
 ·simp at h
 ·simp only[aaD]at h
  obtain rfl:r=[]:=aaX (by omega)
  simp at h0 h1 h2
  rw[h0,h1,h2]
theorem LW {α:Type} {l:List α} {a b c d:α} (h:(l.length:Int)=4) (h0:l[0]?=some a) (h1:l[1]?=some b) (h2:l[2]?=some c) (h3:l[3]?=some d):l=[a,b,c,d]:=by
 rcases l with _|⟨x,_|⟨y,_|⟨z,_|⟨u,r⟩⟩⟩⟩
 ·simp at h
 ·simp at h
 ·simp at h
 ·simp at h
 ·simp only[aaD]at h
  obtain rfl:r=[]:=aaX (by omega)
  simp at h0 h1 h2 h3
  rw[h0,h1,h2,h3]
def gP (s:List UInt8) (q:Prop) (g:aM):Prop:=(q→yS g∧wds 32 s=eV g)∧(¬q→∀g',yS g'→¬wds 32 s=eV g')
theorem Mc {s:List UInt8} {g:aM} (h:∀g',yS g'→¬wds 32 s=eV g'):gP s (false=true) g:=⟨fun q=>(by cases q),fun _=>h⟩
theorem XW {s:List UInt8} {l:TX} (hl:l=wds (cq 32) s) (h:¬(l.length:Int)=4):∀g',yS g'→¬wds 32 s=eV g':=fun g' _ e=>h (by rw[hl];show((wds 32 s).length:Int)=4;rw[e];rfl)
theorem Zm {s x t:List UInt8} {l:TX} (hl:l=wds (cq 32) s) (e0:l[0]?=some x) (ht:t=qE) (h:¬x=t):∀g',yS g'→¬wds 32 s=eV g':=fun g' _ e=>h (by
 have e1:l=eV g':=hl.trans e
 rw[e1]at e0
 rw[ht]
 simpa[eV] using e0.symm)
theorem XX {s x y u v:List UInt8} {l:TX} (hl:l=wds (cq 32) s) (hu:u=Bd) (hv:v=mU) (h:¬x=u) (e0:l[3]?=some x) (h2:¬y=v) (ey:l[3]?=some y):∀g',yS g'→¬wds 32 s=eV g':=fun g' _ e=>by
 have e1:l=eV g':=hl.trans e
 rw[e1]at e0
 have e2:uP g'.c=x:=by simpa[eV] using e0
 obtain rfl:x=y:=aaZ (e0.symm.trans (e1▸ey))
 unfold uP at e2
 by_cases hc:g'.c
 ·rw[if_pos hc]at e2;exact h2 (e2.symm.trans hv.symm)
 ·rw[if_neg hc]at e2;exact h (e2.symm.trans hu.symm)
theorem XY {s x0 x1 x2 x3 t u v:List UInt8} {l:TX} {y z:Int} {q1 q2 q:Prop} (hl:l=wds (cq 32) s) (h4:¬¬(l.length:Int)=4) (e0:l[0]?=some x0) (e1:l[1]?=some x1) (e2:l[2]?=some x2) (e3:l[3]?=some x3) (ht:t=qE) (hu:u=mU) (hv:v=Bd) (h0:¬¬x0=t) (h3':∃x,(x=u∨x=v)∧l[3]?=some x)
  (n1:jP 1099511627776 x1 y q1∧0≤y∧y≤18446744073709551615) (n2:jP 1099511627776 x2 z q2∧0≤z∧z≤18446744073709551615) (hq:q↔q1∧q2):gP s q ⟨(aw 0).wrap y,(aw 0).wrap z,x3=u⟩:=by
 have e:=LW (Classical.not_not.1 h4) e0 e1 e2 e3
 rw[Classical.not_not.1 h0,ht]at e
 obtain⟨x,h3,ex⟩:=h3'
 rw[show x=x3 from aaZ (ex.symm.trans e3)]at h3
 subst hu;subst hv
 constructor
 ·intro hq'
  obtain⟨a,b⟩:=hq.1 hq'
  have a1:=n1.1.1.1 a
  have b1:=n2.1.1.1 b
  rw[xy (by have:=a1.2.1;omega) (by omega),xy (by have:=b1.2.1;omega) (by omega)]
  refine⟨⟨⟨a1.1,a1.2.1⟩,b1.1,b1.2.1⟩,?_⟩
  have e5:uP (x3=mU)=x3:=by
   unfold uP
   by_cases hs:x3=mU
   ·rw[if_pos hs,hs]
   ·rw[if_neg hs]
    rcases h3 with e3|e3
    ·exact absurd e3 hs
    ·exact e3.symm
  show wds (cq 32) s=_
  rw[←hl,e,eV,e5,a1.2.2,b1.2.2]
 ·intro hn g' hg e'
  have e6:l=eV g':=hl.trans e'
  rw[e6]at e
  simp only[eV,List.cons.injEq,true_and,and_true]at e
  refine hn (hq.2 ⟨n1.1.1.2 (n1.1.2 ⟨g'.f,?_⟩),n2.1.1.2 (n2.1.2 ⟨g'.s,?_⟩)⟩)
  ·rw[←e.1];exact dI hg.1.1 hg.1.2
  ·rw[←e.2.1];exact dI hg.2.1 hg.2.2
def kP (x:List UInt8) (k:Int):Prop:=(0≤k∧k≤4∧ep k=x)∨(k= -1∧∀j,0≤j→j≤4→¬ep j=x)
theorem oi {s:List UInt8} {l:TX} {p:aB} (hl:l=wds (cq 58) s) (hp:dm p) (e:s=aX p):l=bV p:=hl.trans ((gD hp).1 e)
theorem nu {s:List UInt8} {p:aB} (h:∀p',dm p'→¬s=aX p'):ig s (false=true) p:=⟨fun q=>(by cases q),fun _=>h⟩
theorem Lu (p:aB):3≤(bV p).length:=by unfold bV;simp
theorem Pu {s:List UInt8} {l:TX} (hl:l=wds (cq 58) s) (h:(l.length:Int)<3):∀p',dm p'→¬s=aX p':=fun p' hp e=>by
 have e2:=oi hl hp e
 have:=Lu p'
 rw[e2]at h;omega
theorem aad {s x0:List UInt8} {l:TX} {z:Int} {q0:Prop} (hl:l=wds (cq 58) s) (e0:l[0]?=some x0) (n0:jP 3 x0 z q0∧0≤z∧z≤18446744073709551615) (h:¬q0):∀p',dm p'→¬s=aX p':=fun p' hp e=>by
 rw[oi hl hp e]at e0
 have e2:x0=Lib.itoa p'.g:=by simpa[bV] using e0.symm
 refine h (n0.1.1.2 (n0.1.2 ⟨p'.g,?_⟩))
 rw[e2]
 exact dI hp.2.1.1 (by have:=hp.1.1.1;omega)
theorem zr {s x1:List UInt8} {l:TX} {k:Int} (hl:l=wds (cq 58) s) (e1:l[1]?=some x1) (hk:kP x1 k) (p':aB) (hp:dm p') (e:s=aX p'):p'.k=k:=by
 rw[oi hl hp e]at e1
 have e2:x1=ep p'.k:=by simpa[bV] using e1.symm
 have h2:=kq hp.1.1
 rcases hk with⟨a,b,c⟩|⟨a,b⟩
 ·exact(pU ⟨a,b⟩ h2 (c.trans e2)).symm
 ·exact absurd e2.symm (b p'.k h2.1 h2.2)
theorem Wt {s x1:List UInt8} {l:TX} {k:Int} (hl:l=wds (cq 58) s) (e1:l[1]?=some x1) (hk:kP x1 k) (h:k<0):∀p',dm p'→¬s=aX p':=fun p' hp e=>by
 have:=zr hl e1 hk p' hp e
 have h2:=kq hp.1.1
 omega
theorem pH {x1:List UInt8} {k:Int} (hk:kP x1 k) (h:¬k<0):(aw 1).wrap k=k∧0≤k∧k≤4∧ep k=x1:=by
 rcases hk with⟨a,b,c⟩|⟨a,b⟩
 ·exact⟨AL (by omega) a,a,b,c⟩
 ·omega
theorem Nl {s x1:List UInt8} {l:TX} {k:Int} {n:Nat} (hl:l=wds (cq 58) s) (e1:l[1]?=some x1) (hk:kP x1 k) (h:(((k=0∨k=4)∧n=3)∨(¬(k=0∨k=4)∧n=4))∧¬(l.length:Int)=n):∀p',dm p'→¬s=aX p':=fun p' hp e=>by
 have e3:=zr hl e1 hk p' hp e
 have h2:=kq hp.1.1
 apply h.2
 rw[oi hl hp e]
 unfold bV
 rcases h.1 with⟨a,rfl⟩|⟨a,rfl⟩
 ·rw[if_neg (by omega),if_neg (by omega)];rfl
 ·by_cases hb:p'.k=1
  ·rw[if_pos hb];rfl
  ·rw[if_neg hb,if_pos (by omega)];rfl
theorem FQ {s x0 x1 x2:List UInt8} {l:TX} {z k:Int} {q0 q:Prop} {val:List UInt8} {n:Int} (hl:l=wds (cq 58) s) (e0:l[0]?=some x0) (e1:l[1]?=some x1) (e2:l[2]?=some x2) (n0:jP 3 x0 z q0∧0≤z∧z≤18446744073709551615) (h0:q0) (hk:kP x1 k) (hk0:¬k<0)
  (hn: -9223372036854775808≤n∧n≤9223372036854775807) (hw:∀g,l=x0::x1::x2::(if k=1 then [val] else if k=2∨k=3 then [Lib.itoa n] else [])∧x0=Lib.itoa g↔l=bV ⟨g,k,x2,val,n⟩) (hl2:l=x0::x1::x2::(if k=1 then [val] else if k=2∨k=3 then [Lib.itoa n] else []))
  (hz:∀p',dm p'→s=aX p'→p'.val=val∧p'.n=n) (hq:q↔bA ⟨(aw 1).wrap z,(aw 1).wrap k,x2,val,n⟩):ig s q ⟨(aw 1).wrap z,(aw 1).wrap k,x2,val,n⟩:=by
 obtain⟨w1,w2,w3,w4⟩:=pH hk hk0
 have g0:=LK (n0.1.1.1 h0)
 constructor
 ·intro hq'
  have h1:=hq.1 hq'
  have h2:dm ⟨(aw 1).wrap z,(aw 1).wrap k,x2,val,n⟩:=⟨h1,kS z,kS k,hn⟩
  refine⟨h2,(gD h2).2 ?_⟩
  show wds (cq 58) s=_
  rw[←hl,w1]
  exact(hw _).1 ⟨hl2,g0.1⟩
 ·intro hn' p' hp e
  have k1:=zr hl e1 hk p' hp e
  have k2:=oi hl hp e
  obtain⟨v1,v2⟩:=hz p' hp e
  rw[k2]at e0 e2
  have f0:x0=Lib.itoa p'.g:=by simpa[bV] using e0.symm
  have f2:x2=p'.key:=by simpa[bV] using e2.symm
  have f3:p'.g=(aw 1).wrap z:=kw (m:=255) (m':=255) hp.2.1 (kS z) (by decide) (by decide) (f0.symm.trans g0.1)
  refine hn' (hq.2 ?_)
  rw[←f3,w1,←k1,f2,←v1,←v2]
  exact hp.1
theorem SB {s x0 x1 x2:List UInt8} {l:TX} {z k:Int} {q0 q:Prop} (hl:l=wds (cq 58) s) (e0:l[0]?=some x0) (e1:l[1]?=some x1) (e2:l[2]?=some x2) (n0:jP 3 x0 z q0∧0≤z∧z≤18446744073709551615) (h0:q0) (hk:kP x1 k) (hk0:¬k<0)
  (h04:(aw 1).wrap k=0∨(aw 1).wrap k=4) (h3:(l.length:Int)=3) (hq:q↔bA ⟨(aw 1).wrap z,(aw 1).wrap k,x2,[],0⟩):ig s q ⟨(aw 1).wrap z,(aw 1).wrap k,x2,[],0⟩:=by
 obtain⟨w1,w2,w3,w4⟩:=pH hk hk0
 rw[w1]at h04
 have e:=Zg h3 e0 e1 e2
 refine FQ hl e0 e1 e2 n0 h0 hk hk0 ⟨by decide,by decide⟩ (fun g=> ?_) (by rw[if_neg (by omega),if_neg (by omega)];exact e) (fun p' hp e'=> ?_) hq
 ·rw[bV,if_neg (by omega),if_neg (by omega),e,←w4]
  simp
 ·have k1:=zr hl e1 hk p' hp e'
  obtain⟨_,_,_,h⟩:=hp.1.1
  rcases h with h|h|h
  ·omega
  ·omega
  ·exact h.2
theorem SA {s x0 x1 x2 x3:List UInt8} {l:TX} {z k:Int} {q0 q:Prop} (hl:l=wds (cq 58) s) (e0:l[0]?=some x0) (e1:l[1]?=some x1) (e2:l[2]?=some x2) (e3:l[3]?=some x3) (n0:jP 3 x0 z q0∧0≤z∧z≤18446744073709551615) (h0:q0) (hk:kP x1 k) (hk0:¬k<0)
  (h1:(aw 1).wrap k=1) (h3:¬¬(l.length:Int)=4) (hq:q↔bA ⟨(aw 1).wrap z,(aw 1).wrap k,x2,x3,0⟩):ig s q ⟨(aw 1).wrap z,(aw 1).wrap k,x2,x3,0⟩:=by
 obtain⟨w1,w2,w3,w4⟩:=pH hk hk0
 rw[w1]at h1
 have e:=LW (Classical.not_not.1 h3) e0 e1 e2 e3
 refine FQ hl e0 e1 e2 n0 h0 hk hk0 ⟨by decide,by decide⟩ (fun g=> ?_) (by rw[if_pos h1];exact e) (fun p' hp e'=> ?_) hq
 ·rw[bV,if_pos h1,e,←w4]
  simp
 ·have k1:=zr hl e1 hk p' hp e'
  have k2:=oi hl hp e'
  rw[k2,bV,if_pos (by omega)]at e3
  obtain⟨_,_,_,h⟩:=hp.1.1
  exact⟨by simpa using e3,by omega⟩
theorem Sz {s x0 x1 x2 x3:List UInt8} {l:TX} {z k y:Int} {q0 q3 q:Prop} (hl:l=wds (cq 58) s) (e0:l[0]?=some x0) (e1:l[1]?=some x1) (e2:l[2]?=some x2) (e3:l[3]?=some x3) (n0:jP 3 x0 z q0∧0≤z∧z≤18446744073709551615) (h0:q0) (hk:kP x1 k) (hk0:¬k<0)
  (h04:¬(aw 1).wrap k=0) (h05:¬(aw 1).wrap k=4) (h1:¬(aw 1).wrap k=1) (h3:¬¬(l.length:Int)=4) (n3:jP 9223372036854775807 x3 y q3∧0≤y∧y≤18446744073709551615) (h30:q3) (hq:q↔bA ⟨(aw 1).wrap z,(aw 1).wrap k,x2,[],(aw 0).wrap y⟩):ig s q ⟨(aw 1).wrap z,(aw 1).wrap k,x2,[],(aw 0).wrap y⟩:=by
 obtain⟨w1,w2,w3,w4⟩:=pH hk hk0
 rw[w1]at h04 h05 h1
 have hy:=n3.1.1.1 h30
 have ey:(aw 0).wrap y=y:=xy hy.2.1 (by omega)
 have e:=LW (Classical.not_not.1 h3) e0 e1 e2 e3
 refine FQ hl e0 e1 e2 n0 h0 hk hk0 (vB y) (fun g=> ?_) (by rw[if_neg h1,if_pos (by omega),ey,←hy.2.2];exact e) (fun p' hp e'=> ?_) hq
 ·rw[bV,if_neg h1,if_pos (by omega),e,←w4,ey,←hy.2.2]
  simp
 ·have k1:=zr hl e1 hk p' hp e'
  have k2:=oi hl hp e'
  rw[k2,bV,if_neg (by omega),if_pos (by omega)]at e3
  obtain⟨_,_,_,h⟩:=hp.1.1
  have hb:p'.val=[]∧0≤p'.n:=by
   rcases h with h|h|h
   ·omega
   ·exact h.2
   ·omega
  refine⟨hb.1,?_⟩
  rw[ey]
  have e5:Lib.itoa p'.n=Lib.itoa y:=by rw[←hy.2.2];simpa using e3
  exact kw (m:=9223372036854775807) (m':=9223372036854775807) ⟨hb.2,hp.2.2.2.2⟩ ⟨hy.1,hy.2.1⟩ (by decide) (by decide) e5
theorem aac {s x1 x3:List UInt8} {l:TX} {k y:Int} {q3:Prop} (hl:l=wds (cq 58) s) (e1:l[1]?=some x1) (e3:l[3]?=some x3) (hk:kP x1 k) (hk0:¬k<0) (h04:¬(aw 1).wrap k=0) (h05:¬(aw 1).wrap k=4) (h1:¬(aw 1).wrap k=1)
  (n3:jP 9223372036854775807 x3 y q3∧0≤y∧y≤18446744073709551615) (h:¬q3):∀p',dm p'→¬s=aX p':=fun p' hp e'=>by
 obtain⟨w1,w2,w3,w4⟩:=pH hk hk0
 rw[w1]at h04 h05 h1
 have k1:=zr hl e1 hk p' hp e'
 have k2:=oi hl hp e'
 rw[k2,bV,if_neg (by omega),if_pos (by omega)]at e3
 obtain⟨_,_,_,hh⟩:=hp.1.1
 have hb:0≤p'.n:=by
  rcases hh with h|h|h
  ·omega
  ·exact h.2.2
  ·omega
 refine h (n3.1.1.2 (n3.1.2 ⟨p'.n,?_⟩))
 have e5:x3=Lib.itoa p'.n:=by simpa using e3.symm
 rw[e5]
 exact dI hb hp.2.2.2.2
theorem xG {a b:Int} {key val:List UInt8}:sR ⟨(aw 1).wrap a,(aw 1).wrap b,key,val,0⟩:=⟨kS a,kS b,by simp only;omega,by simp only;omega⟩
theorem tX {a b c:Int} {key val:List UInt8}:sR ⟨(aw 1).wrap a,(aw 1).wrap b,key,val,(aw 0).wrap c⟩:=⟨kS a,kS b,vB c⟩
theorem fW {l:TX} {s x:List UInt8} {b:Int} {i:Nat} (hl:l=wds (cq b) s) (e:l[i]?=some x) (h:s.length≤100000:=by omega):x.length≤1000000:=by
 rw[hl]at e
 have:=jh s x (aaG e)
 omega
def Ev:XF:=.mk 60 (.ct 2 true 3 3) (.aft (.seq (g_ 2 [e_ 0 2 (.al 69 [.int 0 (.ofNat 0),.int 0 (.ofNat 0),.bool false]),p_ 1 3 (.mv (.c (.bool false)))]) (.seq (g_ 3 [p_ 0 9 (m_ 0),c_ 1 10 21 [.t 9,.c (.int 1 (.ofNat 32))],p_ 2 4 (m_ 10)]) (.seq (.seq (g_ 21 [p_ 0 11 (m_ 4),p_ 1 12 (k_ 11),p_ 2 13 (.bin 3 5 (.t 12) (i_ 4)),p_ 3 14 (m_ 13),au 4 15 14 false (m_ 4),au 5 16 14 false (.ixs 1 (.t 15) (i_ 0)),aY 6 17 14 false (l_ 16),au 7 18 14 false (.bin 5 1 (.t 17) (.c (.str [103,114,111,117,112]))),p_ 8 19 (.pick (.t 14) (.c (.bool true)) (.t 18)),p_ 9 20 (m_ 19),au 10 21 20 false (m_ 4),au 11 22 20 false (.ixs 1 (.t 21) (i_ 3)),aY 12 23 20 false (l_ 22),au 13 24 20 false (.bin 5 1 (.t 23) (.c (.str [112,108,97,105,110]))),au 14 25 20 false (m_ 24),au 15 26 25 true (m_ 4),au 16 27 25 true (.ixs 1 (.t 26) (i_ 3)),aY 17 28 25 true (l_ 27),au 18 29 25 true (.bin 5 1 (.t 28) (.c (.str [99,104,101,99,107]))),au 19 30 20 false (.pick (.t 25) (.t 29) (.c (.bool false))),p_ 20 31 (.pick (.t 20) (.c (.bool true)) (.t 30))]) (.cond (.t 31) (.seq (g_ 3 [p_ 0 32 (.bld [.int 0 (.ofNat 0),.int 0 (.ofNat 0),.bool false] [] []),bd 1 (.st 3 (.t 2) (.t 32)),p_ 2 3 (.mv (.c (.bool false)))]) .ret) .skip)) (.seq (g_ 9 [p_ 0 34 (m_ 4),p_ 1 35 (.ixs 1 (.t 34) (i_ 1)),r_ 2 36 (l_ 35),c_ 3 37 23 [.t 36,.c (.int 4 (.ofNat 1099511627776))],p_ 4 33 (m_ 37),p_ 5 38 (.ext 0 (.t 33)),p_ 6 39 (.ext 1 (.t 33)),p_ 7 5 (m_ 38),p_ 8 6 (m_ 39)]) (.seq (g_ 9 [p_ 0 41 (m_ 4),p_ 1 42 (.ixs 1 (.t 41) (i_ 2)),r_ 2 43 (l_ 42),c_ 3 44 23 [.t 43,.c (.int 4 (.ofNat 1099511627776))],p_ 4 40 (m_ 44),p_ 5 45 (.ext 0 (.t 40)),p_ 6 46 (.ext 1 (.t 40)),p_ 7 7 (m_ 45),p_ 8 8 (m_ 46)]) (.seq (g_ 15 [p_ 0 47 (m_ 5),p_ 1 48 (.cnw 0 (.t 47)),p_ 2 49 (m_ 7),p_ 3 50 (.cnw 0 (.t 49)),p_ 4 51 (m_ 4),p_ 5 52 (.ixs 1 (.t 51) (i_ 3)),r_ 6 53 (l_ 52),p_ 7 54 (.bin 5 0 (.t 53) (.c (.str [99,104,101,99,107]))),p_ 8 55 (.bld [.int 0 (.ofNat 0),.int 0 (.ofNat 0),.bool false] [(0,1),(1,1),(2,1)] [.t 48,.t 50,.t 54]),p_ 9 56 (m_ 6),p_ 10 57 (m_ 56),au 11 58 57 true (m_ 8),p_ 12 59 (.pick (.t 57) (.t 58) (.c (.bool false))),bd 13 (.st 3 (.t 2) (.t 55)),p_ 14 3 (m_ 59)]) .ret)))))) [(0,[.upc 0 0 0,.upc 0 0 1,.upc 0 0 2,.up 3]),(1,[.upc 0 0 0,.upc 0 0 1,.upc 0 0 2,.up 3])])
theorem HE:ci Tryz.prog 20 Ev=true:=by kernel_rfl
structure lK where
 s:List UInt8
structure AE where
 g:aM
 q:Prop
def ou (p:lK) (r:AE):Prop:=gP p.s r.q r.g
noncomputable def qU (p:lK):IE:=([.sy (.str p.s)],.leaf,0)
noncomputable def ui (p:lK) (K:KE):Bool:=ai fun r:AE=>iP (ou p r) (K (.tup [.agg [.sy (.int 0 r.g.f),.sy (.int 0 r.g.s),.sy (.bool r.g.c)],.sy (.bool r.q)]) .leaf 0) true
def mD (p:lK):Prop:=p.s.length≤90000
theorem iT {p:lK} {K:KE} (hK:ui p K=true) (r:AE) (h:ou p r:=by dsimp only[ou]<;>(first|exact XY (t:=KZ) (u:=dU) (v:=zm) (by assumption) (by assumption) (by assumption) (by assumption) (by assumption) (by assumption) (by decide) (by decide) (by decide) (by assumption) (by first|exact⟨_,.inr (Classical.not_not.1 (by assumption)),by assumption⟩|exact⟨_,.inl (Classical.not_not.1 (by assumption)),by assumption⟩) (by assumption) (by assumption) (by first|exact⟨fun z=>⟨by assumption,z⟩,fun z=>z.2⟩|exact⟨fun z=>(by cases z),fun z=>absurd z.1 (by assumption)⟩)|exact Mc (XW (by assumption) (by assumption))|exact Mc (XX (u:=zm) (v:=dU) (by assumption) (by decide) (by decide) (by assumption) (by assumption) (by assumption) (by assumption))|exact Mc (Zm (t:=KZ) (by assumption) (by assumption) (by decide) (by assumption)))):K (.tup [.agg [.sy (.int 0 r.g.f),.sy (.int 0 r.g.s),.sy (.bool r.g.c)],.sy (.bool r.q)]) .leaf 0=true:=aq h (az hK r)
theorem MQ (p:lK) (K:KE) (hpre:mD p) (hK:ui p K=true):(cw 0 (cj sv) dC 600 Ev (qU p).1 (qU p).2.1 (qU p).2.2 K)=true:=by
 refine Eq.trans (b:=(let z0:Bool:=(K (.tup [.agg [.sy (.int 0 0),.sy (.int 0 0),.sy (.bool (false=true))],.sy (.bool (false=true))]) .leaf 0);aH (([.sy (.str p.s),.int 1 (.ofNat 32)],.leaf,0)) eE bM ce fun p1 r1=>iP (¬(r1.l.length:Int)=(4:Int)) z0 (mP (0≤(0:Int)∧(0:Int)<(r1.l.length:Int)) (ai fun x1:(List UInt8)=>iP (r1.l[0]?=some x1) (iP (¬x1=KZ) z0 (mP (0≤(3:Int)∧(3:Int)<(r1.l.length:Int)) (ai fun x2:(List UInt8)=>iP (r1.l[3]?=some x2) (iP (¬x2=zm) (mP (0≤(3:Int)∧(3:Int)<(r1.l.length:Int)) (ai fun x3:(List UInt8)=>iP (r1.l[3]?=some x3) (iP (¬x3=dU) z0 (mP (0≤(1:Int)∧(1:Int)<(r1.l.length:Int)) (ai fun x4:(List UInt8)=>iP (r1.l[1]?=some x4) (aH (([.sy (.str x4),.int 4 (.ofNat 1099511627776)],.leaf,0)) cF ba aU fun p2 r2=>mP (0≤(2:Int)∧(2:Int)<(r1.l.length:Int)) (ai fun x5:(List UInt8)=>iP (r1.l[2]?=some x5) (aH (([.sy (.str x5),.int 4 (.ofNat 1099511627776)],.leaf,0)) cF ba aU fun p3 r3=>mP (0≤(3:Int)∧(3:Int)<(r1.l.length:Int)) (ai fun x6:(List UInt8)=>iP (r1.l[3]?=some x6) (iP (r2.q) (K (.tup [.agg [.sy (.int 0 ((aw 0).wrap r2.z)),.sy (.int 0 ((aw 0).wrap r3.z)),.sy (.bool (x6=dU))],.sy (.bool r3.q)]) .leaf 0) (K (.tup [.agg [.sy (.int 0 ((aw 0).wrap r2.z)),.sy (.int 0 ((aw 0).wrap r3.z)),.sy (.bool (x6=dU))],.sy (.bool (false=true))]) .leaf 0)) true)) true)) true))) true)) (mP (0≤(1:Int)∧(1:Int)<(r1.l.length:Int)) (ai fun x7:(List UInt8)=>iP (r1.l[1]?=some x7) (aH (([.sy (.str x7),.int 4 (.ofNat 1099511627776)],.leaf,0)) cF ba aU fun p4 r4=>mP (0≤(2:Int)∧(2:Int)<(r1.l.length:Int)) (ai fun x8:(List UInt8)=>iP (r1.l[2]?=some x8) (aH (([.sy (.str x8),.int 4 (.ofNat 1099511627776)],.leaf,0)) cF ba aU fun p5 r5=>mP (0≤(3:Int)∧(3:Int)<(r1.l.length:Int)) (ai fun x9:(List UInt8)=>iP (r1.l[3]?=some x9) (iP (r4.q) (K (.tup [.agg [.sy (.int 0 ((aw 0).wrap r4.z)),.sy (.int 0 ((aw 0).wrap r5.z)),.sy (.bool (x9=dU))],.sy (.bool r5.q)]) .leaf 0) (K (.tup [.agg [.sy (.int 0 ((aw 0).wrap r4.z)),.sy (.int 0 ((aw 0).wrap r5.z)),.sy (.bool (x9=dU))],.sy (.bool (false=true))]) .leaf 0)) true)) true)) true))) true))) true)))) (by kernel_rfl) ?_
 dsimp only[mD]at hpre
 refine ay (⟨p.s,(32:Int)⟩:dK) rfl (by(try dsimp only[bM]);exact⟨by omega,by first|decide|omega,by first|decide|omega⟩) fun r1 hi1=> ?_
 dsimp only[ce]at hi1
 refine iI (fun hc2=> ?_) (fun hc2=> ?_)
 exact iT hK ⟨⟨(0:Int),(0:Int),false=true⟩,false=true⟩
 refine bC ?_
 refine am (fun x1=> ?_)
 refine iI (fun hi3=> ?_) (fun _=>rfl)
 refine iI (fun hc4=> ?_) (fun hc4=> ?_)
 exact iT hK ⟨⟨(0:Int),(0:Int),false=true⟩,false=true⟩
 refine bC ?_
 refine am (fun x2=> ?_)
 refine iI (fun hi5=> ?_) (fun _=>rfl)
 refine iI (fun hc6=> ?_) (fun hc6=> ?_)
 refine bC ?_
 refine am (fun x3=> ?_)
 refine iI (fun hi7=> ?_) (fun _=>rfl)
 refine iI (fun hc8=> ?_) (fun hc8=> ?_)
 exact iT hK ⟨⟨(0:Int),(0:Int),false=true⟩,false=true⟩
 refine bC ?_
 refine am (fun x4=> ?_)
 refine iI (fun hi9=> ?_) (fun _=>rfl)
 refine ay (⟨x4,(1099511627776:Int)⟩:cv) rfl (by(try dsimp only[ba]);first|exact⟨by omega,by first|decide|omega⟩|exact⟨fW (by assumption) (by assumption),by decide⟩) fun r2 hi10=> ?_
 dsimp only[aU]at hi10
 refine bC ?_
 refine am (fun x5=> ?_)
 refine iI (fun hi11=> ?_) (fun _=>rfl)
 refine ay (⟨x5,(1099511627776:Int)⟩:cv) rfl (by(try dsimp only[ba]);first|exact⟨by omega,by first|decide|omega⟩|exact⟨fW (by assumption) (by assumption),by decide⟩) fun r3 hi12=> ?_
 dsimp only[aU]at hi12
 refine bC ?_
 refine am (fun x6=> ?_)
 refine iI (fun hi13=> ?_) (fun _=>rfl)
 refine iI (fun hc14=> ?_) (fun hc14=> ?_)
 exact iT hK ⟨⟨(aw 0).wrap r2.z,(aw 0).wrap r3.z,x6=dU⟩,r3.q⟩
 exact iT hK ⟨⟨(aw 0).wrap r2.z,(aw 0).wrap r3.z,x6=dU⟩,false=true⟩
 refine bC ?_
 refine am (fun x7=> ?_)
 refine iI (fun hi15=> ?_) (fun _=>rfl)
 refine ay (⟨x7,(1099511627776:Int)⟩:cv) rfl (by(try dsimp only[ba]);first|exact⟨by omega,by first|decide|omega⟩|exact⟨fW (by assumption) (by assumption),by decide⟩) fun r4 hi16=> ?_
 dsimp only[aU]at hi16
 refine bC ?_
 refine am (fun x8=> ?_)
 refine iI (fun hi17=> ?_) (fun _=>rfl)
 refine ay (⟨x8,(1099511627776:Int)⟩:cv) rfl (by(try dsimp only[ba]);first|exact⟨by omega,by first|decide|omega⟩|exact⟨fW (by assumption) (by assumption),by decide⟩) fun r5 hi18=> ?_
 dsimp only[aU]at hi18
 refine bC ?_
 refine am (fun x9=> ?_)
 refine iI (fun hi19=> ?_) (fun _=>rfl)
 refine iI (fun hc20=> ?_) (fun hc20=> ?_)
 exact iT hK ⟨⟨(aw 0).wrap r4.z,(aw 0).wrap r5.z,x9=dU⟩,r5.q⟩
 exact iT hK ⟨⟨(aw 0).wrap r4.z,(aw 0).wrap r5.z,x9=dU⟩,false=true⟩
noncomputable def ph:=bN sv 0 (ck qU (dP mD ui)) 20 [(0,22)]
theorem oP:aZ Tryz.prog ph:=aR (cJ (f:=20) (k:=0) (aQ sW) HE (by rfl) (by rfl) MQ) sW
theorem Zl {l:TX} {k:Int} {x:List UInt8} (h:∀y,l[1]?=some y→kP y k) (e:l[1]?=some x):kP x k:=h x e
theorem at1 {l:TX} (h:¬(l.length:Int)<3):∃x,l[1]?=some x:=⟨l[1],List.getElem?_eq_getElem (by omega)⟩
theorem wL {l:TX} {x y:List UInt8} {k:Int} (hk:0≤k∧k≤4) (h:ep k=x) (e:l[1]?=some x) (e1:l[1]?=some y):kP y k:=.inl ⟨hk.1,hk.2,h.trans (aaZ (e.symm.trans e1))⟩
theorem XH {l:TX} {y x0 x1 x2 x3 x4:List UInt8} (e1:l[1]?=some y) (h0:¬La=x0) (e0:l[1]?=some x0) (h1:¬FN=x1) (f1:l[1]?=some x1) (h2:¬zn=x2) (f2:l[1]?=some x2) (h3:¬vD=x3) (f3:l[1]?=some x3) (h4:¬ng=x4) (f4:l[1]?=some x4):kP y (-1):=by
 obtain rfl:y=x0:=aaZ (e1.symm.trans e0)
 obtain rfl:y=x1:=aaZ (e1.symm.trans f1)
 obtain rfl:y=x2:=aaZ (e1.symm.trans f2)
 obtain rfl:y=x3:=aaZ (e1.symm.trans f3)
 obtain rfl:y=x4:=aaZ (e1.symm.trans f4)
 exact .inr ⟨rfl,MX h0 h1 h2 h3 h4⟩
def xg:XC:=(.aft (.block 2 (.loop [2,3,4,6,7,8,9,10,11,12,33,34,35,36,37,38,39,40,41,42,43,44,45,46,47,48,49,50,51,52,53,54,55,56,57,58,59,60,61,62,63,64,65,66,67,68,69,70,71,72,73,74,75,76,77,78,79,80,81,82,83,84,85,86,87,88,89,90,91,92,93,94,95,96,97,98,99,100,101,102,103] (.seq (.seq (g_ 4 [p_ 0 33 (m_ 10),p_ 1 34 (m_ 8),p_ 2 35 (k_ 34),p_ 3 36 (.bin 3 0 (.t 33) (.t 35))]) (.cond (.t 36) .skip (.exit 2))) (.seq (.block 3 (.seq (h_ 8 [p_ 0 39 (m_ 8),p_ 1 40 (m_ 10),p_ 2 41 (.ixs 1 (.t 39) (.t 40)),r_ 3 42 (l_ 41),p_ 4 43 (m_ 4),p_ 5 44 (.ixs 1 (.t 43) (i_ 1)),r_ 6 45 (l_ 44),p_ 7 46 (.bin 5 0 (.t 42) (.t 45))]) (.cond (.t 46) (g_ 2 [p_ 0 47 (m_ 10),p_ 1 9 (m_ 47)]) .skip))) (g_ 3 [p_ 0 37 (m_ 10),p_ 1 38 (.bin 0 0 (.t 37) (i_ 1)),p_ 2 10 (m_ 38)]))))) [(0,[.up 9,.can 0 [2,4,6,7,9]])])
def wN:XF:=.mk 104 (.ct 2 true 5 3) (.aft (.seq (g_ 2 [e_ 0 2 (.al 118 [.int 1 (.ofNat 0),.int 1 (.ofNat 0),.str [],.str [],.int 0 (.ofNat 0)]),p_ 1 3 (.mv (.c (.bool false)))]) (.seq (g_ 3 [p_ 0 13 (m_ 0),c_ 1 14 21 [.t 13,.c (.int 1 (.ofNat 58))],p_ 2 4 (m_ 14)]) (.seq (.seq (g_ 3 [p_ 0 15 (m_ 4),p_ 1 16 (k_ 15),p_ 2 17 (.bin 3 0 (.t 16) (i_ 3))]) (.cond (.t 17) (.seq (g_ 3 [p_ 0 18 (.bld [.int 1 (.ofNat 0),.int 1 (.ofNat 0),.str [],.str [],.int 0 (.ofNat 0)] [] []),bd 1 (.st 5 (.t 2) (.t 18)),p_ 2 3 (.mv (.c (.bool false)))]) .ret) .skip)) (.seq (g_ 9 [p_ 0 20 (m_ 4),p_ 1 21 (.ixs 1 (.t 20) (i_ 0)),r_ 2 22 (l_ 21),c_ 3 23 23 [.t 22,.c (.int 4 (.ofNat 3))],p_ 4 19 (m_ 23),p_ 5 24 (.ext 0 (.t 19)),p_ 6 25 (.ext 1 (.t 19)),p_ 7 5 (m_ 24),p_ 8 6 (m_ 25)]) (.seq (g_ 8 [p_ 0 26 (m_ 5),p_ 1 27 (.cnw 1 (.t 26)),p_ 2 28 (m_ 4),p_ 3 29 (.ixs 1 (.t 28) (i_ 2)),r_ 4 30 (l_ 29),p_ 5 31 (.bld [.int 1 (.ofNat 0),.int 1 (.ofNat 0),.str [],.str [],.int 0 (.ofNat 0)] [(0,1),(2,1)] [.t 27,.t 30]),e_ 6 7 (.al 118 [.int 1 (.ofNat 0),.int 1 (.ofNat 0),.str [],.str [],.int 0 (.ofNat 0)]),bd 7 (.st 5 (.t 7) (.t 31))]) (.seq (g_ 2 [e_ 0 32 (.bsl 9 1 5 [.str [],.str [],.str [],.str [],.str []] [(0,1),(1,1),(2,1),(3,1),(4,1)] [.c (.str [114,101,97,100]),.c (.str [119,114,105,116,101]),.c (.str [97,100,100]),.c (.str [116,97,107,101]),.c (.str [101,114,97,115,101])]),p_ 1 8 (m_ 32)]) (.seq (g_ 1 [p_ 0 9 (.mv (.c (.int 0 (.negSucc 0))))]) (.seq (.seq (g_ 1 [p_ 0 10 (.mv (i_ 0))]) (.pre [.can 0 [2,4,6,7,8,9,10]] (.spc 0 xg))) (.seq (.seq (g_ 6 [p_ 0 48 (m_ 6),p_ 1 49 (.un 0 (.t 48)),p_ 2 50 (m_ 49),au 3 51 50 false (m_ 9),au 4 52 50 false (.bin 3 0 (.t 51) (i_ 0)),p_ 5 53 (.pick (.t 50) (.c (.bool true)) (.t 52))]) (.cond (.t 53) (.seq (g_ 3 [r_ 0 54 (.ld true 5 (.t 7)),bd 1 (.st 5 (.t 2) (.t 54)),p_ 2 3 (.mv (.c (.bool false)))]) .ret) .skip)) (.seq (g_ 4 [p_ 0 55 (m_ 9),p_ 1 56 (.cnw 1 (.t 55)),p_ 2 57 (f_ 1 7),bd 3 (.st 1 (.t 57) (.t 56))]) (.seq (.seq (g_ 2 [p_ 0 58 (f_ 1 7),r_ 1 59 (l_ 58)]) (.block 4 (.seq (.seq (g_ 2 [p_ 0 61 (.bin 3 4 (.t 59) (.c (.int 1 (.ofNat 0)))),p_ 1 60 (m_ 61)]) (.cond (.t 60) .skip (g_ 2 [p_ 0 62 (.bin 3 4 (.t 59) (.c (.int 1 (.ofNat 4)))),p_ 1 60 (m_ 62)]))) (.cond (.t 60) (.seq (.pre [.can 0 [2,4,7],.upc 1 0 0,.upc 1 0 1,.upc 1 0 2,.upc 1 0 3,.upc 1 0 4] (h_ 10 [r_ 0 63 (.ld true 5 (.t 7)),p_ 1 64 (m_ 4),p_ 2 65 (k_ 64),p_ 3 66 (.bin 3 4 (.t 65) (i_ 3)),p_ 4 67 (m_ 66),aY 5 68 67 true (.ld true 5 (.t 7)),il 6 69 67 true 84 [.t 68],a_ 0 63 (.ld true 5 (.t 7)),p_ 7 70 (.pick (.t 67) (.t 69) (.c (.bool false))),bd 8 (.st 5 (.t 2) (.t 63)),p_ 9 3 (m_ 70)])) .ret) (.seq (g_ 2 [p_ 0 72 (.bin 3 4 (.t 59) (.c (.int 1 (.ofNat 1)))),p_ 1 71 (m_ 72)]) (.cond (.t 71) (.seq (.seq (g_ 3 [p_ 0 73 (m_ 4),p_ 1 74 (k_ 73),p_ 2 75 (.bin 3 5 (.t 74) (i_ 4))]) (.cond (.t 75) (.seq (g_ 3 [r_ 0 76 (.ld true 5 (.t 7)),bd 1 (.st 5 (.t 2) (.t 76)),p_ 2 3 (.mv (.c (.bool false)))]) .ret) .skip)) (.seq (g_ 5 [p_ 0 77 (m_ 4),p_ 1 78 (.ixs 1 (.t 77) (i_ 3)),r_ 2 79 (l_ 78),p_ 3 80 (f_ 3 7),bd 4 (.st 1 (.t 80) (.t 79))]) (.seq (.pre [.can 0 [2,7],.upc 1 0 0,.upc 1 0 1,.upc 1 0 2,.upc 1 0 3,.upc 1 0 4] (h_ 5 [r_ 0 81 (.ld true 5 (.t 7)),r_ 1 82 (.ld true 5 (.t 7)),c_ 2 83 84 [.t 82],a_ 0 81 (.ld true 5 (.t 7)),bd 3 (.st 5 (.t 2) (.t 81)),p_ 4 3 (m_ 83)])) .ret))) .skip)))))) (.seq (.seq (g_ 3 [p_ 0 84 (m_ 4),p_ 1 85 (k_ 84),p_ 2 86 (.bin 3 5 (.t 85) (i_ 4))]) (.cond (.t 86) (.seq (g_ 3 [r_ 0 87 (.ld true 5 (.t 7)),bd 1 (.st 5 (.t 2) (.t 87)),p_ 2 3 (.mv (.c (.bool false)))]) .ret) .skip)) (.seq (g_ 9 [p_ 0 89 (m_ 4),p_ 1 90 (.ixs 1 (.t 89) (i_ 3)),r_ 2 91 (l_ 90),c_ 3 92 23 [.t 91,.c (.int 4 (.ofNat 9223372036854775807))],p_ 4 88 (m_ 92),p_ 5 93 (.ext 0 (.t 88)),p_ 6 94 (.ext 1 (.t 88)),p_ 7 11 (m_ 93),p_ 8 12 (m_ 94)]) (.seq (g_ 4 [p_ 0 95 (m_ 11),p_ 1 96 (.cnw 0 (.t 95)),p_ 2 97 (f_ 4 7),bd 3 (.st 1 (.t 97) (.t 96))]) (.seq (.pre [.can 0 [2,7,12],.upc 1 0 0,.upc 1 0 1,.upc 1 0 2,.upc 1 0 3,.upc 1 0 4] (h_ 8 [r_ 0 98 (.ld true 5 (.t 7)),p_ 1 99 (m_ 12),p_ 2 100 (m_ 99),aY 3 101 100 true (.ld true 5 (.t 7)),il 4 102 100 true 84 [.t 101],a_ 0 98 (.ld true 5 (.t 7)),p_ 5 103 (.pick (.t 100) (.t 102) (.c (.bool false))),bd 6 (.st 5 (.t 2) (.t 98)),p_ 7 3 (m_ 103)])) .ret))))))))))))))) [(0,[.upc 0 0 0,.upc 0 0 1,.upc 0 0 2,.upc 0 0 3,.upc 0 0 4,.up 3]),(1,[.upc 0 0 0,.upc 0 0 1,.upc 0 0 2,.upc 0 0 3,.upc 0 0 4,.up 3])])
theorem BC:ci Tryz.prog 53 wN=true:=by kernel_rfl
structure iX where
 h:Value
 l:List (List UInt8)
 ok:Prop
 g:Int
 key:List UInt8
structure AH where
 k:Int
def ox (p:iX) (r:AH):Prop:=∀y,p.l[1]?=some y→kP y r.k
noncomputable def jY (p:iX):IL:=((.cons 10 (.int 0 (.ofNat 0)) (.cons 9 (.int 0 (.negSucc 0)) (.cons 8 (.sl 2 0 5 (.ex 5)) (.cons 7 (.ptr 1 0) (.cons 6 (.sy (.bool p.ok)) (.cons 4 (.sy (.imm p.h 1 (List UInt8) p.l aG)) (.cons 2 (.ptr 0 0) .nil))))))),(.node (.node .leaf (some (.blk false 118 5 [[.sy (.int 1 p.g),.int 1 (.ofNat 0),.sy (.str p.key),.str [],.int 0 (.ofNat 0)]])) .leaf) (some (.blk false 118 5 [[.int 1 (.ofNat 0),.int 1 (.ofNat 0),.str [],.str [],.int 0 (.ofNat 0)]])) (.node .leaf (some (.blk false 9 1 [[.str [114,101,97,100]],[.str [119,114,105,116,101]],[.str [97,100,100]],[.str [116,97,107,101]],[.str [101,114,97,115,101]]])) .leaf)),3)
noncomputable def ul (p:iX) (K:KC):Bool:=ai fun r:AH=>iP (ox p r) (K 0 (.cons 9 (.sy (.int 0 r.k)) (.cons 7 (.ptr 1 0) (.cons 6 (.sy (.bool p.ok)) (.cons 4 (.sy (.imm p.h 1 (List UInt8) p.l aG)) (.cons 2 (.ptr 0 0) .nil))))) (.node (.node .leaf (some (.blk false 118 5 [[.sy (.int 1 p.g),.int 1 (.ofNat 0),.sy (.str p.key),.str [],.int 0 (.ofNat 0)]])) .leaf) (some (.blk false 118 5 [[.int 1 (.ofNat 0),.int 1 (.ofNat 0),.str [],.str [],.int 0 (.ofNat 0)]])) .leaf) 2) true
def mG (p:iX):Prop:=¬(p.l.length:Int)<3
theorem bf {p:iX} {K:KC} (hK:ul p K=true) (r:AH) (h:ox p r:=by dsimp only[ox]<;>(intro y hy;first|exact wL (by decide) (FK (by assumption)) (by assumption) hy|exact wL (by decide) (FJ (by assumption)) (by assumption) hy|exact wL (by decide) (FI (by assumption)) (by assumption) hy|exact wL (by decide) (FH (by assumption)) (by assumption) hy|exact wL (by decide) (FG (by assumption)) (by assumption) hy|exact XH hy (by assumption) (by assumption) (by assumption) (by assumption) (by assumption) (by assumption) (by assumption) (by assumption) (by assumption) (by assumption))):K 0 (.cons 9 (.sy (.int 0 r.k)) (.cons 7 (.ptr 1 0) (.cons 6 (.sy (.bool p.ok)) (.cons 4 (.sy (.imm p.h 1 (List UInt8) p.l aG)) (.cons 2 (.ptr 0 0) .nil))))) (.node (.node .leaf (some (.blk false 118 5 [[.sy (.int 1 p.g),.int 1 (.ofNat 0),.sy (.str p.key),.str [],.int 0 (.ofNat 0)]])) .leaf) (some (.blk false 118 5 [[.int 1 (.ofNat 0),.int 1 (.ofNat 0),.str [],.str [],.int 0 (.ofNat 0)]])) .leaf) 2=true:=aq h (az hK r)
noncomputable def Ng (p:iX) (K:KC):Bool:=ac (aC (mG p)) (ul p K)
noncomputable def mR:gO:=fun j S M nx K=>(Bool.rec (false) (aN fun p:iX=>ac (aC ((S,M,nx)=jY p)) (Ng p K)) (Nat.beq j 0))
theorem MV (p:iX) (K:KC) (hpre:mG p) (hK:ul p K=true):(df (cj ph) mR 600 xg (jY p).1 (jY p).2.1 (jY p).2.2 K)=true:=by
 refine Eq.trans (b:=(let z0:Bool:=(K 0 (.cons 9 (.sy (.int 0 4)) (.cons 7 (.ptr 1 0) (.cons 6 (.sy (.bool p.ok)) (.cons 4 (.sy (.imm p.h 1 (List UInt8) p.l aG)) (.cons 2 (.ptr 0 0) .nil))))) (.node (.node .leaf (some (.blk false 118 5 [[.sy (.int 1 p.g),.int 1 (.ofNat 0),.sy (.str p.key),.str [],.int 0 (.ofNat 0)]])) .leaf) (some (.blk false 118 5 [[.int 1 (.ofNat 0),.int 1 (.ofNat 0),.str [],.str [],.int 0 (.ofNat 0)]])) .leaf) 2);let z1:Bool:=(K 0 (.cons 9 (.sy (.int 0 3)) (.cons 7 (.ptr 1 0) (.cons 6 (.sy (.bool p.ok)) (.cons 4 (.sy (.imm p.h 1 (List UInt8) p.l aG)) (.cons 2 (.ptr 0 0) .nil))))) (.node (.node .leaf (some (.blk false 118 5 [[.sy (.int 1 p.g),.int 1 (.ofNat 0),.sy (.str p.key),.str [],.int 0 (.ofNat 0)]])) .leaf) (some (.blk false 118 5 [[.int 1 (.ofNat 0),.int 1 (.ofNat 0),.str [],.str [],.int 0 (.ofNat 0)]])) .leaf) 2);let z2:Bool:=(K 0 (.cons 9 (.sy (.int 0 2)) (.cons 7 (.ptr 1 0) (.cons 6 (.sy (.bool p.ok)) (.cons 4 (.sy (.imm p.h 1 (List UInt8) p.l aG)) (.cons 2 (.ptr 0 0) .nil))))) (.node (.node .leaf (some (.blk false 118 5 [[.sy (.int 1 p.g),.int 1 (.ofNat 0),.sy (.str p.key),.str [],.int 0 (.ofNat 0)]])) .leaf) (some (.blk false 118 5 [[.int 1 (.ofNat 0),.int 1 (.ofNat 0),.str [],.str [],.int 0 (.ofNat 0)]])) .leaf) 2);let z3:Bool:=(K 0 (.cons 9 (.sy (.int 0 1)) (.cons 7 (.ptr 1 0) (.cons 6 (.sy (.bool p.ok)) (.cons 4 (.sy (.imm p.h 1 (List UInt8) p.l aG)) (.cons 2 (.ptr 0 0) .nil))))) (.node (.node .leaf (some (.blk false 118 5 [[.sy (.int 1 p.g),.int 1 (.ofNat 0),.sy (.str p.key),.str [],.int 0 (.ofNat 0)]])) .leaf) (some (.blk false 118 5 [[.int 1 (.ofNat 0),.int 1 (.ofNat 0),.str [],.str [],.int 0 (.ofNat 0)]])) .leaf) 2);mP (0≤(1:Int)∧(1:Int)<(p.l.length:Int)) (ai fun x1:(List UInt8)=>iP (p.l[1]?=some x1) (iP (La=x1) (mP (0≤(1:Int)∧(1:Int)<(p.l.length:Int)) (ai fun x2:(List UInt8)=>iP (p.l[1]?=some x2) (iP (FN=x2) (mP (0≤(1:Int)∧(1:Int)<(p.l.length:Int)) (ai fun x3:(List UInt8)=>iP (p.l[1]?=some x3) (iP (zn=x3) (mP (0≤(1:Int)∧(1:Int)<(p.l.length:Int)) (ai fun x4:(List UInt8)=>iP (p.l[1]?=some x4) (iP (vD=x4) (mP (0≤(1:Int)∧(1:Int)<(p.l.length:Int)) (ai fun x5:(List UInt8)=>iP (p.l[1]?=some x5) (iP (ng=x5) z0 z1) true)) (mP (0≤(1:Int)∧(1:Int)<(p.l.length:Int)) (ai fun x6:(List UInt8)=>iP (p.l[1]?=some x6) (iP (ng=x6) z0 z2) true))) true)) (mP (0≤(1:Int)∧(1:Int)<(p.l.length:Int)) (ai fun x7:(List UInt8)=>iP (p.l[1]?=some x7) (iP (vD=x7) (mP (0≤(1:Int)∧(1:Int)<(p.l.length:Int)) (ai fun x8:(List UInt8)=>iP (p.l[1]?=some x8) (iP (ng=x8) z0 z1) true)) (mP (0≤(1:Int)∧(1:Int)<(p.l.length:Int)) (ai fun x9:(List UInt8)=>iP (p.l[1]?=some x9) (iP (ng=x9) z0 z3) true))) true))) true)) (mP (0≤(1:Int)∧(1:Int)<(p.l.length:Int)) (ai fun x10:(List UInt8)=>iP (p.l[1]?=some x10) (iP (zn=x10) (mP (0≤(1:Int)∧(1:Int)<(p.l.length:Int)) (ai fun x11:(List UInt8)=>iP (p.l[1]?=some x11) (iP (vD=x11) (mP (0≤(1:Int)∧(1:Int)<(p.l.length:Int)) (ai fun x12:(List UInt8)=>iP (p.l[1]?=some x12) (iP (ng=x12) z0 z1) true)) (mP (0≤(1:Int)∧(1:Int)<(p.l.length:Int)) (ai fun x13:(List UInt8)=>iP (p.l[1]?=some x13) (iP (ng=x13) z0 z2) true))) true)) (mP (0≤(1:Int)∧(1:Int)<(p.l.length:Int)) (ai fun x14:(List UInt8)=>iP (p.l[1]?=some x14) (iP (vD=x14) (mP (0≤(1:Int)∧(1:Int)<(p.l.length:Int)) (ai fun x15:(List UInt8)=>iP (p.l[1]?=some x15) (iP (ng=x15) z0 z1) true)) (mP (0≤(1:Int)∧(1:Int)<(p.l.length:Int)) (ai fun x16:(List UInt8)=>iP (p.l[1]?=some x16) (iP (ng=x16) z0 (K 0 (.cons 9 (.sy (.int 0 0)) (.cons 7 (.ptr 1 0) (.cons 6 (.sy (.bool p.ok)) (.cons 4 (.sy (.imm p.h 1 (List UInt8) p.l aG)) (.cons 2 (.ptr 0 0) .nil))))) (.node (.node .leaf (some (.blk false 118 5 [[.sy (.int 1 p.g),.int 1 (.ofNat 0),.sy (.str p.key),.str [],.int 0 (.ofNat 0)]])) .leaf) (some (.blk false 118 5 [[.int 1 (.ofNat 0),.int 1 (.ofNat 0),.str [],.str [],.int 0 (.ofNat 0)]])) .leaf) 2)) true))) true))) true))) true)) (mP (0≤(1:Int)∧(1:Int)<(p.l.length:Int)) (ai fun x17:(List UInt8)=>iP (p.l[1]?=some x17) (iP (FN=x17) (mP (0≤(1:Int)∧(1:Int)<(p.l.length:Int)) (ai fun x18:(List UInt8)=>iP (p.l[1]?=some x18) (iP (zn=x18) (mP (0≤(1:Int)∧(1:Int)<(p.l.length:Int)) (ai fun x19:(List UInt8)=>iP (p.l[1]?=some x19) (iP (vD=x19) (mP (0≤(1:Int)∧(1:Int)<(p.l.length:Int)) (ai fun x20:(List UInt8)=>iP (p.l[1]?=some x20) (iP (ng=x20) z0 z1) true)) (mP (0≤(1:Int)∧(1:Int)<(p.l.length:Int)) (ai fun x21:(List UInt8)=>iP (p.l[1]?=some x21) (iP (ng=x21) z0 z2) true))) true)) (mP (0≤(1:Int)∧(1:Int)<(p.l.length:Int)) (ai fun x22:(List UInt8)=>iP (p.l[1]?=some x22) (iP (vD=x22) (mP (0≤(1:Int)∧(1:Int)<(p.l.length:Int)) (ai fun x23:(List UInt8)=>iP (p.l[1]?=some x23) (iP (ng=x23) z0 z1) true)) (mP (0≤(1:Int)∧(1:Int)<(p.l.length:Int)) (ai fun x24:(List UInt8)=>iP (p.l[1]?=some x24) (iP (ng=x24) z0 z3) true))) true))) true)) (mP (0≤(1:Int)∧(1:Int)<(p.l.length:Int)) (ai fun x25:(List UInt8)=>iP (p.l[1]?=some x25) (iP (zn=x25) (mP (0≤(1:Int)∧(1:Int)<(p.l.length:Int)) (ai fun x26:(List UInt8)=>iP (p.l[1]?=some x26) (iP (vD=x26) (mP (0≤(1:Int)∧(1:Int)<(p.l.length:Int)) (ai fun x27:(List UInt8)=>iP (p.l[1]?=some x27) (iP (ng=x27) z0 z1) true)) (mP (0≤(1:Int)∧(1:Int)<(p.l.length:Int)) (ai fun x28:(List UInt8)=>iP (p.l[1]?=some x28) (iP (ng=x28) z0 z2) true))) true)) (mP (0≤(1:Int)∧(1:Int)<(p.l.length:Int)) (ai fun x29:(List UInt8)=>iP (p.l[1]?=some x29) (iP (vD=x29) (mP (0≤(1:Int)∧(1:Int)<(p.l.length:Int)) (ai fun x30:(List UInt8)=>iP (p.l[1]?=some x30) (iP (ng=x30) z0 z1) true)) (mP (0≤(1:Int)∧(1:Int)<(p.l.length:Int)) (ai fun x31:(List UInt8)=>iP (p.l[1]?=some x31) (iP (ng=x31) z0 (K 0 (.cons 9 (.sy (.int 0 (-1))) (.cons 7 (.ptr 1 0) (.cons 6 (.sy (.bool p.ok)) (.cons 4 (.sy (.imm p.h 1 (List UInt8) p.l aG)) (.cons 2 (.ptr 0 0) .nil))))) (.node (.node .leaf (some (.blk false 118 5 [[.sy (.int 1 p.g),.int 1 (.ofNat 0),.sy (.str p.key),.str [],.int 0 (.ofNat 0)]])) .leaf) (some (.blk false 118 5 [[.int 1 (.ofNat 0),.int 1 (.ofNat 0),.str [],.str [],.int 0 (.ofNat 0)]])) .leaf) 2)) true))) true))) true))) true))) true))) (by kernel_rfl) ?_
 dsimp only[mG]at hpre
 refine bC ?_
 refine am (fun x1=> ?_)
 refine iI (fun hi1=> ?_) (fun _=>rfl)
 refine iI (fun hc2=> ?_) (fun hc2=> ?_)
 refine bC ?_
 refine am (fun x2=> ?_)
 refine iI (fun hi3=> ?_) (fun _=>rfl)
 refine iI (fun hc4=> ?_) (fun hc4=> ?_)
 refine bC ?_
 refine am (fun x3=> ?_)
 refine iI (fun hi5=> ?_) (fun _=>rfl)
 refine iI (fun hc6=> ?_) (fun hc6=> ?_)
 refine bC ?_
 refine am (fun x4=> ?_)
 refine iI (fun hi7=> ?_) (fun _=>rfl)
 refine iI (fun hc8=> ?_) (fun hc8=> ?_)
 refine bC ?_
 refine am (fun x5=> ?_)
 refine iI (fun hi9=> ?_) (fun _=>rfl)
 refine iI (fun hc10=> ?_) (fun hc10=> ?_)
 exact bf hK ⟨(4:Int)⟩
 exact bf hK ⟨(3:Int)⟩
 refine bC ?_
 refine am (fun x6=> ?_)
 refine iI (fun hi11=> ?_) (fun _=>rfl)
 refine iI (fun hc12=> ?_) (fun hc12=> ?_)
 exact bf hK ⟨(4:Int)⟩
 exact bf hK ⟨(2:Int)⟩
 refine bC ?_
 refine am (fun x7=> ?_)
 refine iI (fun hi13=> ?_) (fun _=>rfl)
 refine iI (fun hc14=> ?_) (fun hc14=> ?_)
 refine bC ?_
 refine am (fun x8=> ?_)
 refine iI (fun hi15=> ?_) (fun _=>rfl)
 refine iI (fun hc16=> ?_) (fun hc16=> ?_)
 exact bf hK ⟨(4:Int)⟩
 exact bf hK ⟨(3:Int)⟩
 refine bC ?_
 refine am (fun x9=> ?_)
 refine iI (fun hi17=> ?_) (fun _=>rfl)
 refine iI (fun hc18=> ?_) (fun hc18=> ?_)
 exact bf hK ⟨(4:Int)⟩
 exact bf hK ⟨(1:Int)⟩
 refine bC ?_
 refine am (fun x10=> ?_)
 refine iI (fun hi19=> ?_) (fun _=>rfl)
 refine iI (fun hc20=> ?_) (fun hc20=> ?_)
 refine bC ?_
 refine am (fun x11=> ?_)
 refine iI (fun hi21=> ?_) (fun _=>rfl)
 refine iI (fun hc22=> ?_) (fun hc22=> ?_)
 refine bC ?_
 refine am (fun x12=> ?_)
 refine iI (fun hi23=> ?_) (fun _=>rfl)
 refine iI (fun hc24=> ?_) (fun hc24=> ?_)
 exact bf hK ⟨(4:Int)⟩
 exact bf hK ⟨(3:Int)⟩
 refine bC ?_
 refine am (fun x13=> ?_)
 refine iI (fun hi25=> ?_) (fun _=>rfl)
 refine iI (fun hc26=> ?_) (fun hc26=> ?_)
 exact bf hK ⟨(4:Int)⟩
 exact bf hK ⟨(2:Int)⟩
 refine bC ?_
 refine am (fun x14=> ?_)
 refine iI (fun hi27=> ?_) (fun _=>rfl)
 refine iI (fun hc28=> ?_) (fun hc28=> ?_)
 refine bC ?_
 refine am (fun x15=> ?_)
 refine iI (fun hi29=> ?_) (fun _=>rfl)
 refine iI (fun hc30=> ?_) (fun hc30=> ?_)
 exact bf hK ⟨(4:Int)⟩
 exact bf hK ⟨(3:Int)⟩
 refine bC ?_
 refine am (fun x16=> ?_)
 refine iI (fun hi31=> ?_) (fun _=>rfl)
 refine iI (fun hc32=> ?_) (fun hc32=> ?_)
 exact bf hK ⟨(4:Int)⟩
 exact bf hK ⟨(0:Int)⟩
 refine bC ?_
 refine am (fun x17=> ?_)
 refine iI (fun hi33=> ?_) (fun _=>rfl)
 refine iI (fun hc34=> ?_) (fun hc34=> ?_)
 refine bC ?_
 refine am (fun x18=> ?_)
 refine iI (fun hi35=> ?_) (fun _=>rfl)
 refine iI (fun hc36=> ?_) (fun hc36=> ?_)
 refine bC ?_
 refine am (fun x19=> ?_)
 refine iI (fun hi37=> ?_) (fun _=>rfl)
 refine iI (fun hc38=> ?_) (fun hc38=> ?_)
 refine bC ?_
 refine am (fun x20=> ?_)
 refine iI (fun hi39=> ?_) (fun _=>rfl)
 refine iI (fun hc40=> ?_) (fun hc40=> ?_)
 exact bf hK ⟨(4:Int)⟩
 exact bf hK ⟨(3:Int)⟩
 refine bC ?_
 refine am (fun x21=> ?_)
 refine iI (fun hi41=> ?_) (fun _=>rfl)
 refine iI (fun hc42=> ?_) (fun hc42=> ?_)
 exact bf hK ⟨(4:Int)⟩
 exact bf hK ⟨(2:Int)⟩
 refine bC ?_
 refine am (fun x22=> ?_)
 refine iI (fun hi43=> ?_) (fun _=>rfl)
 refine iI (fun hc44=> ?_) (fun hc44=> ?_)
 refine bC ?_
 refine am (fun x23=> ?_)
 refine iI (fun hi45=> ?_) (fun _=>rfl)
 refine iI (fun hc46=> ?_) (fun hc46=> ?_)
 exact bf hK ⟨(4:Int)⟩
 exact bf hK ⟨(3:Int)⟩
 refine bC ?_
 refine am (fun x24=> ?_)
 refine iI (fun hi47=> ?_) (fun _=>rfl)
 refine iI (fun hc48=> ?_) (fun hc48=> ?_)
 exact bf hK ⟨(4:Int)⟩
 exact bf hK ⟨(1:Int)⟩
 refine bC ?_
 refine am (fun x25=> ?_)
 refine iI (fun hi49=> ?_) (fun _=>rfl)
 refine iI (fun hc50=> ?_) (fun hc50=> ?_)
 refine bC ?_
 refine am (fun x26=> ?_)
 refine iI (fun hi51=> ?_) (fun _=>rfl)
 refine iI (fun hc52=> ?_) (fun hc52=> ?_)
 refine bC ?_
 refine am (fun x27=> ?_)
 refine iI (fun hi53=> ?_) (fun _=>rfl)
 refine iI (fun hc54=> ?_) (fun hc54=> ?_)
 exact bf hK ⟨(4:Int)⟩
 exact bf hK ⟨(3:Int)⟩
 refine bC ?_
 refine am (fun x28=> ?_)
 refine iI (fun hi55=> ?_) (fun _=>rfl)
 refine iI (fun hc56=> ?_) (fun hc56=> ?_)
 exact bf hK ⟨(4:Int)⟩
 exact bf hK ⟨(2:Int)⟩
 refine bC ?_
 refine am (fun x29=> ?_)
 refine iI (fun hi57=> ?_) (fun _=>rfl)
 refine iI (fun hc58=> ?_) (fun hc58=> ?_)
 refine bC ?_
 refine am (fun x30=> ?_)
 refine iI (fun hi59=> ?_) (fun _=>rfl)
 refine iI (fun hc60=> ?_) (fun hc60=> ?_)
 exact bf hK ⟨(4:Int)⟩
 exact bf hK ⟨(3:Int)⟩
 refine bC ?_
 refine am (fun x31=> ?_)
 refine iI (fun hi61=> ?_) (fun _=>rfl)
 refine iI (fun hc62=> ?_) (fun hc62=> ?_)
 exact bf hK ⟨(4:Int)⟩
 exact bf hK ⟨((-1):Int)⟩
theorem NO:dR Tryz.prog 104 0 mR false 0 xg:=by
 refine Ld (lf:=600) bH (aQ oP) (by rfl) (fun b j x h=>by cases h) (fun S M nx K h=> ?_)
 obtain⟨p,h⟩:=bR h
 obtain⟨e,h9⟩:=aa h
 clear h
 have e1:S=(jY p).1:=congrArg Prod.fst e
 have e2:M=(jY p).2.1:=congrArg (fun x=>x.2.1) e
 have e3:nx=(jY p).2.2:=congrArg (fun x=>x.2.2) e
 subst e1;subst e2;subst e3
 exact MV p K (aa h9).1 (aa h9).2
structure ib where
 s:List UInt8
structure sL where
 p:aB
 q:Prop
def jI (p:ib) (r:sL):Prop:=ig p.s r.q ⟨r.p.g,r.p.k,r.p.key,r.p.val,r.p.n⟩
noncomputable def lh (p:ib):IE:=([.sy (.str p.s)],.leaf,0)
noncomputable def oK (p:ib) (K:KE):Bool:=ai fun r:sL=>iP (jI p r) (K (.tup [.agg [.sy (.int 1 r.p.g),.sy (.int 1 r.p.k),.sy (.str r.p.key),.sy (.str r.p.val),.sy (.int 0 r.p.n)],.sy (.bool r.q)]) .leaf 0) true
def jb (p:ib):Prop:=p.s.length≤90000
theorem cP {p:ib} {K:KE} (hK:oK p K=true) (r:sL) (h:jI p r:=by dsimp only[jI]<;>(first|exact nu (Pu (by assumption) (by assumption))|exact nu (aad (by assumption) (by assumption) (by assumption) (by assumption))|(obtain⟨x1,e1⟩:=at1 (by assumption);have hk:=Zl (by assumption) e1;first|exact nu (Wt (by assumption) e1 hk (by assumption))|exact SB (by assumption) (by assumption) e1 (by assumption) (by assumption) (by first|assumption|exact Classical.not_not.1 (by assumption)) hk (by assumption) (by first|exact .inl (by assumption)|exact .inr (by assumption)) (by assumption) (by assumption)|exact SA (by assumption) (by assumption) e1 (by assumption) (by assumption) (by assumption) (by first|assumption|exact Classical.not_not.1 (by assumption)) hk (by assumption) (by assumption) (by assumption) (by assumption)|exact Sz (by assumption) (by assumption) e1 (by assumption) (by assumption) (by assumption) (by first|assumption|exact Classical.not_not.1 (by assumption)) hk (by assumption) (by assumption) (by assumption) (by assumption) (by assumption) (by assumption) (by assumption) (by assumption)|exact nu (aac (by assumption) e1 (by assumption) hk (by assumption) (by assumption) (by assumption) (by assumption) (by assumption) (by assumption))|(have hw:=(pH hk (by assumption)).1;first|exact nu (Nl (n:=3) (by assumption) e1 hk ⟨.inl ⟨by omega,rfl⟩,by omega⟩)|exact nu (Nl (n:=4) (by assumption) e1 hk ⟨.inr ⟨by omega,rfl⟩,by omega⟩))))):K (.tup [.agg [.sy (.int 1 r.p.g),.sy (.int 1 r.p.k),.sy (.str r.p.key),.sy (.str r.p.val),.sy (.int 0 r.p.n)],.sy (.bool r.q)]) .leaf 0=true:=aq h (az hK r)
theorem FC (p:ib) (K:KE) (hpre:jb p) (hK:oK p K=true):(cw 0 (cj ph) mR 600 wN (lh p).1 (lh p).2.1 (lh p).2.2 K)=true:=by
 refine Eq.trans (b:=(aH (([.sy (.str p.s),.int 1 (.ofNat 58)],.leaf,0)) eE bM ce fun p1 r1=>iP ((r1.l.length:Int)<(3:Int)) (K (.tup [.agg [.sy (.int 1 0),.sy (.int 1 0),.sy (.str aW),.sy (.str aW),.sy (.int 0 0)],.sy (.bool (false=true))]) .leaf 0) (mP (0≤(0:Int)∧(0:Int)<(r1.l.length:Int)) (ai fun x1:(List UInt8)=>iP (r1.l[0]?=some x1) (aH (([.sy (.str x1),.int 4 (.ofNat 3)],.leaf,0)) cF ba aU fun p2 r2=>mP (0≤(2:Int)∧(2:Int)<(r1.l.length:Int)) (ai fun x2:(List UInt8)=>iP (r1.l[2]?=some x2) (aH (((.cons 10 (.int 0 (.ofNat 0)) (.cons 9 (.int 0 (.negSucc 0)) (.cons 8 (.sl 2 0 5 (.ex 5)) (.cons 7 (.ptr 1 0) (.cons 6 (.sy (.bool r2.q)) (.cons 4 (.sy (.imm r1.h 1 (List UInt8) r1.l aG)) (.cons 2 (.ptr 0 0) .nil))))))),(.node (.node .leaf (some (.blk false 118 5 [[.sy (.int 1 ((aw 1).wrap r2.z)),.int 1 (.ofNat 0),.sy (.str x2),.str [],.int 0 (.ofNat 0)]])) .leaf) (some (.blk false 118 5 [[.int 1 (.ofNat 0),.int 1 (.ofNat 0),.str [],.str [],.int 0 (.ofNat 0)]])) (.node .leaf (some (.blk false 9 1 [[.str [114,101,97,100]],[.str [119,114,105,116,101]],[.str [97,100,100]],[.str [116,97,107,101]],[.str [101,114,97,115,101]]])) .leaf)),3)) jY mG ox fun p3 r3=>iP (¬p3.ok) (K (.tup [.agg [.sy (.int 1 p3.g),.sy (.int 1 0),.sy (.str p3.key),.sy (.str aW),.sy (.int 0 0)],.sy (.bool (false=true))]) .leaf 0) (iP (r3.k<(0:Int)) (K (.tup [.agg [.sy (.int 1 p3.g),.sy (.int 1 0),.sy (.str p3.key),.sy (.str aW),.sy (.int 0 0)],.sy (.bool (false=true))]) .leaf 0) (iP (((aw 1).wrap r3.k)=(0:Int)) (iP ((p3.l.length:Int)=(3:Int)) (aH (([.agg [.sy (.int 1 p3.g),.sy (.int 1 ((aw 1).wrap r3.k)),.sy (.str p3.key),.sy (.str aW),.sy (.int 0 0)]],.leaf,0)) kB dZ dH fun p4 r4=>ac (qL [qI 1 p3.g,qI 1 ((aw 1).wrap r3.k),qS p3.key,qS aW,qI 0 0]) (K (.tup [.agg [.sy (.int 1 p3.g),.sy (.int 1 ((aw 1).wrap r3.k)),.sy (.str p3.key),.sy (.str aW),.sy (.int 0 0)],.sy (.bool r4.q)]) .leaf 0)) (ac (qL [qI 1 p3.g,qI 1 ((aw 1).wrap r3.k),qS p3.key,qS aW,qI 0 0]) (K (.tup [.agg [.sy (.int 1 p3.g),.sy (.int 1 ((aw 1).wrap r3.k)),.sy (.str p3.key),.sy (.str aW),.sy (.int 0 0)],.sy (.bool (false=true))]) .leaf 0))) (iP (((aw 1).wrap r3.k)=(4:Int)) (iP ((p3.l.length:Int)=(3:Int)) (aH (([.agg [.sy (.int 1 p3.g),.sy (.int 1 ((aw 1).wrap r3.k)),.sy (.str p3.key),.sy (.str aW),.sy (.int 0 0)]],.leaf,0)) kB dZ dH fun p5 r5=>ac (qL [qI 1 p3.g,qI 1 ((aw 1).wrap r3.k),qS p3.key,qS aW,qI 0 0]) (K (.tup [.agg [.sy (.int 1 p3.g),.sy (.int 1 ((aw 1).wrap r3.k)),.sy (.str p3.key),.sy (.str aW),.sy (.int 0 0)],.sy (.bool r5.q)]) .leaf 0)) (ac (qL [qI 1 p3.g,qI 1 ((aw 1).wrap r3.k),qS p3.key,qS aW,qI 0 0]) (K (.tup [.agg [.sy (.int 1 p3.g),.sy (.int 1 ((aw 1).wrap r3.k)),.sy (.str p3.key),.sy (.str aW),.sy (.int 0 0)],.sy (.bool (false=true))]) .leaf 0))) (iP (((aw 1).wrap r3.k)=(1:Int)) (iP (¬(p3.l.length:Int)=(4:Int)) (K (.tup [.agg [.sy (.int 1 p3.g),.sy (.int 1 ((aw 1).wrap r3.k)),.sy (.str p3.key),.sy (.str aW),.sy (.int 0 0)],.sy (.bool (false=true))]) .leaf 0) (mP (0≤(3:Int)∧(3:Int)<(p3.l.length:Int)) (ai fun x3:(List UInt8)=>iP (p3.l[3]?=some x3) (aH (([.agg [.sy (.int 1 p3.g),.sy (.int 1 ((aw 1).wrap r3.k)),.sy (.str p3.key),.sy (.str x3),.sy (.int 0 0)]],.leaf,0)) kB dZ dH fun p6 r6=>ac (qL [qI 1 p3.g,qI 1 ((aw 1).wrap r3.k),qS p3.key,qS x3,qI 0 0]) (K (.tup [.agg [.sy (.int 1 p3.g),.sy (.int 1 ((aw 1).wrap r3.k)),.sy (.str p3.key),.sy (.str x3),.sy (.int 0 0)],.sy (.bool r6.q)]) .leaf 0)) true))) (iP (¬(p3.l.length:Int)=(4:Int)) (K (.tup [.agg [.sy (.int 1 p3.g),.sy (.int 1 ((aw 1).wrap r3.k)),.sy (.str p3.key),.sy (.str aW),.sy (.int 0 0)],.sy (.bool (false=true))]) .leaf 0) (mP (0≤(3:Int)∧(3:Int)<(p3.l.length:Int)) (ai fun x4:(List UInt8)=>iP (p3.l[3]?=some x4) (aH (([.sy (.str x4),.int 4 (.ofNat 9223372036854775807)],.leaf,0)) cF ba aU fun p7 r7=>iP (r7.q) (aH (([.agg [.sy (.int 1 p3.g),.sy (.int 1 ((aw 1).wrap r3.k)),.sy (.str p3.key),.sy (.str aW),.sy (.int 0 ((aw 0).wrap r7.z))]],.leaf,0)) kB dZ dH fun p8 r8=>ac (qL [qI 1 p3.g,qI 1 ((aw 1).wrap r3.k),qS p3.key,qS aW,qI 0 ((aw 0).wrap r7.z)]) (K (.tup [.agg [.sy (.int 1 p3.g),.sy (.int 1 ((aw 1).wrap r3.k)),.sy (.str p3.key),.sy (.str aW),.sy (.int 0 ((aw 0).wrap r7.z))],.sy (.bool r8.q)]) .leaf 0)) (ac (qL [qI 1 p3.g,qI 1 ((aw 1).wrap r3.k),qS p3.key,qS aW,qI 0 ((aw 0).wrap r7.z)]) (K (.tup [.agg [.sy (.int 1 p3.g),.sy (.int 1 ((aw 1).wrap r3.k)),.sy (.str p3.key),.sy (.str aW),.sy (.int 0 ((aw 0).wrap r7.z))],.sy (.bool (false=true))]) .leaf 0))) true)))))))) true)) true)))) (by kernel_rfl) ?_
 dsimp only[jb]at hpre
 refine ay (⟨p.s,(58:Int)⟩:dK) rfl (by(try dsimp only[bM]);exact⟨by omega,by first|decide|omega,by first|decide|omega⟩) fun r1 hi1=> ?_
 dsimp only[ce]at hi1
 refine iI (fun hc2=> ?_) (fun hc2=> ?_)
 exact cP hK ⟨⟨(0:Int),(0:Int),aW,aW,(0:Int)⟩,false=true⟩
 refine bC ?_
 refine am (fun x1=> ?_)
 refine iI (fun hi3=> ?_) (fun _=>rfl)
 refine ay (⟨x1,(3:Int)⟩:cv) rfl (by(try dsimp only[ba]);first|exact⟨by omega,by first|decide|omega⟩|exact⟨fW (by assumption) (by assumption),by decide⟩) fun r2 hi4=> ?_
 dsimp only[aU]at hi4
 refine bC ?_
 refine am (fun x2=> ?_)
 refine iI (fun hi5=> ?_) (fun _=>rfl)
 refine ay (⟨r1.h,r1.l,r2.q,(aw 1).wrap r2.z,x2⟩:iX) rfl (by(try dsimp only[mG]);assumption) fun r3 hi6=> ?_
 dsimp only[ox]at hi6
 refine iI (p:=¬r2.q) (fun hc7=> ?_) (fun hc7=> ?_)
 exact cP hK ⟨⟨((aw 1).wrap r2.z),(0:Int),x2,aW,(0:Int)⟩,false=true⟩
 refine iI (fun hc8=> ?_) (fun hc8=> ?_)
 exact cP hK ⟨⟨((aw 1).wrap r2.z),(0:Int),x2,aW,(0:Int)⟩,false=true⟩
 refine iI (fun hc9=> ?_) (fun hc9=> ?_)
 refine iI (p:=(r1.l.length:Int)=(3:Int)) (fun hc10=> ?_) (fun hc10=> ?_)
 refine ay (⟨⟨((aw 1).wrap r2.z),(aw 1).wrap r3.k,x2,aW,(0:Int)⟩⟩:iw) rfl (by(try dsimp only[dZ]);first|assumption|exact xG|exact tX) fun r4 hi11=> ?_
 dsimp only[dH]at hi11
 refine aE (by simp[qL,qI,qS,qY,aC]) ?_
 exact cP hK ⟨⟨((aw 1).wrap r2.z),(aw 1).wrap r3.k,x2,aW,(0:Int)⟩,r4.q⟩
 refine aE (by simp[qL,qI,qS,qY,aC]) ?_
 exact cP hK ⟨⟨((aw 1).wrap r2.z),(aw 1).wrap r3.k,x2,aW,(0:Int)⟩,false=true⟩
 refine iI (fun hc12=> ?_) (fun hc12=> ?_)
 refine iI (p:=(r1.l.length:Int)=(3:Int)) (fun hc13=> ?_) (fun hc13=> ?_)
 refine ay (⟨⟨((aw 1).wrap r2.z),(aw 1).wrap r3.k,x2,aW,(0:Int)⟩⟩:iw) rfl (by(try dsimp only[dZ]);first|assumption|exact xG|exact tX) fun r5 hi14=> ?_
 dsimp only[dH]at hi14
 refine aE (by simp[qL,qI,qS,qY,aC]) ?_
 exact cP hK ⟨⟨((aw 1).wrap r2.z),(aw 1).wrap r3.k,x2,aW,(0:Int)⟩,r5.q⟩
 refine aE (by simp[qL,qI,qS,qY,aC]) ?_
 exact cP hK ⟨⟨((aw 1).wrap r2.z),(aw 1).wrap r3.k,x2,aW,(0:Int)⟩,false=true⟩
 refine iI (fun hc15=> ?_) (fun hc15=> ?_)
 refine iI (p:=¬(r1.l.length:Int)=(4:Int)) (fun hc16=> ?_) (fun hc16=> ?_)
 exact cP hK ⟨⟨((aw 1).wrap r2.z),(aw 1).wrap r3.k,x2,aW,(0:Int)⟩,false=true⟩
 refine mI (by(try dsimp only);first|omega|(constructor<;>omega)) ?_
 refine am (fun x3=> ?_)
 refine iI (p:=r1.l[3]?=some x3) (fun hi17=> ?_) (fun _=>rfl)
 refine ay (⟨⟨((aw 1).wrap r2.z),(aw 1).wrap r3.k,x2,x3,(0:Int)⟩⟩:iw) rfl (by(try dsimp only[dZ]);first|assumption|exact xG|exact tX) fun r6 hi18=> ?_
 dsimp only[dH]at hi18
 refine aE (by simp[qL,qI,qS,qY,aC]) ?_
 exact cP hK ⟨⟨((aw 1).wrap r2.z),(aw 1).wrap r3.k,x2,x3,(0:Int)⟩,r6.q⟩
 refine iI (p:=¬(r1.l.length:Int)=(4:Int)) (fun hc19=> ?_) (fun hc19=> ?_)
 exact cP hK ⟨⟨((aw 1).wrap r2.z),(aw 1).wrap r3.k,x2,aW,(0:Int)⟩,false=true⟩
 refine mI (by(try dsimp only);first|omega|(constructor<;>omega)) ?_
 refine am (fun x4=> ?_)
 refine iI (p:=r1.l[3]?=some x4) (fun hi20=> ?_) (fun _=>rfl)
 refine ay (⟨x4,(9223372036854775807:Int)⟩:cv) rfl (by(try dsimp only[ba]);first|exact⟨by omega,by first|decide|omega⟩|exact⟨fW (by assumption) (by assumption),by decide⟩) fun r7 hi21=> ?_
 dsimp only[aU]at hi21
 refine iI (fun hc22=> ?_) (fun hc22=> ?_)
 refine ay (⟨⟨((aw 1).wrap r2.z),(aw 1).wrap r3.k,x2,aW,(aw 0).wrap r7.z⟩⟩:iw) rfl (by(try dsimp only[dZ]);first|assumption|exact xG|exact tX) fun r8 hi23=> ?_
 dsimp only[dH]at hi23
 refine aE (by simp[qL,qI,qS,qY,aC]) ?_
 exact cP hK ⟨⟨((aw 1).wrap r2.z),(aw 1).wrap r3.k,x2,aW,(aw 0).wrap r7.z⟩,r8.q⟩
 refine aE (by simp[qL,qI,qS,qY,aC]) ?_
 exact cP hK ⟨⟨((aw 1).wrap r2.z),(aw 1).wrap r3.k,x2,aW,(aw 0).wrap r7.z⟩,false=true⟩
noncomputable def gq:=bN ph 0 (ck lh (dP jb oK)) 53 [(0,22)]
theorem gi:aZ Tryz.prog gq:=aR (cM (f:=53) (k:=0) (lp:=mR) (lf:=600) bH (aQ oP) BC (by rfl) (fun b j x h=>(cG NO (fun h=>(by cases h)) h)) fun p K h=>FC p K (aa h).1 (aa h).2) oP
end Go.Proofs.Tryz
namespace Go.Proofs.Tryz
open Go Go.RowKit Go.Sy Go.Txt
set_option linter.unusedVariables false
def cR (k:Int):List UInt8:=if k=0 then [120,109] else if k=1∨k=7 then [120,121] else if k=2∨k=3∨k=4 then [105] else if k=5 then [105,97,107] else [120]
def ff (o:aI) (c:UInt8):Int:=if c=120 then o.x else if c=121 then o.y else if c=109 then o.mode else if c=105 then o.i else if c=97 then o.at_ else o.mask
def lB (n:gN) (c:UInt8):Int:=if c=120 then n.x else if c=121 then n.y else if c=109 then n.mode else if c=105 then n.i else if c=97 then n.at_ else n.mask
def iR (c:UInt8):Int:=if c=107 then 4294967295 else 1099511627776
def kR:List UInt8:=[120,121,109,105,97,107]
theorem GZ (c:UInt8):iR c≤18446744073709551615:=by unfold iR;split<;>decide
theorem ZJ (o:aI):ff o 120=o.x:=by simp[ff]
theorem ZI (o:aI):ff o 121=o.y:=by simp[ff]
theorem ZH (o:aI):ff o 109=o.mode:=by simp[ff]
theorem ZG (o:aI):ff o 105=o.i:=by simp[ff]
theorem ZF (o:aI):ff o 97=o.at_:=by simp[ff]
theorem ZE (o:aI):ff o 107=o.mask:=by simp[ff]
theorem mo1:iR 120=1099511627776:=by decide
theorem mo2:iR 121=1099511627776:=by decide
theorem mo3:iR 109=1099511627776:=by decide
theorem mo4:iR 105=1099511627776:=by decide
theorem mo5:iR 97=1099511627776:=by decide
theorem mo6:iR 107=4294967295:=by decide
theorem uu (o:aI):de o=(cR o.kind).map fun c=>Lib.itoa (ff o c):=by
 unfold de cR
 repeat' split
 all_goals simp[ff]
theorem BM {k:Int} {c:UInt8} (h:c∈cR k):c∈kR:=by
 unfold cR at h
 repeat' split at h
 all_goals
  simp only[aaM,List.not_mem_nil,or_false]at h
  rcases h with rfl|rfl|rfl<;>decide
theorem Gq {o:aI} (h:cA o) {c:UInt8} (hc:c∈cR o.kind):0≤ff o c∧ff o c≤iR c:=by
 have hm:=h.2.2.1
 have hR:=h.1
 unfold cS at hR
 unfold cR at hc
 rcases hR with h|h|h|h|h|h|h|h|h|h|h|h
 all_goals
  rw[h.1]at hc
  simp only[reduceIte,Int.reduceEq,or_true,or_false,true_or,aaM,List.not_mem_nil]at hc
  rcases hc with rfl|rfl|rfl<;>simp only[ZJ,ZI,ZH,ZG,ZF,ZE,mo1,mo2,mo3,mo4,mo5,mo6]<;>omega
theorem NC {o:aI} (h:cA o) {c:UInt8} (ha:c∈kR) (hc:c∉cR o.kind):ff o c=0:=by
 have hR:=h.1
 unfold cS at hR
 unfold cR at hc
 unfold kR at ha
 rcases hR with h|h|h|h|h|h|h|h|h|h|h|h
 all_goals
  rw[h.1]at hc
  simp only[reduceIte,Int.reduceEq,or_true,or_false,true_or,aaM,List.not_mem_nil,not_or]at hc ha
  rcases ha with rfl|rfl|rfl|rfl|rfl|rfl<;>simp only[ZJ,ZI,ZH,ZG,ZF,ZE]<;>first|omega|(exfalso;simp at hc)
def pT (w:List UInt8) (k kind:Int) (f:List UInt8):Prop:=(kind= -1∧f=[]∧∀j,0≤j→j<k→¬ll j=w)∨(0≤kind∧kind<k∧ll kind=w∧f=cR kind)
theorem ja {l:TX} {x t f:List UInt8} (j:Int) (hj:0≤j) (h:t=x) (e:l[0]?=some x) (ht:ll j=t) (hf:f=cR j):∀w,l[0]?=some w→pT w (j+1) j f:=fun w hw=>
 .inr ⟨hj,by omega,(ht.trans h).trans (aaZ (e.symm.trans hw)),hf⟩
theorem iZ {l:TX} {x t f:List UInt8} {k kind:Int} (j:Int) (g:∀w,l[0]?=some w→pT w k kind f) (hk:k=j) (h:¬t=x) (e:l[0]?=some x) (ht:ll j=t):∀w,l[0]?=some w→pT w (j+1) kind f:=fun w hw=>by
 subst hk
 obtain rfl:x=w:=aaZ (e.symm.trans hw)
 rcases g x hw with⟨a,b,c⟩|⟨a,b,c⟩
 ·refine .inl ⟨a,b,fun i h0 h1 h2=> ?_⟩
  by_cases q:i=k
  ·subst q;exact h (ht.symm.trans h2)
  ·exact c i h0 (by omega) h2
 ·exact .inr ⟨a,by omega,c⟩
def mS (l:TX) (f:List UInt8) (i:Nat) (n:gN):Prop:=(∀(j:Nat) c x,j<i→f[j]?=some c→l[j+1]?=some x→cb (iR c) x (lB n c))∧(∀c∈kR,c∉f.take i→lB n c=0)
theorem QB {l:TX} {f:List UInt8} {n:gN} (h:n.x=0∧n.y=0∧n.i=0∧n.at_=0∧n.mode=0∧n.mask=0):mS l f 0 n:=
 ⟨fun j c x h=>absurd h (Nat.not_lt_zero j),fun c _ _=>by unfold lB;repeat' split;all_goals omega⟩
theorem QC {l:TX} {f:List UInt8} {i:Nat} {n m:gN} {c:UInt8} {x:List UInt8} {v:Int} (h:mS l f i n) (hc:f[i]?=some c) (hx:l[i+1]?=some x) (hv:cb (iR c) x v) (hnd:f.Nodup) (hset:∀d∈kR,lB m d=if d=c then v else lB n d) (ha:∀d∈f,d∈kR):mS l f (i+1) m:=by
 have hi:=(List.getElem?_eq_some_iff.1 hc).1
 constructor
 ·intro j d y hj hd hy
  have hda:=ha d (aaG hd)
  rw[hset d hda]
  by_cases q:j=i
  ·subst q
   rw[hc]at hd;cases hd
   rw[hx]at hy;cases hy
   rw[if_pos rfl];exact hv
  ·have hne:¬d=c:=fun e=>by
    subst e
    have hjl:=(List.getElem?_eq_some_iff.1 hd).1
    have:=(List.getElem?_inj (i:=j) (j:=i) hjl hnd).1 (hd.trans hc.symm)
    exact q this
   rw[if_neg hne]
   exact h.1 j d y (by omega) hd hy
 ·intro d hda hd
  rw[List.take_add_one,hc]at hd
  simp only[Option.toList_some,List.mem_append,List.mem_singleton,not_or]at hd
  rw[hset d hda,if_neg hd.2]
  exact h.2 d hda hd.1
theorem Jq (k:Int):(cR k).Nodup:=by
 unfold cR
 repeat' split
 all_goals decide
def CA (s:List UInt8) (o:aI) (q:Prop):Prop:=(q→cA o∧wds 32 s=ga o)∧(¬q→∀o',cA o'→¬wds 32 s=ga o')
theorem AW {s:List UInt8} {o:aI} (h:∀o',cA o'→¬wds 32 s=ga o'):CA s o (false=true):=⟨fun q=>(by cases q),fun _=>h⟩
theorem AU {l:TX} {w f:List UInt8} {kind:Int} {o':aI} (e:l=ga o') (ho:cA o') (hw:l[0]?=some w) (h:pT w 12 kind f):o'.kind=kind∧f=cR kind:=by
 have e1:ll o'.kind=w:=by rw[e]at hw;simpa[ga] using hw
 have hk:=nB ho.1
 rcases h with⟨a,b,c⟩|⟨a,b,c,d⟩
 ·exact absurd e1 (c _ hk.1 (by omega))
 ·exact⟨ze hk ⟨a,by omega⟩ (e1.trans c.symm),d⟩
theorem PE {s w f:List UInt8} {l:TX} {kind:Int} (hl:l=wds (cq 32) s) (hw:l[0]?=some w) (h:pT w 12 kind f) (hn:kind<0):∀o',cA o'→¬wds 32 s=ga o':=fun o' ho e=>by
 have:=(AU (hl.trans e) ho hw h).1
 have:=nB ho.1
 omega
theorem PO {o:aI}:(ga o).length=1+(cR o.kind).length+o.ps.length:=by
 rw[ga,uu];simp;omega
theorem Gj {o:aI} {j:Nat} {c:UInt8} (h:(cR o.kind)[j]?=some c):(ga o)[j+1]?=some (Lib.itoa (ff o c)):=by
 have hj:=(List.getElem?_eq_some_iff.1 h).1
 rw[ga,uu,List.getElem?_cons_succ,List.getElem?_append_left (by simpa using hj),List.getElem?_map,h];rfl
theorem DZ {o:aI}:(ga o).drop (1+(cR o.kind).length)=o.ps.map aX:=by
 rw[ga,uu,Nat.add_comm 1,List.drop_succ_cons,List.drop_left' (by simp)]
theorem SK {s w f:List UInt8} {l:TX} {kind:Int} (hl:l=wds (cq 32) s) (hw:l[0]?=some w) (h:pT w 12 kind f) (hn:(l.length:Int)<1+f.length):∀o',cA o'→¬wds 32 s=ga o':=fun o' ho e=>by
 obtain⟨h1,h2⟩:=AU (hl.trans e) ho hw h
 rw[hl.trans e,PO,h1,←h2]at hn
 omega
def Dr (l:TX) (f:List UInt8):Prop:=∃(j:Nat) (c:UInt8) (x:List UInt8),f[j]?=some c∧l[j+1]?=some x∧∀z,¬cb (iR c) x z
theorem SJ {s w f:List UInt8} {l:TX} {kind:Int} (hl:l=wds (cq 32) s) (hw:l[0]?=some w) (h:pT w 12 kind f) (hb:Dr l f):∀o',cA o'→¬wds 32 s=ga o':=fun o' ho e=>by
 obtain⟨h1,h2⟩:=AU (hl.trans e) ho hw h
 obtain⟨j,c,x,b1,b2,b3⟩:=hb
 rw[h2,←h1]at b1
 rw[hl.trans e,Gj b1]at b2
 cases b2
 have hr:=Gq ho (aaG b1)
 exact b3 _ (dI hr.1 hr.2)
theorem PD {s w f:List UInt8} {l:TX} {kind:Int} {i:Nat} (hl:l=wds (cq 32) s) (hw:l[0]?=some w) (h:pT w 12 kind f) (hb:∃x∈l.drop i,∀p,dm p→¬x=aX p) (hi:i=1+f.length):∀o',cA o'→¬wds 32 s=ga o':=fun o' ho e=>by
 obtain⟨h1,h2⟩:=AU (hl.trans e) ho hw h
 obtain⟨x,hx,b⟩:=hb
 rw[hl.trans e,hi,h2,←h1,DZ]at hx
 obtain⟨p,hp,rfl⟩:=List.mem_map.1 hx
 exact b p (nA ho p hp) rfl
theorem TN {o p:aI} (h:∀c∈kR,ff o c=ff p c):o.x=p.x∧o.y=p.y∧o.i=p.i∧o.at_=p.at_∧o.mode=p.mode∧o.mask=p.mask:=
 ⟨h 120 (by decide),h 121 (by decide),h 105 (by decide),h 97 (by decide),h 109 (by decide),h 107 (by decide)⟩
theorem SM {s w f:List UInt8} {l:TX} {n:gN} {O:aI} {q:Prop} (hl:l=wds (cq 32) s) (hw:l[0]?=some w) (h:pT w 12 n.kind f) (hk0:¬n.kind<0) (hlen:¬(l.length:Int)<1+f.length) (hf:mS l f f.length n) (hps:∀p∈O.ps,dm p) (hd:l.drop (1+f.length)=O.ps.map aX)
  (hn:O.kind=n.kind∧O.x=n.x∧O.y=n.y∧O.i=n.i∧O.at_=n.at_∧O.mode=n.mode∧O.mask=n.mask) (hm:0≤n.mask∧n.mask≤4294967295)
  (hgr:(O.kind=0∧∃p,O.ps[0]?=some p∧O.grp=p.g)∨(O.grp=0∧(O.kind=0→O.ps=[]))) (hq:q↔cS O):CA s O q:=by
 obtain⟨n1,n2,n3,n4,n5,n6,n7⟩:=hn
 have hg:∀c,ff O c=lB n c:=fun c=>by unfold ff lB;rw[n2,n3,n4,n5,n6,n7]
 have hkk:ll n.kind=w∧f=cR n.kind:=by
  rcases h with⟨a,_⟩|⟨a,b,c,d⟩
  ·omega
  ·exact⟨c,d⟩
 have hl1:l=w::((f.map fun c=>Lib.itoa (ff O c))++O.ps.map aX):=by
  cases l with
  |nil=>simp at hw
  |cons w' r=>
   simp only[List.getElem?_cons_zero,aaV]at hw
   subst hw
   rw[Nat.add_comm 1,List.drop_succ_cons]at hd
   simp only[aaD]at hlen
   congr 1
   rw[←hd]
   have e:(f.map fun c=>Lib.itoa (ff O c))=r.take f.length:=by
    apply List.ext_getElem?
    intro j
    by_cases hj:j<f.length
    ·have hjr:j<r.length:=by omega
     rw[aaT hj,List.getElem?_map,List.getElem?_eq_getElem hj,List.getElem?_eq_getElem hjr]
     have:=hf.1 j f[j] r[j] hj (List.getElem?_eq_getElem hj) (by rw[List.getElem?_cons_succ,List.getElem?_eq_getElem hjr])
     simp only[Option.map_some,aaV]
     rw[hg]
     exact this.2.2.symm
    ·rw[List.getElem?_eq_none (by simpa using hj),List.getElem?_eq_none (by rw[List.length_take];omega)]
   rw[e,List.take_append_drop]
 constructor
 ·intro hq'
  have h1:=hq.1 hq'
  refine⟨⟨h1,Nw h1 (by rw[n7];exact hm) fun x hx=>(hps x hx).2⟩,?_⟩
  show wds (cq 32) s=_
  rw[←hl,hl1,ga,uu,n1,hkk.1,←hkk.2]
 ·intro hn' o' ho e
  obtain⟨k1,k2⟩:=AU (hl.trans e) ho hw h
  have e2:l=ga o':=hl.trans e
  have e3:=(DZ (o:=o'))
  rw[←e2,k1,←k2,hd]at e3
  have e4:O.ps=o'.ps:=rj hps (nA ho) e3
  have e5:∀c∈kR,ff O c=ff o' c:=fun c hc=>by
   by_cases hcf:c∈f
   ·obtain⟨j,hj⟩:=List.mem_iff_getElem?.1 hcf
    have hj2:(cR o'.kind)[j]?=some c:=by rw[k1,←k2];exact hj
    have e6:=Gj hj2
    rw[←e2]at e6
    have e7:=hf.1 j c _ (List.getElem?_eq_some_iff.1 hj).1 hj e6
    have hr:=Gq ho (aaG hj2)
    rw[hg]
    exact pF (GZ c) (GZ c) e7 (dI hr.1 hr.2)
   ·rw[hg,hf.2 c hc (by rw[List.take_length];exact hcf),NC ho hc (by rw[k1,←k2];exact hcf)]
  obtain⟨a1,a2,a3,a4,a5,a6⟩:=TN e5
  have e8:O.grp=o'.grp:=by
   have hR:=ho.1
   by_cases hkd:O.kind=0
   ·have e9:=(Bg (k1.trans (n1.symm.trans hkd))).1 hR
    obtain⟨p,p1,p2⟩:=e9.2.2.2.2.2.2.2.1
    rcases hgr with⟨_,p',h1,h2⟩|⟨_,h2⟩
    ·rw[e4,p1]at h1;cases h1
     rw[h2,p2]
    ·rw[←e4,h2 hkd]at p1;cases p1
   ·rcases hgr with⟨h1,_⟩|⟨h1,_⟩
    ·exact absurd h1 hkd
    ·rw[h1]
     have hkd':¬o'.kind=0:=by rw[k1,←n1];exact hkd
     unfold cS at hR
     rcases hR with h|h|h|h|h|h|h|h|h|h|h|h
     ·exact absurd h.1 hkd'
     all_goals omega
  refine hn' (hq.2 ((CH ?_).1 ho.1))
  simp only[cx,a1,a2,a3,a4,a5,a6,e4,e8,n1,k1]
end Go.Proofs.Tryz
namespace Go.Proofs.Tryz
open Go.Proofs.YtacomabmhnodlaaGreatDoor (uJ lz tP kg oA lT nV)
open Go Go.RowKit Go.Sy
open Go.Eng hiding ai
set_option maxRecDepth 1000000
set_option linter.unusedVariables false
set_option maxHeartbeats 4000000
open Go.Txt (wds cb)
theorem Oi {k:Int} {f:List UInt8} (h:f=cR k):∀i:Nat,i<f.length→((f.getD i 0).toNat:Int)=120∨((f.getD i 0).toNat:Int)=121∨((f.getD i 0).toNat:Int)=109∨((f.getD i 0).toNat:Int)=105∨((f.getD i 0).toNat:Int)=97∨((f.getD i 0).toNat:Int)=107:=fun i hi=>by
 have hm:f.getD i 0∈cR k:=by rw[←h];simp[List.getD,hi]
 have:=BM hm
 unfold kR at this
 simp only[aaM,List.not_mem_nil,or_false]at this
 rcases this with e|e|e|e|e|e<;>rw[e]<;>decide
theorem WX {f:List UInt8} {i:Nat} {b:Int} (hi:i<f.length) (h:((f.getD i 0).toNat:Int)=b) (hb:0≤b∧b≤255):f[i]?=some (cq b):=by
 have e:f.getD i 0=cq b:=by
  apply UInt8.toNat_inj.1
  rw[CN hb];omega
 rw[List.getElem?_eq_getElem hi,←e]
 simp[List.getD,hi]
theorem Ka {f:List UInt8} {k:Int} (h:f=cR k) {i:Nat} (hi:i<f.length):((((f.getD i 0).toNat:Int)=107)→iR (f.getD i 0)=4294967295)∧(¬(((f.getD i 0).toNat:Int)=107)→iR (f.getD i 0)=1099511627776):=by
 unfold iR
 constructor
 ·intro e
  rw[if_pos]
  apply UInt8.toNat_inj.1
  show(f.getD i 0).toNat=107
  omega
 ·intro e
  rw[if_neg]
  intro q
  apply e
  rw[q];rfl
theorem OC {l:TX} {f:List UInt8} {k:Int} (h:f=cR k) {i:Int} {x:List UInt8} {z m:Int} {q:Prop} (h0:0≤i) (hi:i<f.length) (hx:l[(1+i).toNat]?=some x) (hn:jP m x z q∧0≤z∧z≤18446744073709551615) (hq:¬q) (hm:(((f.getD i.toNat 0).toNat:Int)=107∧m=4294967295)∨(¬((f.getD i.toNat 0).toNat:Int)=107∧m=1099511627776)):Dr l f:=by
 have hi2:i.toNat<f.length:=by omega
 refine⟨i.toNat,f.getD i.toNat 0,x,by simp[List.getD,hi2],by rw[show i.toNat+1=(1+i).toNat by omega];exact hx,fun y hy=>hq (hn.1.1.2 (hn.1.2 ⟨y,?_⟩))⟩
 have e:=Ka h hi2
 rcases hm with⟨a,rfl⟩|⟨a,rfl⟩
 ·rw[e.1 a]at hy;exact hy
 ·rw[e.2 a]at hy;exact hy
theorem ti {l:TX} {f:List UInt8} {k:Int} (h:f=cR k) {i:Int} {x:List UInt8} {z m b:Int} {q:Prop} {n n':gN} (g:mS l f i.toNat n) (h0:0≤i) (hi:i<f.length) (hx:l[(1+i).toNat]?=some x) (hn:jP m x z q∧0≤z∧z≤18446744073709551615) (hq:q) (hm:(((f.getD i.toNat 0).toNat:Int)=107∧m=4294967295)∨(¬((f.getD i.toNat 0).toNat:Int)=107∧m=1099511627776))
  (hb:((f.getD i.toNat 0).toNat:Int)=b) (hbr:0≤b∧b≤255) (hset:∀d∈kR,lB n' d=if d=cq b then z else lB n d):mS l f (i+1).toNat n':=by
 have hi2:i.toNat<f.length:=by omega
 have e:=Ka h hi2
 have hc:=WX hi2 hb hbr
 have hcd:f.getD i.toNat 0=cq b:=by simp[List.getD,hc]
 rw[show(i+1).toNat=i.toNat+1 by omega]
 refine QC g hc (by rw[show i.toNat+1=(1+i).toNat by omega];exact hx) ?_ (by rw[h];exact Jq k) hset (fun d hd=>BM (h▸hd))
 have hz:=hn.1.1.1 hq
 rcases hm with⟨a,rfl⟩|⟨a,rfl⟩
 ·rw[←hcd,e.1 a];exact hz
 ·rw[←hcd,e.2 a];exact hz
theorem cB {m z:Int} {x:List UInt8} {q:Prop} (hn:jP m x z q∧0≤z∧z≤18446744073709551615) (hq:q):z≤m:=(hn.1.1.1 hq).2.1
def DJ (l:TX) (i:Nat) (ps ps2:List aB):Prop:=(∃qs,ps2=ps++qs∧(∀p∈qs,dm p)∧l.drop i=qs.map aX)∧ps2.length≤1000000
theorem Wx {l:TX} {i:Int} {ps:List aB} (h:(l.length:Int)≤i) (h2:ps.length≤1000000):DJ l i.toNat ps ps:=⟨⟨[],by simp,fun p hp=>(by cases hp),by rw[List.drop_eq_nil_of_le (by omega)];rfl⟩,h2⟩
theorem Di {l:TX} {i:Int} {x:List UInt8} (h0:0≤i) (hx:l[i.toNat]?=some x):l.drop i.toNat=x::l.drop (i+1).toNat:=by
 obtain⟨h,e⟩:=List.getElem?_eq_some_iff.1 hx
 rw[show(i+1).toNat=i.toNat+1 by omega,List.drop_eq_getElem_cons h,e]
theorem SG {l:TX} {i:Int} {x:List UInt8} {p:aB} {ps ps2:List aB} {q:Prop} (h0:0≤i) (hx:l[i.toNat]?=some x) (hp:ig x q p) (hq:q) (h:DJ l (i+1).toNat (ps++[p]) ps2):DJ l i.toNat ps ps2:=by
 obtain⟨⟨qs,a,b,c⟩,d⟩:=h
 obtain⟨p1,p2⟩:=hp.1 hq
 refine⟨⟨p::qs,by rw[a];simp,?_,by rw[Di h0 hx,List.map_cons,←c,←p2]⟩,d⟩
 intro y hy
 rcases aaM.1 hy with rfl|hy
 ·exact p1
 ·exact b y hy
theorem Wy {l:TX} {i:Int} {x:List UInt8} {p:aB} {q:Prop} (h0:0≤i) (hx:l[i.toNat]?=some x) (hp:ig x q p) (hq:¬q):∃x∈l.drop i.toNat,∀p,dm p→¬x=aX p:=⟨x,by rw[Di h0 hx];exact List.mem_cons_self,hp.2 hq⟩
theorem Ln {l:TX} {i:Int} {x:List UInt8} (h0:0≤i) (hx:l[i.toNat]?=some x) (h:∃x∈l.drop (i+1).toNat,∀p,dm p→¬x=aX p):∃x∈l.drop i.toNat,∀p,dm p→¬x=aX p:=by
 obtain⟨y,hy,h⟩:=h
 exact⟨y,by rw[Di h0 hx];exact List.mem_cons_of_mem _ hy,h⟩
theorem OJ {l:TX} {k:Int} {f:List UInt8} (h:∀w,l[0]?=some w→pT w 12 k f) (h1:(1:Int)≤l.length) (hk:¬k<0):f=cR k∧k≤11:=by
 obtain⟨w,hw⟩:∃w,l[0]?=some w:=⟨l[0],List.getElem?_eq_getElem (by omega)⟩
 rcases h w hw with⟨a,_⟩|⟨a,b,c,d⟩
 ·omega
 ·exact⟨d,by omega⟩
theorem at0 {l:TX} (h:(1:Int)≤l.length):∃w,l[0]?=some w:=⟨l[0],List.getElem?_eq_getElem (by omega)⟩
theorem LX {s:List UInt8} {l:TX} {b:Int} (h:l=wds (cq b) s) (hs:s.length≤90000):(1:Int)≤l.length∧l.length≤90001∧∀x∈l,x.length≤90000:=by
 rw[h]
 have:=List.length_pos_iff.2 (Txt.wds_ne (cq b) s)
 have h2:=tE (b:=cq b) s
 exact⟨by omega,by omega,fun x hx=>by have:=jh s x hx;omega⟩
theorem Lm {l:TX} {i:Nat} {ps:List aB} (h:DJ l i [] ps):ps.length≤1000000∧∀x∈ps,sR x:=by
 obtain⟨⟨qs,a,b,c⟩,d⟩:=h
 obtain rfl:ps=qs:=by simpa using a
 exact⟨d,fun x hx=>(b x hx).2⟩
theorem YO {l:TX} {w f:List UInt8} {k kind:Int} (h:∀w,l[0]?=some w→pT w k kind f) (e:l[0]?=some w):pT w k kind f:=h w e
theorem PF {s w f:List UInt8} {l:TX} {n:gN} {O:aI} {q:Prop} {kind:Int} {i:Nat} (hl:l=wds (cq 32) s) (hw:l[0]?=some w) (h:pT w 12 kind f) (hk0:¬kind<0) (hlen:¬(l.length:Int)<1+f.length) (hf:mS l f f.length n∧n.kind=kind∧0≤n.mask∧n.mask≤4294967295) (hp:DJ l i [] O.ps) (hi:i=1+f.length)
  (hn:O.kind=n.kind∧O.x=n.x∧O.y=n.y∧O.i=n.i∧O.at_=n.at_∧O.mode=n.mode∧O.mask=n.mask)
  (hgr:(O.kind=0∧∃p,O.ps[0]?=some p∧O.grp=p.g)∨(O.grp=0∧(O.kind=0→O.ps=[]))) (hq:q↔cS O):CA s O q:=by
 obtain⟨h1,h2,h3⟩:=hf
 obtain⟨⟨qs,a,b,c⟩,d⟩:=hp
 obtain rfl:O.ps=qs:=by simpa using a
 subst h2;subst hi
 exact SM hl hw h hk0 hlen h1 b c hn h3 hgr hq
theorem Oj (k:Int):(cR k).length≤3:=by
 unfold cR
 repeat' split
 all_goals simp
def Dp:XC:=(.aft (.seq (.seq (g_ 2 [p_ 0 20 (m_ 7),p_ 1 21 (.bin 3 0 (.t 20) (i_ 12))]) (.cond (.t 21) .skip (.exit 2))) (.seq (.pre [.fix 7 12] (.block 3 (.seq (g_ 7 [p_ 0 25 (m_ 7),c_ 1 26 51 [.t 25],p_ 2 24 (m_ 26),p_ 3 27 (.ext 0 (.t 24)),p_ 4 28 (.ext 1 (.t 24)),p_ 5 8 (m_ 27),p_ 6 9 (m_ 28)]) (.seq (g_ 5 [p_ 0 29 (m_ 8),p_ 1 30 (m_ 4),p_ 2 31 (.ixs 1 (.t 30) (i_ 0)),r_ 3 32 (l_ 31),p_ 4 33 (.bin 5 0 (.t 29) (.t 32))]) (.cond (.t 33) (.seq (g_ 3 [p_ 0 34 (m_ 7),p_ 1 35 (f_ 0 5),bd 2 (.st 1 (.t 35) (.t 34))]) (g_ 2 [p_ 0 36 (m_ 9),p_ 1 6 (m_ 36)])) .skip))))) (g_ 3 [p_ 0 22 (m_ 7),p_ 1 23 (.bin 0 0 (.t 22) (i_ 1)),p_ 2 7 (m_ 23)]))) [(0,[.can 0 [2,4,5,6,7],.upc 1 0 0,.up 6,.up 7,.can 0 [2,4,5,6,7]]),(2,[.can 0 [2,4,5,6]])])
def Aw:XC:=(.aft (.seq (.seq (g_ 4 [p_ 0 49 (m_ 10),p_ 1 50 (m_ 6),p_ 2 51 (.len 0 (.t 50)),p_ 3 52 (.bin 3 0 (.t 49) (.t 51))]) (.cond (.t 52) .skip (.exit 4))) (.seq (.block 5 (.seq (g_ 1 [p_ 0 11 (.mv (.c (.int 4 (.ofNat 1099511627776))))]) (.seq (.seq (g_ 4 [p_ 0 55 (m_ 6),p_ 1 56 (m_ 10),p_ 2 57 (.six (.t 55) (.t 56)),p_ 3 58 (.bin 3 4 (.t 57) (.c (.int 1 (.ofNat 107))))]) (.cond (.t 58) (g_ 1 [p_ 0 11 (.mv (.c (.int 4 (.ofNat 4294967295))))]) .skip)) (.seq (g_ 12 [p_ 0 60 (m_ 4),p_ 1 61 (m_ 10),p_ 2 62 (.bin 0 0 (i_ 1) (.t 61)),p_ 3 63 (.ixs 1 (.t 60) (.t 62)),r_ 4 64 (l_ 63),p_ 5 65 (m_ 11),c_ 6 66 23 [.t 64,.t 65],p_ 7 59 (m_ 66),p_ 8 67 (.ext 0 (.t 59)),p_ 9 68 (.ext 1 (.t 59)),p_ 10 12 (m_ 67),p_ 11 13 (m_ 68)]) (.seq (.seq (g_ 2 [p_ 0 69 (m_ 13),p_ 1 70 (.un 0 (.t 69))]) (.cond (.t 70) (.seq (g_ 3 [r_ 0 71 (.ld true 9 (.t 5)),bd 1 (.st 9 (.t 2) (.t 71)),p_ 2 3 (.mv (.c (.bool false)))]) .ret) .skip)) (h_ 8 [r_ 0 72 (.ld true 9 (.t 5)),p_ 1 73 (m_ 6),p_ 2 74 (m_ 10),p_ 3 75 (.six (.t 73) (.t 74)),p_ 4 76 (m_ 12),p_ 5 77 (.cnv 0 (.t 76)),c_ 6 78 52 [.t 72,.t 75,.t 77],bd 7 (.st 9 (.t 5) (.t 78))])))))) (g_ 3 [p_ 0 53 (m_ 10),p_ 1 54 (.bin 0 0 (.t 53) (i_ 1)),p_ 2 10 (m_ 54)]))) [(0,[.can 0 [2,4,5,6,10]]),(1,[.can 0 [2,3]]),(4,[.can 0 [2,4,5,6]])])
def Ar:XC:=(.aft (.seq (.seq (g_ 4 [p_ 0 82 (m_ 14),p_ 1 83 (m_ 4),p_ 2 84 (k_ 83),p_ 3 85 (.bin 3 0 (.t 82) (.t 84))]) (.cond (.t 85) .skip (.exit 6))) (.seq (.block 7 (.seq (g_ 11 [p_ 0 89 (m_ 4),p_ 1 90 (m_ 14),p_ 2 91 (.ixs 1 (.t 89) (.t 90)),r_ 3 92 (l_ 91),c_ 4 93 53 [.t 92],p_ 5 88 (m_ 93),p_ 6 94 (.ext 0 (.t 88)),p_ 7 95 (.ext 1 (.t 88)),e_ 8 15 (.al 118 [.int 1 (.ofNat 0),.int 1 (.ofNat 0),.str [],.str [],.int 0 (.ofNat 0)]),bd 9 (.st 5 (.t 15) (.t 94)),p_ 10 16 (m_ 95)]) (.seq (.seq (g_ 2 [p_ 0 96 (m_ 16),p_ 1 97 (.un 0 (.t 96))]) (.cond (.t 97) (.seq (g_ 3 [r_ 0 98 (.ld true 9 (.t 5)),bd 1 (.st 9 (.t 2) (.t 98)),p_ 2 3 (.mv (.c (.bool false)))]) .ret) .skip)) (g_ 7 [p_ 0 99 (f_ 8 5),r_ 1 100 (l_ 99),r_ 2 101 (.ld true 5 (.t 15)),e_ 3 102 (.bsl 118 5 1 [.int 1 (.ofNat 0),.int 1 (.ofNat 0),.str [],.str [],.int 0 (.ofNat 0)] [(0,5)] [.t 101]),e_ 4 103 (.app 118 5 48 (.t 100) (.t 102)),p_ 5 104 (f_ 8 5),bd 6 (.st 1 (.t 104) (.t 103))])))) (g_ 3 [p_ 0 86 (m_ 14),p_ 1 87 (.bin 0 0 (.t 86) (i_ 1)),p_ 2 14 (m_ 87)]))) [(0,[.can 0 [2,4,5,14]]),(1,[.can 0 [2,3]]),(6,[.can 0 [2,5]])])
def BD:XF:=.mk 123 (.ct 2 true 9 3) (.aft (.seq (g_ 2 [e_ 0 2 (.al 79 [.int 0 (.ofNat 0),.int 0 (.ofNat 0),.int 0 (.ofNat 0),.int 0 (.ofNat 0),.int 0 (.ofNat 0),.int 0 (.ofNat 0),.int 3 (.ofNat 0),.int 1 (.ofNat 0),.nilS]),p_ 1 3 (.mv (.c (.bool false)))]) (.seq (g_ 3 [p_ 0 17 (m_ 0),c_ 1 18 21 [.t 17,.c (.int 1 (.ofNat 32))],p_ 2 4 (m_ 18)]) (.seq (g_ 3 [p_ 0 19 (.bld [.int 0 (.ofNat 0),.int 0 (.ofNat 0),.int 0 (.ofNat 0),.int 0 (.ofNat 0),.int 0 (.ofNat 0),.int 0 (.ofNat 0),.int 3 (.ofNat 0),.int 1 (.ofNat 0),.nilS] [(0,1)] [.c (.int 0 (.negSucc 0))]),e_ 1 5 (.al 79 [.int 0 (.ofNat 0),.int 0 (.ofNat 0),.int 0 (.ofNat 0),.int 0 (.ofNat 0),.int 0 (.ofNat 0),.int 0 (.ofNat 0),.int 3 (.ofNat 0),.int 1 (.ofNat 0),.nilS]),bd 2 (.st 9 (.t 5) (.t 19))]) (.seq (g_ 1 [p_ 0 6 (.mv (.c (.str [])))]) (.seq (.seq (g_ 1 [p_ 0 7 (.mv (i_ 0))]) (.block 2 (.pre [.can 0 [2,4,5,6,7],.upc 1 0 0,.up 6,.up 7,.can 0 [2,4,5,6,7]] (.inv 0 Dp)))) (.seq (.seq (g_ 11 [p_ 0 37 (f_ 0 5),r_ 1 38 (l_ 37),p_ 2 39 (.bin 3 0 (.t 38) (i_ 0)),p_ 3 40 (m_ 39),au 4 41 40 false (m_ 4),au 5 42 40 false (k_ 41),au 6 43 40 false (m_ 6),au 7 44 40 false (.len 0 (.t 43)),au 8 45 40 false (.bin 0 0 (i_ 1) (.t 44)),au 9 46 40 false (.bin 3 0 (.t 42) (.t 45)),p_ 10 47 (.pick (.t 40) (.c (.bool true)) (.t 46))]) (.cond (.t 47) (.seq (g_ 3 [r_ 0 48 (.ld true 9 (.t 5)),bd 1 (.st 9 (.t 2) (.t 48)),p_ 2 3 (.mv (.c (.bool false)))]) .ret) .skip)) (.seq (.seq (g_ 1 [p_ 0 10 (.mv (i_ 0))]) (.block 4 (.pre [.can 0 [2,4,5,6,10],.upc 1 0 0,.upc 1 0 1,.upc 1 0 2,.upc 1 0 3,.upc 1 0 4,.upc 1 0 5,.upc 1 0 6,.up 10,.can 0 [2,4,5,6,10]] (.inv 1 Aw)))) (.seq (.seq (g_ 4 [p_ 0 79 (m_ 6),p_ 1 80 (.len 0 (.t 79)),p_ 2 81 (.bin 0 0 (i_ 1) (.t 80)),p_ 3 14 (m_ 81)]) (.block 6 (.pre [.can 0 [2,4,5,14],.cell 1 0 8 118 5 aB aF,.up 14,.can 0 [2,4,5,14]] (.inv 2 Ar)))) (.seq (.seq (g_ 9 [p_ 0 105 (f_ 0 5),r_ 1 106 (l_ 105),p_ 2 107 (.bin 3 4 (.t 106) (i_ 0)),p_ 3 108 (m_ 107),au 4 109 108 true (f_ 8 5),aY 5 110 108 true (l_ 109),au 6 111 108 true (k_ 110),au 7 112 108 true (.bin 3 2 (.t 111) (i_ 0)),p_ 8 113 (.pick (.t 108) (.t 112) (.c (.bool false)))]) (.cond (.t 113) (g_ 7 [p_ 0 114 (f_ 8 5),r_ 1 115 (l_ 114),p_ 2 116 (.ixs 5 (.t 115) (i_ 0)),p_ 3 117 (f_ 0 116),r_ 4 118 (l_ 117),p_ 5 119 (f_ 7 5),bd 6 (.st 1 (.t 119) (.t 118))]) .skip)) (.seq (.pre [.can 0 [2,5],.upc 1 0 7,.frzc 1 0 8] (h_ 5 [r_ 0 120 (.ld true 9 (.t 5)),r_ 1 121 (.ld true 9 (.t 5)),c_ 2 122 54 [.t 121],a_ 0 120 (.ld true 9 (.t 5)),bd 3 (.st 9 (.t 2) (.t 120)),p_ 4 3 (m_ 122)])) .ret)))))))))) [(0,[.cell 0 0 8 118 5 aB aF,.frzc 0 0 8,.upc 0 0 0,.upc 0 0 1,.upc 0 0 2,.upc 0 0 3,.upc 0 0 4,.upc 0 0 5,.upc 0 0 6,.upc 0 0 7,.up 3]),(1,[.cell 0 0 8 118 5 aB aF,.frzc 0 0 8,.upc 0 0 0,.upc 0 0 1,.upc 0 0 2,.upc 0 0 3,.upc 0 0 4,.upc 0 0 5,.upc 0 0 6,.upc 0 0 7,.up 3])])
theorem EY:ci Tryz.prog 25 BD=true:=by kernel_rfl
structure jg where
 h:Value
 l:List (List UInt8)
 k:Int
 kind:Int
 f:List UInt8
structure IJ where
 kind:Int
 f:List UInt8
def sU (p:jg) (r:IJ):Prop:=(∀w,p.l[0]?=some w→pT w 12 r.kind r.f)∧r.f.length≤3
noncomputable def mZ (p:jg):IL:=((.cons 7 (.sy (.int 0 p.k)) (.cons 6 (.sy (.str p.f)) (.cons 5 (.ptr 1 0) (.cons 4 (.sy (.imm p.h 1 (List UInt8) p.l aG)) (.cons 2 (.ptr 0 0) .nil))))),(.node (.node .leaf (some (.blk false 79 9 [[.sy (.int 0 p.kind),.int 0 (.ofNat 0),.int 0 (.ofNat 0),.int 0 (.ofNat 0),.int 0 (.ofNat 0),.int 0 (.ofNat 0),.int 3 (.ofNat 0),.int 1 (.ofNat 0),.nilS]])) .leaf) (some (.blk false 79 9 [[.int 0 (.ofNat 0),.int 0 (.ofNat 0),.int 0 (.ofNat 0),.int 0 (.ofNat 0),.int 0 (.ofNat 0),.int 0 (.ofNat 0),.int 3 (.ofNat 0),.int 1 (.ofNat 0),.nilS]])) .leaf),2)
noncomputable def um (p:jg) (K:KC):Bool:=ai fun r:IJ=>iP (sU p r) (K 2 (.cons 6 (.sy (.str r.f)) (.cons 5 (.ptr 1 0) (.cons 4 (.sy (.imm p.h 1 (List UInt8) p.l aG)) (.cons 2 (.ptr 0 0) .nil)))) (.node (.node .leaf (some (.blk false 79 9 [[.sy (.int 0 r.kind),.int 0 (.ofNat 0),.int 0 (.ofNat 0),.int 0 (.ofNat 0),.int 0 (.ofNat 0),.int 0 (.ofNat 0),.int 3 (.ofNat 0),.int 1 (.ofNat 0),.nilS]])) .leaf) (some (.blk false 79 9 [[.int 0 (.ofNat 0),.int 0 (.ofNat 0),.int 0 (.ofNat 0),.int 0 (.ofNat 0),.int 0 (.ofNat 0),.int 0 (.ofNat 0),.int 3 (.ofNat 0),.int 1 (.ofNat 0),.nilS]])) .leaf) 2) true
def ln (p:jg):Prop:=(0≤p.k∧p.k≤12)∧(1:Int)≤p.l.length∧(∀w,p.l[0]?=some w→pT w p.k p.kind p.f)∧p.f.length≤3
theorem QG {p:jg} {K:KC} (hK:um p K=true) (r:IJ) (h:sU p r):K 2 (.cons 6 (.sy (.str r.f)) (.cons 5 (.ptr 1 0) (.cons 4 (.sy (.imm p.h 1 (List UInt8) p.l aG)) (.cons 2 (.ptr 0 0) .nil)))) (.node (.node .leaf (some (.blk false 79 9 [[.sy (.int 0 r.kind),.int 0 (.ofNat 0),.int 0 (.ofNat 0),.int 0 (.ofNat 0),.int 0 (.ofNat 0),.int 0 (.ofNat 0),.int 3 (.ofNat 0),.int 1 (.ofNat 0),.nilS]])) .leaf) (some (.blk false 79 9 [[.int 0 (.ofNat 0),.int 0 (.ofNat 0),.int 0 (.ofNat 0),.int 0 (.ofNat 0),.int 0 (.ofNat 0),.int 0 (.ofNat 0),.int 3 (.ofNat 0),.int 1 (.ofNat 0),.nilS]])) .leaf) 2=true:=aq h (az hK r)
noncomputable def xC (p:jg) (K:KC):Bool:=ac (aC (ln p)) (um p K)
structure fT where
 h:Value
 l:List (List UInt8)
 f:List UInt8
 n:gN
 i:Int
structure yr where
 n:gN
structure qR where
 n:gN
def Gd (p:fT) (r:yr):Prop:=mS p.l p.f p.f.length r.n∧r.n.kind=p.n.kind∧0≤r.n.mask∧r.n.mask≤4294967295
def DT (p:fT) (r:qR):Prop:=Dr p.l p.f
noncomputable def kH (p:fT):IL:=((.cons 10 (.sy (.int 0 p.i)) (.cons 6 (.sy (.str p.f)) (.cons 5 (.ptr 1 0) (.cons 4 (.sy (.imm p.h 1 (List UInt8) p.l aG)) (.cons 2 (.ptr 0 0) .nil))))),(.node (.node .leaf (some (.blk false 79 9 [[.sy (.int 0 p.n.kind),.sy (.int 0 p.n.x),.sy (.int 0 p.n.y),.sy (.int 0 p.n.i),.sy (.int 0 p.n.at_),.sy (.int 0 p.n.mode),.sy (.int 3 p.n.mask),.int 1 (.ofNat 0),.nilS]])) .leaf) (some (.blk false 79 9 [[.int 0 (.ofNat 0),.int 0 (.ofNat 0),.int 0 (.ofNat 0),.int 0 (.ofNat 0),.int 0 (.ofNat 0),.int 0 (.ofNat 0),.int 3 (.ofNat 0),.int 1 (.ofNat 0),.nilS]])) .leaf),2)
noncomputable def wg (p:fT) (K:KC):Bool:=ac (ai fun r:yr=>iP (Gd p r) (K 4 (.cons 6 (.sy (.str p.f)) (.cons 5 (.ptr 1 0) (.cons 4 (.sy (.imm p.h 1 (List UInt8) p.l aG)) (.cons 2 (.ptr 0 0) .nil)))) (.node (.node .leaf (some (.blk false 79 9 [[.sy (.int 0 r.n.kind),.sy (.int 0 r.n.x),.sy (.int 0 r.n.y),.sy (.int 0 r.n.i),.sy (.int 0 r.n.at_),.sy (.int 0 r.n.mode),.sy (.int 3 r.n.mask),.int 1 (.ofNat 0),.nilS]])) .leaf) (some (.blk false 79 9 [[.int 0 (.ofNat 0),.int 0 (.ofNat 0),.int 0 (.ofNat 0),.int 0 (.ofNat 0),.int 0 (.ofNat 0),.int 0 (.ofNat 0),.int 3 (.ofNat 0),.int 1 (.ofNat 0),.nilS]])) .leaf) 2) true) (ai fun r:qR=>iP (DT p r) (K 1 (.cons 3 (.bool false) (.cons 2 (.ptr 0 0) .nil)) (.node .leaf (some (.blk false 79 9 [[.sy (.int 0 r.n.kind),.sy (.int 0 r.n.x),.sy (.int 0 r.n.y),.sy (.int 0 r.n.i),.sy (.int 0 r.n.at_),.sy (.int 0 r.n.mode),.sy (.int 3 r.n.mask),.int 1 (.ofNat 0),.nilS]])) .leaf) 1) true)
def jF (p:fT):Prop:=(0≤p.i∧p.i≤(p.f.length:Int))∧¬(p.l.length:Int)<1+(p.f.length:Int)∧p.f=cR p.n.kind∧mS p.l p.f p.i.toNat p.n∧(0≤p.n.mask∧p.n.mask≤4294967295)∧p.l.length≤90001∧(∀x∈p.l,x.length≤90000)
noncomputable def tN (p:fT) (K:KC):Bool:=ac (aC (jF p)) (wg p K)
structure fO where
 h:Value
 l:List (List UInt8)
 n:gN
 ps:List aB
 i:Int
structure yp where
 ps:List aB
structure vg where
 ps:List aB
def FZ (p:fO) (r:yp):Prop:=DJ p.l p.i.toNat p.ps r.ps
def DP (p:fO) (r:vg):Prop:=∃x∈p.l.drop p.i.toNat,∀p,dm p→¬x=aX p
noncomputable def kD (p:fO):IL:=((.cons 14 (.sy (.int 0 p.i)) (.cons 5 (.ptr 1 0) (.cons 4 (.sy (.imm p.h 1 (List UInt8) p.l aG)) (.cons 2 (.ptr 0 0) .nil)))),(.node (.node .leaf (some (.blk false 79 9 [[.sy (.int 0 p.n.kind),.sy (.int 0 p.n.x),.sy (.int 0 p.n.y),.sy (.int 0 p.n.i),.sy (.int 0 p.n.at_),.sy (.int 0 p.n.mode),.sy (.int 3 p.n.mask),.int 1 (.ofNat 0),.sy (.prow 2 p.ps.length)]])) .leaf) (some (.blk false 79 9 [[.int 0 (.ofNat 0),.int 0 (.ofNat 0),.int 0 (.ofNat 0),.int 0 (.ofNat 0),.int 0 (.ofNat 0),.int 0 (.ofNat 0),.int 3 (.ofNat 0),.int 1 (.ofNat 0),.nilS]])) (.node .leaf (some (.prow 118 5 aB p.ps aF)) .leaf)),3)
noncomputable def vZ (p:fO) (K:KC):Bool:=ac (ai fun r:yp=>iP (FZ p r) (K 6 (.cons 5 (.ptr 1 0) (.cons 2 (.ptr 0 0) .nil)) (.node (.node .leaf (some (.blk false 79 9 [[.sy (.int 0 p.n.kind),.sy (.int 0 p.n.x),.sy (.int 0 p.n.y),.sy (.int 0 p.n.i),.sy (.int 0 p.n.at_),.sy (.int 0 p.n.mode),.sy (.int 3 p.n.mask),.int 1 (.ofNat 0),.sy (.prow 2 r.ps.length)]])) .leaf) (some (.blk false 79 9 [[.int 0 (.ofNat 0),.int 0 (.ofNat 0),.int 0 (.ofNat 0),.int 0 (.ofNat 0),.int 0 (.ofNat 0),.int 0 (.ofNat 0),.int 3 (.ofNat 0),.int 1 (.ofNat 0),.nilS]])) (.node .leaf (some (.prow 118 5 aB r.ps aF)) .leaf)) 3) true) (ai fun r:vg=>iP (DP p r) (K 1 (.cons 3 (.bool false) (.cons 2 (.ptr 0 0) .nil)) (.node (.node .leaf (some (.prow 118 5 aB r.ps aF)) .leaf) (some (.blk false 79 9 [[.sy (.int 0 p.n.kind),.sy (.int 0 p.n.x),.sy (.int 0 p.n.y),.sy (.int 0 p.n.i),.sy (.int 0 p.n.at_),.sy (.int 0 p.n.mode),.sy (.int 3 p.n.mask),.int 1 (.ofNat 0),.sy (.prow 1 r.ps.length)]])) .leaf) 2) true)
def jB (p:fO):Prop:=0≤p.i∧(p.ps.length:Int)≤p.i∧p.i≤90010∧p.l.length≤90001∧(∀x∈p.l,x.length≤90000)
noncomputable def tI (p:fO) (K:KC):Bool:=ac (aC (jB p)) (vZ p K)
noncomputable def gJ:gO:=fun j S M nx K=>(Bool.rec ((Bool.rec ((Bool.rec (false) (aN fun p:fO=>ac (aC ((S,M,nx)=kD p)) (tI p K)) (Nat.beq j 2))) (aN fun p:fT=>ac (aC ((S,M,nx)=kH p)) (tN p K)) (Nat.beq j 1))) (aN fun p:jg=>ac (aC ((S,M,nx)=mZ p)) (xC p K)) (Nat.beq j 0))
def bT (p:jg):Nat:=(12 - p.k).toNat
noncomputable def cC (s:IL) (n:Nat) (K:KC):Bool:=aN fun q=>mP (s=mZ q∧bT q<n) (xC q K)
theorem cK {p q:jg} {K:KC} {s:IL} (hm:bT q<bT p:=by dsimp only[bT]<;>(omega)) (hp:ln q:=by dsimp only[ln]<;>(refine⟨⟨by omega,by omega⟩,g1,?_,(by first|exact g3|decide)⟩;first|exact ja 0 (by decide) (by assumption) (by assumption) (by decide) (by decide)|exact iZ 0 g2 (by assumption) (by assumption) (by assumption) (by decide)|exact ja 1 (by decide) (by assumption) (by assumption) (by decide) (by decide)|exact iZ 1 g2 (by assumption) (by assumption) (by assumption) (by decide)|exact ja 2 (by decide) (by assumption) (by assumption) (by decide) (by decide)|exact iZ 2 g2 (by assumption) (by assumption) (by assumption) (by decide)|exact ja 3 (by decide) (by assumption) (by assumption) (by decide) (by decide)|exact iZ 3 g2 (by assumption) (by assumption) (by assumption) (by decide)|exact ja 4 (by decide) (by assumption) (by assumption) (by decide) (by decide)|exact iZ 4 g2 (by assumption) (by assumption) (by assumption) (by decide)|exact ja 5 (by decide) (by assumption) (by assumption) (by decide) (by decide)|exact iZ 5 g2 (by assumption) (by assumption) (by assumption) (by decide)|exact ja 6 (by decide) (by assumption) (by assumption) (by decide) (by decide)|exact iZ 6 g2 (by assumption) (by assumption) (by assumption) (by decide)|exact ja 7 (by decide) (by assumption) (by assumption) (by decide) (by decide)|exact iZ 7 g2 (by assumption) (by assumption) (by assumption) (by decide)|exact ja 8 (by decide) (by assumption) (by assumption) (by decide) (by decide)|exact iZ 8 g2 (by assumption) (by assumption) (by assumption) (by decide)|exact ja 9 (by decide) (by assumption) (by assumption) (by decide) (by decide)|exact iZ 9 g2 (by assumption) (by assumption) (by assumption) (by decide)|exact ja 10 (by decide) (by assumption) (by assumption) (by decide) (by decide)|exact iZ 10 g2 (by assumption) (by assumption) (by assumption) (by decide)|exact ja 11 (by decide) (by assumption) (by assumption) (by decide) (by decide)|exact iZ 11 g2 (by assumption) (by assumption) (by assumption) (by decide))) (hK:um q K=true:=by exact hK) (e:s=mZ q:=by rfl):cC s (bT p) K=true:=bj q (bl ⟨e,hm⟩ (bl hp hK))
theorem RZ (p:jg) (K:KC) (hpre:ln p) (hK:um p K=true):(df (cj gq) gJ 600 Dp (mZ p).1 (mZ p).2.1 (mZ p).2.2 (fun e S M nx=>Nat.casesOn e (aN fun q:jg=>ac (aC ((S,M,nx)=mZ q∧bT q<bT p)) (xC q K)) (fun e2=>K (Nat.succ e2) S M nx)))=true:=by
 refine Eq.trans (b:=(iP (p.k<(12:Int)) (iP (p.k=0) (mP (0≤(0:Int)∧(0:Int)<(p.l.length:Int)) (ai fun x12:(List UInt8)=>iP (p.l[0]?=some x12) (iP ((([105,110,118,111,107,101]:List Nat).map aaY)=x12) (cC ((.cons 7 (.sy (.int 0 1)) (.cons 6 (.sy (.str (([120,109]:List Nat).map aaY))) (.cons 5 (.ptr 1 0) (.cons 4 (.sy (.imm p.h 1 (List UInt8) p.l aG)) (.cons 2 (.ptr 0 0) .nil))))),(.node (.node .leaf (some (.blk false 79 9 [[.sy (.int 0 0),.int 0 (.ofNat 0),.int 0 (.ofNat 0),.int 0 (.ofNat 0),.int 0 (.ofNat 0),.int 0 (.ofNat 0),.int 3 (.ofNat 0),.int 1 (.ofNat 0),.nilS]])) .leaf) (some (.blk false 79 9 [[.int 0 (.ofNat 0),.int 0 (.ofNat 0),.int 0 (.ofNat 0),.int 0 (.ofNat 0),.int 0 (.ofNat 0),.int 0 (.ofNat 0),.int 3 (.ofNat 0),.int 1 (.ofNat 0),.nilS]])) .leaf),2) (bT p) K) (cC ((.cons 7 (.sy (.int 0 1)) (.cons 6 (.sy (.str p.f)) (.cons 5 (.ptr 1 0) (.cons 4 (.sy (.imm p.h 1 (List UInt8) p.l aG)) (.cons 2 (.ptr 0 0) .nil))))),(.node (.node .leaf (some (.blk false 79 9 [[.sy (.int 0 p.kind),.int 0 (.ofNat 0),.int 0 (.ofNat 0),.int 0 (.ofNat 0),.int 0 (.ofNat 0),.int 0 (.ofNat 0),.int 3 (.ofNat 0),.int 1 (.ofNat 0),.nilS]])) .leaf) (some (.blk false 79 9 [[.int 0 (.ofNat 0),.int 0 (.ofNat 0),.int 0 (.ofNat 0),.int 0 (.ofNat 0),.int 0 (.ofNat 0),.int 0 (.ofNat 0),.int 3 (.ofNat 0),.int 1 (.ofNat 0),.nilS]])) .leaf),2) (bT p) K)) true)) (iP (p.k=1) (mP (0≤(0:Int)∧(0:Int)<(p.l.length:Int)) (ai fun x11:(List UInt8)=>iP (p.l[0]?=some x11) (iP ((([115,108,97,121]:List Nat).map aaY)=x11) (cC ((.cons 7 (.sy (.int 0 2)) (.cons 6 (.sy (.str KY)) (.cons 5 (.ptr 1 0) (.cons 4 (.sy (.imm p.h 1 (List UInt8) p.l aG)) (.cons 2 (.ptr 0 0) .nil))))),(.node (.node .leaf (some (.blk false 79 9 [[.sy (.int 0 1),.int 0 (.ofNat 0),.int 0 (.ofNat 0),.int 0 (.ofNat 0),.int 0 (.ofNat 0),.int 0 (.ofNat 0),.int 3 (.ofNat 0),.int 1 (.ofNat 0),.nilS]])) .leaf) (some (.blk false 79 9 [[.int 0 (.ofNat 0),.int 0 (.ofNat 0),.int 0 (.ofNat 0),.int 0 (.ofNat 0),.int 0 (.ofNat 0),.int 0 (.ofNat 0),.int 3 (.ofNat 0),.int 1 (.ofNat 0),.nilS]])) .leaf),2) (bT p) K) (cC ((.cons 7 (.sy (.int 0 2)) (.cons 6 (.sy (.str p.f)) (.cons 5 (.ptr 1 0) (.cons 4 (.sy (.imm p.h 1 (List UInt8) p.l aG)) (.cons 2 (.ptr 0 0) .nil))))),(.node (.node .leaf (some (.blk false 79 9 [[.sy (.int 0 p.kind),.int 0 (.ofNat 0),.int 0 (.ofNat 0),.int 0 (.ofNat 0),.int 0 (.ofNat 0),.int 0 (.ofNat 0),.int 3 (.ofNat 0),.int 1 (.ofNat 0),.nilS]])) .leaf) (some (.blk false 79 9 [[.int 0 (.ofNat 0),.int 0 (.ofNat 0),.int 0 (.ofNat 0),.int 0 (.ofNat 0),.int 0 (.ofNat 0),.int 0 (.ofNat 0),.int 3 (.ofNat 0),.int 1 (.ofNat 0),.nilS]])) .leaf),2) (bT p) K)) true)) (iP (p.k=2) (mP (0≤(0:Int)∧(0:Int)<(p.l.length:Int)) (ai fun x10:(List UInt8)=>iP (p.l[0]?=some x10) (iP ((([100,101,108,105,118,101,114]:List Nat).map aaY)=x10) (cC ((.cons 7 (.sy (.int 0 3)) (.cons 6 (.sy (.str Cr)) (.cons 5 (.ptr 1 0) (.cons 4 (.sy (.imm p.h 1 (List UInt8) p.l aG)) (.cons 2 (.ptr 0 0) .nil))))),(.node (.node .leaf (some (.blk false 79 9 [[.sy (.int 0 2),.int 0 (.ofNat 0),.int 0 (.ofNat 0),.int 0 (.ofNat 0),.int 0 (.ofNat 0),.int 0 (.ofNat 0),.int 3 (.ofNat 0),.int 1 (.ofNat 0),.nilS]])) .leaf) (some (.blk false 79 9 [[.int 0 (.ofNat 0),.int 0 (.ofNat 0),.int 0 (.ofNat 0),.int 0 (.ofNat 0),.int 0 (.ofNat 0),.int 0 (.ofNat 0),.int 3 (.ofNat 0),.int 1 (.ofNat 0),.nilS]])) .leaf),2) (bT p) K) (cC ((.cons 7 (.sy (.int 0 3)) (.cons 6 (.sy (.str p.f)) (.cons 5 (.ptr 1 0) (.cons 4 (.sy (.imm p.h 1 (List UInt8) p.l aG)) (.cons 2 (.ptr 0 0) .nil))))),(.node (.node .leaf (some (.blk false 79 9 [[.sy (.int 0 p.kind),.int 0 (.ofNat 0),.int 0 (.ofNat 0),.int 0 (.ofNat 0),.int 0 (.ofNat 0),.int 0 (.ofNat 0),.int 3 (.ofNat 0),.int 1 (.ofNat 0),.nilS]])) .leaf) (some (.blk false 79 9 [[.int 0 (.ofNat 0),.int 0 (.ofNat 0),.int 0 (.ofNat 0),.int 0 (.ofNat 0),.int 0 (.ofNat 0),.int 0 (.ofNat 0),.int 3 (.ofNat 0),.int 1 (.ofNat 0),.nilS]])) .leaf),2) (bT p) K)) true)) (iP (p.k=3) (mP (0≤(0:Int)∧(0:Int)<(p.l.length:Int)) (ai fun x9:(List UInt8)=>iP (p.l[0]?=some x9) (iP ((([100,114,111,112]:List Nat).map aaY)=x9) (cC ((.cons 7 (.sy (.int 0 4)) (.cons 6 (.sy (.str Cr)) (.cons 5 (.ptr 1 0) (.cons 4 (.sy (.imm p.h 1 (List UInt8) p.l aG)) (.cons 2 (.ptr 0 0) .nil))))),(.node (.node .leaf (some (.blk false 79 9 [[.sy (.int 0 3),.int 0 (.ofNat 0),.int 0 (.ofNat 0),.int 0 (.ofNat 0),.int 0 (.ofNat 0),.int 0 (.ofNat 0),.int 3 (.ofNat 0),.int 1 (.ofNat 0),.nilS]])) .leaf) (some (.blk false 79 9 [[.int 0 (.ofNat 0),.int 0 (.ofNat 0),.int 0 (.ofNat 0),.int 0 (.ofNat 0),.int 0 (.ofNat 0),.int 0 (.ofNat 0),.int 3 (.ofNat 0),.int 1 (.ofNat 0),.nilS]])) .leaf),2) (bT p) K) (cC ((.cons 7 (.sy (.int 0 4)) (.cons 6 (.sy (.str p.f)) (.cons 5 (.ptr 1 0) (.cons 4 (.sy (.imm p.h 1 (List UInt8) p.l aG)) (.cons 2 (.ptr 0 0) .nil))))),(.node (.node .leaf (some (.blk false 79 9 [[.sy (.int 0 p.kind),.int 0 (.ofNat 0),.int 0 (.ofNat 0),.int 0 (.ofNat 0),.int 0 (.ofNat 0),.int 0 (.ofNat 0),.int 3 (.ofNat 0),.int 1 (.ofNat 0),.nilS]])) .leaf) (some (.blk false 79 9 [[.int 0 (.ofNat 0),.int 0 (.ofNat 0),.int 0 (.ofNat 0),.int 0 (.ofNat 0),.int 0 (.ofNat 0),.int 0 (.ofNat 0),.int 3 (.ofNat 0),.int 1 (.ofNat 0),.nilS]])) .leaf),2) (bT p) K)) true)) (iP (p.k=4) (mP (0≤(0:Int)∧(0:Int)<(p.l.length:Int)) (ai fun x8:(List UInt8)=>iP (p.l[0]?=some x8) (iP ((([116,119,105,99,101]:List Nat).map aaY)=x8) (cC ((.cons 7 (.sy (.int 0 5)) (.cons 6 (.sy (.str Cr)) (.cons 5 (.ptr 1 0) (.cons 4 (.sy (.imm p.h 1 (List UInt8) p.l aG)) (.cons 2 (.ptr 0 0) .nil))))),(.node (.node .leaf (some (.blk false 79 9 [[.sy (.int 0 4),.int 0 (.ofNat 0),.int 0 (.ofNat 0),.int 0 (.ofNat 0),.int 0 (.ofNat 0),.int 0 (.ofNat 0),.int 3 (.ofNat 0),.int 1 (.ofNat 0),.nilS]])) .leaf) (some (.blk false 79 9 [[.int 0 (.ofNat 0),.int 0 (.ofNat 0),.int 0 (.ofNat 0),.int 0 (.ofNat 0),.int 0 (.ofNat 0),.int 0 (.ofNat 0),.int 3 (.ofNat 0),.int 1 (.ofNat 0),.nilS]])) .leaf),2) (bT p) K) (cC ((.cons 7 (.sy (.int 0 5)) (.cons 6 (.sy (.str p.f)) (.cons 5 (.ptr 1 0) (.cons 4 (.sy (.imm p.h 1 (List UInt8) p.l aG)) (.cons 2 (.ptr 0 0) .nil))))),(.node (.node .leaf (some (.blk false 79 9 [[.sy (.int 0 p.kind),.int 0 (.ofNat 0),.int 0 (.ofNat 0),.int 0 (.ofNat 0),.int 0 (.ofNat 0),.int 0 (.ofNat 0),.int 3 (.ofNat 0),.int 1 (.ofNat 0),.nilS]])) .leaf) (some (.blk false 79 9 [[.int 0 (.ofNat 0),.int 0 (.ofNat 0),.int 0 (.ofNat 0),.int 0 (.ofNat 0),.int 0 (.ofNat 0),.int 0 (.ofNat 0),.int 3 (.ofNat 0),.int 1 (.ofNat 0),.nilS]])) .leaf),2) (bT p) K)) true)) (iP (p.k=5) (mP (0≤(0:Int)∧(0:Int)<(p.l.length:Int)) (ai fun x7:(List UInt8)=>iP (p.l[0]?=some x7) (iP (vk=x7) (cC ((.cons 7 (.sy (.int 0 6)) (.cons 6 (.sy (.str (([105,97,107]:List Nat).map aaY))) (.cons 5 (.ptr 1 0) (.cons 4 (.sy (.imm p.h 1 (List UInt8) p.l aG)) (.cons 2 (.ptr 0 0) .nil))))),(.node (.node .leaf (some (.blk false 79 9 [[.sy (.int 0 5),.int 0 (.ofNat 0),.int 0 (.ofNat 0),.int 0 (.ofNat 0),.int 0 (.ofNat 0),.int 0 (.ofNat 0),.int 3 (.ofNat 0),.int 1 (.ofNat 0),.nilS]])) .leaf) (some (.blk false 79 9 [[.int 0 (.ofNat 0),.int 0 (.ofNat 0),.int 0 (.ofNat 0),.int 0 (.ofNat 0),.int 0 (.ofNat 0),.int 0 (.ofNat 0),.int 3 (.ofNat 0),.int 1 (.ofNat 0),.nilS]])) .leaf),2) (bT p) K) (cC ((.cons 7 (.sy (.int 0 6)) (.cons 6 (.sy (.str p.f)) (.cons 5 (.ptr 1 0) (.cons 4 (.sy (.imm p.h 1 (List UInt8) p.l aG)) (.cons 2 (.ptr 0 0) .nil))))),(.node (.node .leaf (some (.blk false 79 9 [[.sy (.int 0 p.kind),.int 0 (.ofNat 0),.int 0 (.ofNat 0),.int 0 (.ofNat 0),.int 0 (.ofNat 0),.int 0 (.ofNat 0),.int 3 (.ofNat 0),.int 1 (.ofNat 0),.nilS]])) .leaf) (some (.blk false 79 9 [[.int 0 (.ofNat 0),.int 0 (.ofNat 0),.int 0 (.ofNat 0),.int 0 (.ofNat 0),.int 0 (.ofNat 0),.int 0 (.ofNat 0),.int 3 (.ofNat 0),.int 1 (.ofNat 0),.nilS]])) .leaf),2) (bT p) K)) true)) (iP (p.k=6) (mP (0≤(0:Int)∧(0:Int)<(p.l.length:Int)) (ai fun x6:(List UInt8)=>iP (p.l[0]?=some x6) (iP ((([116,105,99,107]:List Nat).map aaY)=x6) (cC ((.cons 7 (.sy (.int 0 7)) (.cons 6 (.sy (.str rW)) (.cons 5 (.ptr 1 0) (.cons 4 (.sy (.imm p.h 1 (List UInt8) p.l aG)) (.cons 2 (.ptr 0 0) .nil))))),(.node (.node .leaf (some (.blk false 79 9 [[.sy (.int 0 6),.int 0 (.ofNat 0),.int 0 (.ofNat 0),.int 0 (.ofNat 0),.int 0 (.ofNat 0),.int 0 (.ofNat 0),.int 3 (.ofNat 0),.int 1 (.ofNat 0),.nilS]])) .leaf) (some (.blk false 79 9 [[.int 0 (.ofNat 0),.int 0 (.ofNat 0),.int 0 (.ofNat 0),.int 0 (.ofNat 0),.int 0 (.ofNat 0),.int 0 (.ofNat 0),.int 3 (.ofNat 0),.int 1 (.ofNat 0),.nilS]])) .leaf),2) (bT p) K) (cC ((.cons 7 (.sy (.int 0 7)) (.cons 6 (.sy (.str p.f)) (.cons 5 (.ptr 1 0) (.cons 4 (.sy (.imm p.h 1 (List UInt8) p.l aG)) (.cons 2 (.ptr 0 0) .nil))))),(.node (.node .leaf (some (.blk false 79 9 [[.sy (.int 0 p.kind),.int 0 (.ofNat 0),.int 0 (.ofNat 0),.int 0 (.ofNat 0),.int 0 (.ofNat 0),.int 0 (.ofNat 0),.int 3 (.ofNat 0),.int 1 (.ofNat 0),.nilS]])) .leaf) (some (.blk false 79 9 [[.int 0 (.ofNat 0),.int 0 (.ofNat 0),.int 0 (.ofNat 0),.int 0 (.ofNat 0),.int 0 (.ofNat 0),.int 0 (.ofNat 0),.int 3 (.ofNat 0),.int 1 (.ofNat 0),.nilS]])) .leaf),2) (bT p) K)) true)) (iP (p.k=7) (mP (0≤(0:Int)∧(0:Int)<(p.l.length:Int)) (ai fun x5:(List UInt8)=>iP (p.l[0]?=some x5) (iP ((([115,117,115,112,101,99,116]:List Nat).map aaY)=x5) (cC ((.cons 7 (.sy (.int 0 8)) (.cons 6 (.sy (.str KY)) (.cons 5 (.ptr 1 0) (.cons 4 (.sy (.imm p.h 1 (List UInt8) p.l aG)) (.cons 2 (.ptr 0 0) .nil))))),(.node (.node .leaf (some (.blk false 79 9 [[.sy (.int 0 7),.int 0 (.ofNat 0),.int 0 (.ofNat 0),.int 0 (.ofNat 0),.int 0 (.ofNat 0),.int 0 (.ofNat 0),.int 3 (.ofNat 0),.int 1 (.ofNat 0),.nilS]])) .leaf) (some (.blk false 79 9 [[.int 0 (.ofNat 0),.int 0 (.ofNat 0),.int 0 (.ofNat 0),.int 0 (.ofNat 0),.int 0 (.ofNat 0),.int 0 (.ofNat 0),.int 3 (.ofNat 0),.int 1 (.ofNat 0),.nilS]])) .leaf),2) (bT p) K) (cC ((.cons 7 (.sy (.int 0 8)) (.cons 6 (.sy (.str p.f)) (.cons 5 (.ptr 1 0) (.cons 4 (.sy (.imm p.h 1 (List UInt8) p.l aG)) (.cons 2 (.ptr 0 0) .nil))))),(.node (.node .leaf (some (.blk false 79 9 [[.sy (.int 0 p.kind),.int 0 (.ofNat 0),.int 0 (.ofNat 0),.int 0 (.ofNat 0),.int 0 (.ofNat 0),.int 0 (.ofNat 0),.int 3 (.ofNat 0),.int 1 (.ofNat 0),.nilS]])) .leaf) (some (.blk false 79 9 [[.int 0 (.ofNat 0),.int 0 (.ofNat 0),.int 0 (.ofNat 0),.int 0 (.ofNat 0),.int 0 (.ofNat 0),.int 0 (.ofNat 0),.int 3 (.ofNat 0),.int 1 (.ofNat 0),.nilS]])) .leaf),2) (bT p) K)) true)) (iP (p.k=8) (mP (0≤(0:Int)∧(0:Int)<(p.l.length:Int)) (ai fun x4:(List UInt8)=>iP (p.l[0]?=some x4) (iP ((([99,114,97,115,104]:List Nat).map aaY)=x4) (cC ((.cons 7 (.sy (.int 0 9)) (.cons 6 (.sy (.str rW)) (.cons 5 (.ptr 1 0) (.cons 4 (.sy (.imm p.h 1 (List UInt8) p.l aG)) (.cons 2 (.ptr 0 0) .nil))))),(.node (.node .leaf (some (.blk false 79 9 [[.sy (.int 0 8),.int 0 (.ofNat 0),.int 0 (.ofNat 0),.int 0 (.ofNat 0),.int 0 (.ofNat 0),.int 0 (.ofNat 0),.int 3 (.ofNat 0),.int 1 (.ofNat 0),.nilS]])) .leaf) (some (.blk false 79 9 [[.int 0 (.ofNat 0),.int 0 (.ofNat 0),.int 0 (.ofNat 0),.int 0 (.ofNat 0),.int 0 (.ofNat 0),.int 0 (.ofNat 0),.int 3 (.ofNat 0),.int 1 (.ofNat 0),.nilS]])) .leaf),2) (bT p) K) (cC ((.cons 7 (.sy (.int 0 9)) (.cons 6 (.sy (.str p.f)) (.cons 5 (.ptr 1 0) (.cons 4 (.sy (.imm p.h 1 (List UInt8) p.l aG)) (.cons 2 (.ptr 0 0) .nil))))),(.node (.node .leaf (some (.blk false 79 9 [[.sy (.int 0 p.kind),.int 0 (.ofNat 0),.int 0 (.ofNat 0),.int 0 (.ofNat 0),.int 0 (.ofNat 0),.int 0 (.ofNat 0),.int 3 (.ofNat 0),.int 1 (.ofNat 0),.nilS]])) .leaf) (some (.blk false 79 9 [[.int 0 (.ofNat 0),.int 0 (.ofNat 0),.int 0 (.ofNat 0),.int 0 (.ofNat 0),.int 0 (.ofNat 0),.int 0 (.ofNat 0),.int 3 (.ofNat 0),.int 1 (.ofNat 0),.nilS]])) .leaf),2) (bT p) K)) true)) (iP (p.k=9) (mP (0≤(0:Int)∧(0:Int)<(p.l.length:Int)) (ai fun x3:(List UInt8)=>iP (p.l[0]?=some x3) (iP ((([114,101,115,116,97,114,116]:List Nat).map aaY)=x3) (cC ((.cons 7 (.sy (.int 0 10)) (.cons 6 (.sy (.str rW)) (.cons 5 (.ptr 1 0) (.cons 4 (.sy (.imm p.h 1 (List UInt8) p.l aG)) (.cons 2 (.ptr 0 0) .nil))))),(.node (.node .leaf (some (.blk false 79 9 [[.sy (.int 0 9),.int 0 (.ofNat 0),.int 0 (.ofNat 0),.int 0 (.ofNat 0),.int 0 (.ofNat 0),.int 0 (.ofNat 0),.int 3 (.ofNat 0),.int 1 (.ofNat 0),.nilS]])) .leaf) (some (.blk false 79 9 [[.int 0 (.ofNat 0),.int 0 (.ofNat 0),.int 0 (.ofNat 0),.int 0 (.ofNat 0),.int 0 (.ofNat 0),.int 0 (.ofNat 0),.int 3 (.ofNat 0),.int 1 (.ofNat 0),.nilS]])) .leaf),2) (bT p) K) (cC ((.cons 7 (.sy (.int 0 10)) (.cons 6 (.sy (.str p.f)) (.cons 5 (.ptr 1 0) (.cons 4 (.sy (.imm p.h 1 (List UInt8) p.l aG)) (.cons 2 (.ptr 0 0) .nil))))),(.node (.node .leaf (some (.blk false 79 9 [[.sy (.int 0 p.kind),.int 0 (.ofNat 0),.int 0 (.ofNat 0),.int 0 (.ofNat 0),.int 0 (.ofNat 0),.int 0 (.ofNat 0),.int 3 (.ofNat 0),.int 1 (.ofNat 0),.nilS]])) .leaf) (some (.blk false 79 9 [[.int 0 (.ofNat 0),.int 0 (.ofNat 0),.int 0 (.ofNat 0),.int 0 (.ofNat 0),.int 0 (.ofNat 0),.int 0 (.ofNat 0),.int 3 (.ofNat 0),.int 1 (.ofNat 0),.nilS]])) .leaf),2) (bT p) K)) true)) (iP (p.k=10) (mP (0≤(0:Int)∧(0:Int)<(p.l.length:Int)) (ai fun x2:(List UInt8)=>iP (p.l[0]?=some x2) (iP ((([106,111,105,110]:List Nat).map aaY)=x2) (cC ((.cons 7 (.sy (.int 0 11)) (.cons 6 (.sy (.str rW)) (.cons 5 (.ptr 1 0) (.cons 4 (.sy (.imm p.h 1 (List UInt8) p.l aG)) (.cons 2 (.ptr 0 0) .nil))))),(.node (.node .leaf (some (.blk false 79 9 [[.sy (.int 0 10),.int 0 (.ofNat 0),.int 0 (.ofNat 0),.int 0 (.ofNat 0),.int 0 (.ofNat 0),.int 0 (.ofNat 0),.int 3 (.ofNat 0),.int 1 (.ofNat 0),.nilS]])) .leaf) (some (.blk false 79 9 [[.int 0 (.ofNat 0),.int 0 (.ofNat 0),.int 0 (.ofNat 0),.int 0 (.ofNat 0),.int 0 (.ofNat 0),.int 0 (.ofNat 0),.int 3 (.ofNat 0),.int 1 (.ofNat 0),.nilS]])) .leaf),2) (bT p) K) (cC ((.cons 7 (.sy (.int 0 11)) (.cons 6 (.sy (.str p.f)) (.cons 5 (.ptr 1 0) (.cons 4 (.sy (.imm p.h 1 (List UInt8) p.l aG)) (.cons 2 (.ptr 0 0) .nil))))),(.node (.node .leaf (some (.blk false 79 9 [[.sy (.int 0 p.kind),.int 0 (.ofNat 0),.int 0 (.ofNat 0),.int 0 (.ofNat 0),.int 0 (.ofNat 0),.int 0 (.ofNat 0),.int 3 (.ofNat 0),.int 1 (.ofNat 0),.nilS]])) .leaf) (some (.blk false 79 9 [[.int 0 (.ofNat 0),.int 0 (.ofNat 0),.int 0 (.ofNat 0),.int 0 (.ofNat 0),.int 0 (.ofNat 0),.int 0 (.ofNat 0),.int 3 (.ofNat 0),.int 1 (.ofNat 0),.nilS]])) .leaf),2) (bT p) K)) true)) (iP (p.k=11) (mP (0≤(0:Int)∧(0:Int)<(p.l.length:Int)) (ai fun x1:(List UInt8)=>iP (p.l[0]?=some x1) (iP ((([108,101,97,118,101]:List Nat).map aaY)=x1) (cC ((.cons 7 (.sy (.int 0 12)) (.cons 6 (.sy (.str rW)) (.cons 5 (.ptr 1 0) (.cons 4 (.sy (.imm p.h 1 (List UInt8) p.l aG)) (.cons 2 (.ptr 0 0) .nil))))),(.node (.node .leaf (some (.blk false 79 9 [[.sy (.int 0 11),.int 0 (.ofNat 0),.int 0 (.ofNat 0),.int 0 (.ofNat 0),.int 0 (.ofNat 0),.int 0 (.ofNat 0),.int 3 (.ofNat 0),.int 1 (.ofNat 0),.nilS]])) .leaf) (some (.blk false 79 9 [[.int 0 (.ofNat 0),.int 0 (.ofNat 0),.int 0 (.ofNat 0),.int 0 (.ofNat 0),.int 0 (.ofNat 0),.int 0 (.ofNat 0),.int 3 (.ofNat 0),.int 1 (.ofNat 0),.nilS]])) .leaf),2) (bT p) K) (cC ((.cons 7 (.sy (.int 0 12)) (.cons 6 (.sy (.str p.f)) (.cons 5 (.ptr 1 0) (.cons 4 (.sy (.imm p.h 1 (List UInt8) p.l aG)) (.cons 2 (.ptr 0 0) .nil))))),(.node (.node .leaf (some (.blk false 79 9 [[.sy (.int 0 p.kind),.int 0 (.ofNat 0),.int 0 (.ofNat 0),.int 0 (.ofNat 0),.int 0 (.ofNat 0),.int 0 (.ofNat 0),.int 3 (.ofNat 0),.int 1 (.ofNat 0),.nilS]])) .leaf) (some (.blk false 79 9 [[.int 0 (.ofNat 0),.int 0 (.ofNat 0),.int 0 (.ofNat 0),.int 0 (.ofNat 0),.int 0 (.ofNat 0),.int 0 (.ofNat 0),.int 3 (.ofNat 0),.int 1 (.ofNat 0),.nilS]])) .leaf),2) (bT p) K)) true)) (mP (False) (true)))))))))))))) (K 2 (.cons 6 (.sy (.str p.f)) (.cons 5 (.ptr 1 0) (.cons 4 (.sy (.imm p.h 1 (List UInt8) p.l aG)) (.cons 2 (.ptr 0 0) .nil)))) (.node (.node .leaf (some (.blk false 79 9 [[.sy (.int 0 p.kind),.int 0 (.ofNat 0),.int 0 (.ofNat 0),.int 0 (.ofNat 0),.int 0 (.ofNat 0),.int 0 (.ofNat 0),.int 3 (.ofNat 0),.int 1 (.ofNat 0),.nilS]])) .leaf) (some (.blk false 79 9 [[.int 0 (.ofNat 0),.int 0 (.ofNat 0),.int 0 (.ofNat 0),.int 0 (.ofNat 0),.int 0 (.ofNat 0),.int 0 (.ofNat 0),.int 3 (.ofNat 0),.int 1 (.ofNat 0),.nilS]])) .leaf) 2))) (by kernel_rfl) ?_
 dsimp only[ln]at hpre
 obtain⟨g0,g1,g2,g3⟩:=hpre
 refine iI (fun hc1=> ?_) (fun hc1=> ?_)
 refine iI (fun hc2=> ?_) (fun hc2=> ?_)
 refine ed ?_
 refine am (fun x12=> ?_)
 refine iI (fun hi3=> ?_) (fun _=>rfl)
 refine iI (fun hc4=> ?_) (fun hc4=> ?_)
 exact cK (q:=⟨p.h,p.l,(1:Int),(0:Int),([120,109]:List Nat).map aaY⟩)
 exact cK (q:=⟨p.h,p.l,(1:Int),p.kind,p.f⟩)
 refine iI (fun hc5=> ?_) (fun hc5=> ?_)
 refine ed ?_
 refine am (fun x11=> ?_)
 refine iI (fun hi6=> ?_) (fun _=>rfl)
 refine iI (fun hc7=> ?_) (fun hc7=> ?_)
 exact cK (q:=⟨p.h,p.l,(2:Int),(1:Int),KY⟩)
 exact cK (q:=⟨p.h,p.l,(2:Int),p.kind,p.f⟩)
 refine iI (fun hc8=> ?_) (fun hc8=> ?_)
 refine ed ?_
 refine am (fun x10=> ?_)
 refine iI (fun hi9=> ?_) (fun _=>rfl)
 refine iI (fun hc10=> ?_) (fun hc10=> ?_)
 exact cK (q:=⟨p.h,p.l,(3:Int),(2:Int),Cr⟩)
 exact cK (q:=⟨p.h,p.l,(3:Int),p.kind,p.f⟩)
 refine iI (fun hc11=> ?_) (fun hc11=> ?_)
 refine ed ?_
 refine am (fun x9=> ?_)
 refine iI (fun hi12=> ?_) (fun _=>rfl)
 refine iI (fun hc13=> ?_) (fun hc13=> ?_)
 exact cK (q:=⟨p.h,p.l,(4:Int),(3:Int),Cr⟩)
 exact cK (q:=⟨p.h,p.l,(4:Int),p.kind,p.f⟩)
 refine iI (fun hc14=> ?_) (fun hc14=> ?_)
 refine ed ?_
 refine am (fun x8=> ?_)
 refine iI (fun hi15=> ?_) (fun _=>rfl)
 refine iI (fun hc16=> ?_) (fun hc16=> ?_)
 exact cK (q:=⟨p.h,p.l,(5:Int),(4:Int),Cr⟩)
 exact cK (q:=⟨p.h,p.l,(5:Int),p.kind,p.f⟩)
 refine iI (fun hc17=> ?_) (fun hc17=> ?_)
 refine ed ?_
 refine am (fun x7=> ?_)
 refine iI (fun hi18=> ?_) (fun _=>rfl)
 refine iI (fun hc19=> ?_) (fun hc19=> ?_)
 exact cK (q:=⟨p.h,p.l,(6:Int),(5:Int),([105,97,107]:List Nat).map aaY⟩)
 exact cK (q:=⟨p.h,p.l,(6:Int),p.kind,p.f⟩)
 refine iI (fun hc20=> ?_) (fun hc20=> ?_)
 refine ed ?_
 refine am (fun x6=> ?_)
 refine iI (fun hi21=> ?_) (fun _=>rfl)
 refine iI (fun hc22=> ?_) (fun hc22=> ?_)
 exact cK (q:=⟨p.h,p.l,(7:Int),(6:Int),rW⟩)
 exact cK (q:=⟨p.h,p.l,(7:Int),p.kind,p.f⟩)
 refine iI (fun hc23=> ?_) (fun hc23=> ?_)
 refine ed ?_
 refine am (fun x5=> ?_)
 refine iI (fun hi24=> ?_) (fun _=>rfl)
 refine iI (fun hc25=> ?_) (fun hc25=> ?_)
 exact cK (q:=⟨p.h,p.l,(8:Int),(7:Int),KY⟩)
 exact cK (q:=⟨p.h,p.l,(8:Int),p.kind,p.f⟩)
 refine iI (fun hc26=> ?_) (fun hc26=> ?_)
 refine ed ?_
 refine am (fun x4=> ?_)
 refine iI (fun hi27=> ?_) (fun _=>rfl)
 refine iI (fun hc28=> ?_) (fun hc28=> ?_)
 exact cK (q:=⟨p.h,p.l,(9:Int),(8:Int),rW⟩)
 exact cK (q:=⟨p.h,p.l,(9:Int),p.kind,p.f⟩)
 refine iI (fun hc29=> ?_) (fun hc29=> ?_)
 refine ed ?_
 refine am (fun x3=> ?_)
 refine iI (fun hi30=> ?_) (fun _=>rfl)
 refine iI (fun hc31=> ?_) (fun hc31=> ?_)
 exact cK (q:=⟨p.h,p.l,(10:Int),(9:Int),rW⟩)
 exact cK (q:=⟨p.h,p.l,(10:Int),p.kind,p.f⟩)
 refine iI (fun hc32=> ?_) (fun hc32=> ?_)
 refine ed ?_
 refine am (fun x2=> ?_)
 refine iI (fun hi33=> ?_) (fun _=>rfl)
 refine iI (fun hc34=> ?_) (fun hc34=> ?_)
 exact cK (q:=⟨p.h,p.l,(11:Int),(10:Int),rW⟩)
 exact cK (q:=⟨p.h,p.l,(11:Int),p.kind,p.f⟩)
 refine iI (fun hc35=> ?_) (fun hc35=> ?_)
 refine ed ?_
 refine am (fun x1=> ?_)
 refine iI (fun hi36=> ?_) (fun _=>rfl)
 refine iI (fun hc37=> ?_) (fun hc37=> ?_)
 exact cK (q:=⟨p.h,p.l,(12:Int),(11:Int),rW⟩)
 exact cK (q:=⟨p.h,p.l,(12:Int),p.kind,p.f⟩)
 refine ed ?_
 rfl
 exact QG hK ⟨p.kind,p.f⟩ (by dsimp only[sU]<;>(have e:p.k=12:=(by omega);rw[e]at g2;exact⟨g2,g3⟩))
theorem Tt:dR Tryz.prog 123 0 gJ true 0 Dp:=by
 exact gm (lf:=600) bH (aQ gi) (by rfl) mZ bT xC (fun b j x h=>by cases h) (fun S M nx K h=>by obtain⟨p,h⟩:=bR h;exact⟨p,(aa h).1,(aa h).2⟩) (fun p K h=>RZ p K (aa h).1 (aa h).2)
def cQ (p:fT):Nat:=((p.f.length:Int) - p.i).toNat
noncomputable def eP (s:IL) (n:Nat) (K:KC):Bool:=aN fun q=>mP (s=kH q∧cQ q<n) (tN q K)
theorem fq {p q:fT} {K:KC} {s:IL} (hm:cQ q<cQ p:=by dsimp only[cQ]<;>(omega)) (hp:jF q:=by dsimp only[jF]<;>(first|(exfalso;have ha:=hal p.i.toNat (by omega);omega)|exact⟨⟨by omega,by omega⟩,g2,g3,(by first|exact ti (b:=120) g3 g4 g1 (by omega) (by assumption) (by assumption) (by first|assumption|exact Classical.not_not.1 (by assumption)) (by first|exact .inl ⟨by assumption,rfl⟩|exact .inr ⟨by assumption,rfl⟩) (by first|assumption|(have ha:=hal p.i.toNat (by omega);omega)) (by decide) (by intro d hd;simp only[kR,aaM,List.not_mem_nil,or_false]at hd;rcases hd with rfl|rfl|rfl|rfl|rfl|rfl<;>simp[lB,cq])|exact ti (b:=121) g3 g4 g1 (by omega) (by assumption) (by assumption) (by first|assumption|exact Classical.not_not.1 (by assumption)) (by first|exact .inl ⟨by assumption,rfl⟩|exact .inr ⟨by assumption,rfl⟩) (by first|assumption|(have ha:=hal p.i.toNat (by omega);omega)) (by decide) (by intro d hd;simp only[kR,aaM,List.not_mem_nil,or_false]at hd;rcases hd with rfl|rfl|rfl|rfl|rfl|rfl<;>simp[lB,cq])|exact ti (b:=109) g3 g4 g1 (by omega) (by assumption) (by assumption) (by first|assumption|exact Classical.not_not.1 (by assumption)) (by first|exact .inl ⟨by assumption,rfl⟩|exact .inr ⟨by assumption,rfl⟩) (by first|assumption|(have ha:=hal p.i.toNat (by omega);omega)) (by decide) (by intro d hd;simp only[kR,aaM,List.not_mem_nil,or_false]at hd;rcases hd with rfl|rfl|rfl|rfl|rfl|rfl<;>simp[lB,cq])|exact ti (b:=105) g3 g4 g1 (by omega) (by assumption) (by assumption) (by first|assumption|exact Classical.not_not.1 (by assumption)) (by first|exact .inl ⟨by assumption,rfl⟩|exact .inr ⟨by assumption,rfl⟩) (by first|assumption|(have ha:=hal p.i.toNat (by omega);omega)) (by decide) (by intro d hd;simp only[kR,aaM,List.not_mem_nil,or_false]at hd;rcases hd with rfl|rfl|rfl|rfl|rfl|rfl<;>simp[lB,cq])|exact ti (b:=97) g3 g4 g1 (by omega) (by assumption) (by assumption) (by first|assumption|exact Classical.not_not.1 (by assumption)) (by first|exact .inl ⟨by assumption,rfl⟩|exact .inr ⟨by assumption,rfl⟩) (by first|assumption|(have ha:=hal p.i.toNat (by omega);omega)) (by decide) (by intro d hd;simp only[kR,aaM,List.not_mem_nil,or_false]at hd;rcases hd with rfl|rfl|rfl|rfl|rfl|rfl<;>simp[lB,cq])|exact ti (b:=107) g3 g4 g1 (by omega) (by assumption) (by assumption) (by first|assumption|exact Classical.not_not.1 (by assumption)) (by first|exact .inl ⟨by assumption,rfl⟩|exact .inr ⟨by assumption,rfl⟩) (by first|assumption|(have ha:=hal p.i.toNat (by omega);omega)) (by decide) (by intro d hd;simp only[kR,aaM,List.not_mem_nil,or_false]at hd;rcases hd with rfl|rfl|rfl|rfl|rfl|rfl<;>simp[lB,cq])),(by first|exact g5|(have hq:=cB (by assumption) (Classical.not_not.1 (by assumption));omega)),g6,g7⟩)) (hK:wg q K=true:=by exact(by exact hK)) (e:s=kH q:=by rfl):eP s (cQ p) K=true:=bj q (bl ⟨e,hm⟩ (bl hp hK))
theorem Pf (p:fT) (K:KC) (hpre:jF p) (hK:wg p K=true):(df (cj gq) gJ 600 Aw (kH p).1 (kH p).2.1 (kH p).2.2 (fun e S M nx=>Nat.casesOn e (aN fun q:fT=>ac (aC ((S,M,nx)=kH q∧cQ q<cQ p)) (tN q K)) (fun e2=>K (Nat.succ e2) S M nx)))=true:=by
 refine Eq.trans (b:=(let z0:Bool:=(K 1 (.cons 3 (.bool false) (.cons 2 (.ptr 0 0) .nil)) (.node .leaf (some (.blk false 79 9 [[.sy (.int 0 p.n.kind),.sy (.int 0 p.n.x),.sy (.int 0 p.n.y),.sy (.int 0 p.n.i),.sy (.int 0 p.n.at_),.sy (.int 0 p.n.mode),.sy (.int 3 p.n.mask),.int 1 (.ofNat 0),.nilS]])) .leaf) 1);iP (p.i<(p.f.length:Int)) (mP (0≤p.i∧p.i<(p.f.length:Int)) (iP (((p.f.getD p.i.toNat 0).toNat:Int)=(107:Int)) (mP (bb 0 ((1:Int)+p.i)) (mP (0≤((1:Int)+p.i)∧((1:Int)+p.i)<(p.l.length:Int)) (ai fun x1:(List UInt8)=>iP (p.l[((1:Int)+p.i).toNat]?=some x1) (aH (([.sy (.str x1),.int 4 (.ofNat 4294967295)],.leaf,0)) cF ba aU fun p1 r1=>iP (¬r1.q) z0 (mP (0≤p.i∧p.i<(p.f.length:Int)) (mP (bb 0 r1.z) (iP (((p.f.getD p.i.toNat 0).toNat:Int)=(120:Int)) (mP (bb 0 (p.i+(1:Int))) (eP ((.cons 10 (.sy (.int 0 (p.i+(1:Int)))) (.cons 6 (.sy (.str p.f)) (.cons 5 (.ptr 1 0) (.cons 4 (.sy (.imm p.h 1 (List UInt8) p.l aG)) (.cons 2 (.ptr 0 0) .nil))))),(.node (.node .leaf (some (.blk false 79 9 [[.sy (.int 0 p.n.kind),.sy (.int 0 r1.z),.sy (.int 0 p.n.y),.sy (.int 0 p.n.i),.sy (.int 0 p.n.at_),.sy (.int 0 p.n.mode),.sy (.int 3 p.n.mask),.int 1 (.ofNat 0),.nilS]])) .leaf) (some (.blk false 79 9 [[.int 0 (.ofNat 0),.int 0 (.ofNat 0),.int 0 (.ofNat 0),.int 0 (.ofNat 0),.int 0 (.ofNat 0),.int 0 (.ofNat 0),.int 3 (.ofNat 0),.int 1 (.ofNat 0),.nilS]])) .leaf),2) (cQ p) K)) (iP (((p.f.getD p.i.toNat 0).toNat:Int)=(121:Int)) (mP (bb 0 (p.i+(1:Int))) (eP ((.cons 10 (.sy (.int 0 (p.i+(1:Int)))) (.cons 6 (.sy (.str p.f)) (.cons 5 (.ptr 1 0) (.cons 4 (.sy (.imm p.h 1 (List UInt8) p.l aG)) (.cons 2 (.ptr 0 0) .nil))))),(.node (.node .leaf (some (.blk false 79 9 [[.sy (.int 0 p.n.kind),.sy (.int 0 p.n.x),.sy (.int 0 r1.z),.sy (.int 0 p.n.i),.sy (.int 0 p.n.at_),.sy (.int 0 p.n.mode),.sy (.int 3 p.n.mask),.int 1 (.ofNat 0),.nilS]])) .leaf) (some (.blk false 79 9 [[.int 0 (.ofNat 0),.int 0 (.ofNat 0),.int 0 (.ofNat 0),.int 0 (.ofNat 0),.int 0 (.ofNat 0),.int 0 (.ofNat 0),.int 3 (.ofNat 0),.int 1 (.ofNat 0),.nilS]])) .leaf),2) (cQ p) K)) (iP (((p.f.getD p.i.toNat 0).toNat:Int)=(109:Int)) (mP (bb 0 (p.i+(1:Int))) (eP ((.cons 10 (.sy (.int 0 (p.i+(1:Int)))) (.cons 6 (.sy (.str p.f)) (.cons 5 (.ptr 1 0) (.cons 4 (.sy (.imm p.h 1 (List UInt8) p.l aG)) (.cons 2 (.ptr 0 0) .nil))))),(.node (.node .leaf (some (.blk false 79 9 [[.sy (.int 0 p.n.kind),.sy (.int 0 p.n.x),.sy (.int 0 p.n.y),.sy (.int 0 p.n.i),.sy (.int 0 p.n.at_),.sy (.int 0 r1.z),.sy (.int 3 p.n.mask),.int 1 (.ofNat 0),.nilS]])) .leaf) (some (.blk false 79 9 [[.int 0 (.ofNat 0),.int 0 (.ofNat 0),.int 0 (.ofNat 0),.int 0 (.ofNat 0),.int 0 (.ofNat 0),.int 0 (.ofNat 0),.int 3 (.ofNat 0),.int 1 (.ofNat 0),.nilS]])) .leaf),2) (cQ p) K)) (iP (((p.f.getD p.i.toNat 0).toNat:Int)=(105:Int)) (mP (bb 0 (p.i+(1:Int))) (eP ((.cons 10 (.sy (.int 0 (p.i+(1:Int)))) (.cons 6 (.sy (.str p.f)) (.cons 5 (.ptr 1 0) (.cons 4 (.sy (.imm p.h 1 (List UInt8) p.l aG)) (.cons 2 (.ptr 0 0) .nil))))),(.node (.node .leaf (some (.blk false 79 9 [[.sy (.int 0 p.n.kind),.sy (.int 0 p.n.x),.sy (.int 0 p.n.y),.sy (.int 0 r1.z),.sy (.int 0 p.n.at_),.sy (.int 0 p.n.mode),.sy (.int 3 p.n.mask),.int 1 (.ofNat 0),.nilS]])) .leaf) (some (.blk false 79 9 [[.int 0 (.ofNat 0),.int 0 (.ofNat 0),.int 0 (.ofNat 0),.int 0 (.ofNat 0),.int 0 (.ofNat 0),.int 0 (.ofNat 0),.int 3 (.ofNat 0),.int 1 (.ofNat 0),.nilS]])) .leaf),2) (cQ p) K)) (iP (((p.f.getD p.i.toNat 0).toNat:Int)=(97:Int)) (mP (bb 0 (p.i+(1:Int))) (eP ((.cons 10 (.sy (.int 0 (p.i+(1:Int)))) (.cons 6 (.sy (.str p.f)) (.cons 5 (.ptr 1 0) (.cons 4 (.sy (.imm p.h 1 (List UInt8) p.l aG)) (.cons 2 (.ptr 0 0) .nil))))),(.node (.node .leaf (some (.blk false 79 9 [[.sy (.int 0 p.n.kind),.sy (.int 0 p.n.x),.sy (.int 0 p.n.y),.sy (.int 0 p.n.i),.sy (.int 0 r1.z),.sy (.int 0 p.n.mode),.sy (.int 3 p.n.mask),.int 1 (.ofNat 0),.nilS]])) .leaf) (some (.blk false 79 9 [[.int 0 (.ofNat 0),.int 0 (.ofNat 0),.int 0 (.ofNat 0),.int 0 (.ofNat 0),.int 0 (.ofNat 0),.int 0 (.ofNat 0),.int 3 (.ofNat 0),.int 1 (.ofNat 0),.nilS]])) .leaf),2) (cQ p) K)) (mP (bb 3 r1.z) (mP (bb 0 (p.i+(1:Int))) (eP ((.cons 10 (.sy (.int 0 (p.i+(1:Int)))) (.cons 6 (.sy (.str p.f)) (.cons 5 (.ptr 1 0) (.cons 4 (.sy (.imm p.h 1 (List UInt8) p.l aG)) (.cons 2 (.ptr 0 0) .nil))))),(.node (.node .leaf (some (.blk false 79 9 [[.sy (.int 0 p.n.kind),.sy (.int 0 p.n.x),.sy (.int 0 p.n.y),.sy (.int 0 p.n.i),.sy (.int 0 p.n.at_),.sy (.int 0 p.n.mode),.sy (.int 3 r1.z),.int 1 (.ofNat 0),.nilS]])) .leaf) (some (.blk false 79 9 [[.int 0 (.ofNat 0),.int 0 (.ofNat 0),.int 0 (.ofNat 0),.int 0 (.ofNat 0),.int 0 (.ofNat 0),.int 0 (.ofNat 0),.int 3 (.ofNat 0),.int 1 (.ofNat 0),.nilS]])) .leaf),2) (cQ p) K))))))))))) true))) (mP (bb 0 ((1:Int)+p.i)) (mP (0≤((1:Int)+p.i)∧((1:Int)+p.i)<(p.l.length:Int)) (ai fun x2:(List UInt8)=>iP (p.l[((1:Int)+p.i).toNat]?=some x2) (aH (([.sy (.str x2),.int 4 (.ofNat 1099511627776)],.leaf,0)) cF ba aU fun p2 r2=>iP (¬r2.q) z0 (mP (0≤p.i∧p.i<(p.f.length:Int)) (mP (bb 0 r2.z) (iP (((p.f.getD p.i.toNat 0).toNat:Int)=(120:Int)) (mP (bb 0 (p.i+(1:Int))) (eP ((.cons 10 (.sy (.int 0 (p.i+(1:Int)))) (.cons 6 (.sy (.str p.f)) (.cons 5 (.ptr 1 0) (.cons 4 (.sy (.imm p.h 1 (List UInt8) p.l aG)) (.cons 2 (.ptr 0 0) .nil))))),(.node (.node .leaf (some (.blk false 79 9 [[.sy (.int 0 p.n.kind),.sy (.int 0 r2.z),.sy (.int 0 p.n.y),.sy (.int 0 p.n.i),.sy (.int 0 p.n.at_),.sy (.int 0 p.n.mode),.sy (.int 3 p.n.mask),.int 1 (.ofNat 0),.nilS]])) .leaf) (some (.blk false 79 9 [[.int 0 (.ofNat 0),.int 0 (.ofNat 0),.int 0 (.ofNat 0),.int 0 (.ofNat 0),.int 0 (.ofNat 0),.int 0 (.ofNat 0),.int 3 (.ofNat 0),.int 1 (.ofNat 0),.nilS]])) .leaf),2) (cQ p) K)) (iP (((p.f.getD p.i.toNat 0).toNat:Int)=(121:Int)) (mP (bb 0 (p.i+(1:Int))) (eP ((.cons 10 (.sy (.int 0 (p.i+(1:Int)))) (.cons 6 (.sy (.str p.f)) (.cons 5 (.ptr 1 0) (.cons 4 (.sy (.imm p.h 1 (List UInt8) p.l aG)) (.cons 2 (.ptr 0 0) .nil))))),(.node (.node .leaf (some (.blk false 79 9 [[.sy (.int 0 p.n.kind),.sy (.int 0 p.n.x),.sy (.int 0 r2.z),.sy (.int 0 p.n.i),.sy (.int 0 p.n.at_),.sy (.int 0 p.n.mode),.sy (.int 3 p.n.mask),.int 1 (.ofNat 0),.nilS]])) .leaf) (some (.blk false 79 9 [[.int 0 (.ofNat 0),.int 0 (.ofNat 0),.int 0 (.ofNat 0),.int 0 (.ofNat 0),.int 0 (.ofNat 0),.int 0 (.ofNat 0),.int 3 (.ofNat 0),.int 1 (.ofNat 0),.nilS]])) .leaf),2) (cQ p) K)) (iP (((p.f.getD p.i.toNat 0).toNat:Int)=(109:Int)) (mP (bb 0 (p.i+(1:Int))) (eP ((.cons 10 (.sy (.int 0 (p.i+(1:Int)))) (.cons 6 (.sy (.str p.f)) (.cons 5 (.ptr 1 0) (.cons 4 (.sy (.imm p.h 1 (List UInt8) p.l aG)) (.cons 2 (.ptr 0 0) .nil))))),(.node (.node .leaf (some (.blk false 79 9 [[.sy (.int 0 p.n.kind),.sy (.int 0 p.n.x),.sy (.int 0 p.n.y),.sy (.int 0 p.n.i),.sy (.int 0 p.n.at_),.sy (.int 0 r2.z),.sy (.int 3 p.n.mask),.int 1 (.ofNat 0),.nilS]])) .leaf) (some (.blk false 79 9 [[.int 0 (.ofNat 0),.int 0 (.ofNat 0),.int 0 (.ofNat 0),.int 0 (.ofNat 0),.int 0 (.ofNat 0),.int 0 (.ofNat 0),.int 3 (.ofNat 0),.int 1 (.ofNat 0),.nilS]])) .leaf),2) (cQ p) K)) (iP (((p.f.getD p.i.toNat 0).toNat:Int)=(105:Int)) (mP (bb 0 (p.i+(1:Int))) (eP ((.cons 10 (.sy (.int 0 (p.i+(1:Int)))) (.cons 6 (.sy (.str p.f)) (.cons 5 (.ptr 1 0) (.cons 4 (.sy (.imm p.h 1 (List UInt8) p.l aG)) (.cons 2 (.ptr 0 0) .nil))))),(.node (.node .leaf (some (.blk false 79 9 [[.sy (.int 0 p.n.kind),.sy (.int 0 p.n.x),.sy (.int 0 p.n.y),.sy (.int 0 r2.z),.sy (.int 0 p.n.at_),.sy (.int 0 p.n.mode),.sy (.int 3 p.n.mask),.int 1 (.ofNat 0),.nilS]])) .leaf) (some (.blk false 79 9 [[.int 0 (.ofNat 0),.int 0 (.ofNat 0),.int 0 (.ofNat 0),.int 0 (.ofNat 0),.int 0 (.ofNat 0),.int 0 (.ofNat 0),.int 3 (.ofNat 0),.int 1 (.ofNat 0),.nilS]])) .leaf),2) (cQ p) K)) (iP (((p.f.getD p.i.toNat 0).toNat:Int)=(97:Int)) (mP (bb 0 (p.i+(1:Int))) (eP ((.cons 10 (.sy (.int 0 (p.i+(1:Int)))) (.cons 6 (.sy (.str p.f)) (.cons 5 (.ptr 1 0) (.cons 4 (.sy (.imm p.h 1 (List UInt8) p.l aG)) (.cons 2 (.ptr 0 0) .nil))))),(.node (.node .leaf (some (.blk false 79 9 [[.sy (.int 0 p.n.kind),.sy (.int 0 p.n.x),.sy (.int 0 p.n.y),.sy (.int 0 p.n.i),.sy (.int 0 r2.z),.sy (.int 0 p.n.mode),.sy (.int 3 p.n.mask),.int 1 (.ofNat 0),.nilS]])) .leaf) (some (.blk false 79 9 [[.int 0 (.ofNat 0),.int 0 (.ofNat 0),.int 0 (.ofNat 0),.int 0 (.ofNat 0),.int 0 (.ofNat 0),.int 0 (.ofNat 0),.int 3 (.ofNat 0),.int 1 (.ofNat 0),.nilS]])) .leaf),2) (cQ p) K)) (mP (bb 3 r2.z) (mP (bb 0 (p.i+(1:Int))) (eP ((.cons 10 (.sy (.int 0 (p.i+(1:Int)))) (.cons 6 (.sy (.str p.f)) (.cons 5 (.ptr 1 0) (.cons 4 (.sy (.imm p.h 1 (List UInt8) p.l aG)) (.cons 2 (.ptr 0 0) .nil))))),(.node (.node .leaf (some (.blk false 79 9 [[.sy (.int 0 p.n.kind),.sy (.int 0 p.n.x),.sy (.int 0 p.n.y),.sy (.int 0 p.n.i),.sy (.int 0 p.n.at_),.sy (.int 0 p.n.mode),.sy (.int 3 r2.z),.int 1 (.ofNat 0),.nilS]])) .leaf) (some (.blk false 79 9 [[.int 0 (.ofNat 0),.int 0 (.ofNat 0),.int 0 (.ofNat 0),.int 0 (.ofNat 0),.int 0 (.ofNat 0),.int 0 (.ofNat 0),.int 3 (.ofNat 0),.int 1 (.ofNat 0),.nilS]])) .leaf),2) (cQ p) K))))))))))) true))))) (K 4 (.cons 6 (.sy (.str p.f)) (.cons 5 (.ptr 1 0) (.cons 4 (.sy (.imm p.h 1 (List UInt8) p.l aG)) (.cons 2 (.ptr 0 0) .nil)))) (.node (.node .leaf (some (.blk false 79 9 [[.sy (.int 0 p.n.kind),.sy (.int 0 p.n.x),.sy (.int 0 p.n.y),.sy (.int 0 p.n.i),.sy (.int 0 p.n.at_),.sy (.int 0 p.n.mode),.sy (.int 3 p.n.mask),.int 1 (.ofNat 0),.nilS]])) .leaf) (some (.blk false 79 9 [[.int 0 (.ofNat 0),.int 0 (.ofNat 0),.int 0 (.ofNat 0),.int 0 (.ofNat 0),.int 0 (.ofNat 0),.int 0 (.ofNat 0),.int 3 (.ofNat 0),.int 1 (.ofNat 0),.nilS]])) .leaf) 2))) (by kernel_rfl) ?_
 obtain⟨hK0,hKr0⟩:=aj hK
 have hK1:=hKr0
 dsimp only[jF]at hpre
 obtain⟨⟨g1,g1b⟩,g2,g3,g4,g5,g6,g7⟩:=hpre
 have hal:=Oi g3
 have hfl:=Oj p.n.kind
 rw[←g3]at hfl
 refine iI (fun hc1=> ?_) (fun hc1=> ?_)
 refine ed ?_
 refine iI (fun hc2=> ?_) (fun hc2=> ?_)
 refine mI (by simp only[bb];first|omega|(have ha:=hal p.i.toNat (by omega);have hq:=cB (by assumption) (Classical.not_not.1 (by assumption));omega)) (ed ?_)
 refine am (fun x1=> ?_)
 refine iI (fun hi3=> ?_) (fun _=>rfl)
 refine ay (⟨x1,(4294967295:Int)⟩:cv) rfl (by(try dsimp only[ba]);first|exact⟨by omega,by first|decide|omega⟩|exact⟨fW (by assumption) (by assumption),by decide⟩|exact⟨by have:=g7 _ (aaG (by assumption));omega,by decide⟩) fun r1 hi4=> ?_
 dsimp only[aU]at hi4
 refine iI (fun hc5=> ?_) (fun hc5=> ?_)
 exact aq (show Dr p.l p.f from(by exact OC g3 g1 (by omega) (by assumption) (by assumption) (by assumption) (by first|exact .inl ⟨by assumption,rfl⟩|exact .inr ⟨by assumption,rfl⟩))) (az hK1 (⟨p.n⟩:qR))
 refine ed (mI (by simp only[bb];first|omega|(have ha:=hal p.i.toNat (by omega);have hq:=cB (by assumption) (Classical.not_not.1 (by assumption));omega)) ?_)
 refine iI (fun hc6=> ?_) (fun hc6=> ?_)
 refine mI (by simp only[bb];first|omega|(have ha:=hal p.i.toNat (by omega);have hq:=cB (by assumption) (Classical.not_not.1 (by assumption));omega)) ?_
 exact fq (q:=⟨p.h,p.l,p.f,({p.n with x:=r1.z}:gN),p.i+(1:Int)⟩)
 refine iI (fun hc7=> ?_) (fun hc7=> ?_)
 refine mI (by simp only[bb];first|omega|(have ha:=hal p.i.toNat (by omega);have hq:=cB (by assumption) (Classical.not_not.1 (by assumption));omega)) ?_
 exact fq (q:=⟨p.h,p.l,p.f,({p.n with y:=r1.z}:gN),p.i+(1:Int)⟩)
 refine iI (fun hc8=> ?_) (fun hc8=> ?_)
 refine mI (by simp only[bb];first|omega|(have ha:=hal p.i.toNat (by omega);have hq:=cB (by assumption) (Classical.not_not.1 (by assumption));omega)) ?_
 exact fq (q:=⟨p.h,p.l,p.f,({p.n with mode:=r1.z}:gN),p.i+(1:Int)⟩)
 refine iI (fun hc9=> ?_) (fun hc9=> ?_)
 refine mI (by simp only[bb];first|omega|(have ha:=hal p.i.toNat (by omega);have hq:=cB (by assumption) (Classical.not_not.1 (by assumption));omega)) ?_
 exact fq (q:=⟨p.h,p.l,p.f,({p.n with i:=r1.z}:gN),p.i+(1:Int)⟩)
 refine iI (fun hc10=> ?_) (fun hc10=> ?_)
 refine mI (by simp only[bb];first|omega|(have ha:=hal p.i.toNat (by omega);have hq:=cB (by assumption) (Classical.not_not.1 (by assumption));omega)) ?_
 exact fq (q:=⟨p.h,p.l,p.f,({p.n with at_:=r1.z}:gN),p.i+(1:Int)⟩)
 refine mI (by simp only[bb];first|omega|(have ha:=hal p.i.toNat (by omega);have hq:=cB (by assumption) (Classical.not_not.1 (by assumption));omega)) (mI (by simp only[bb];first|omega|(have ha:=hal p.i.toNat (by omega);have hq:=cB (by assumption) (Classical.not_not.1 (by assumption));omega)) ?_)
 exact fq (q:=⟨p.h,p.l,p.f,({p.n with mask:=r1.z}:gN),p.i+(1:Int)⟩)
 refine mI (by simp only[bb];first|omega|(have ha:=hal p.i.toNat (by omega);have hq:=cB (by assumption) (Classical.not_not.1 (by assumption));omega)) (ed ?_)
 refine am (fun x2=> ?_)
 refine iI (fun hi11=> ?_) (fun _=>rfl)
 refine ay (⟨x2,(1099511627776:Int)⟩:cv) rfl (by(try dsimp only[ba]);first|exact⟨by omega,by first|decide|omega⟩|exact⟨fW (by assumption) (by assumption),by decide⟩|exact⟨by have:=g7 _ (aaG (by assumption));omega,by decide⟩) fun r2 hi12=> ?_
 dsimp only[aU]at hi12
 refine iI (fun hc13=> ?_) (fun hc13=> ?_)
 exact aq (show Dr p.l p.f from(by exact OC g3 g1 (by omega) (by assumption) (by assumption) (by assumption) (by first|exact .inl ⟨by assumption,rfl⟩|exact .inr ⟨by assumption,rfl⟩))) (az hK1 (⟨p.n⟩:qR))
 refine ed (mI (by simp only[bb];first|omega|(have ha:=hal p.i.toNat (by omega);have hq:=cB (by assumption) (Classical.not_not.1 (by assumption));omega)) ?_)
 refine iI (fun hc14=> ?_) (fun hc14=> ?_)
 refine mI (by simp only[bb];first|omega|(have ha:=hal p.i.toNat (by omega);have hq:=cB (by assumption) (Classical.not_not.1 (by assumption));omega)) ?_
 exact fq (q:=⟨p.h,p.l,p.f,({p.n with x:=r2.z}:gN),p.i+(1:Int)⟩)
 refine iI (fun hc15=> ?_) (fun hc15=> ?_)
 refine mI (by simp only[bb];first|omega|(have ha:=hal p.i.toNat (by omega);have hq:=cB (by assumption) (Classical.not_not.1 (by assumption));omega)) ?_
 exact fq (q:=⟨p.h,p.l,p.f,({p.n with y:=r2.z}:gN),p.i+(1:Int)⟩)
 refine iI (fun hc16=> ?_) (fun hc16=> ?_)
 refine mI (by simp only[bb];first|omega|(have ha:=hal p.i.toNat (by omega);have hq:=cB (by assumption) (Classical.not_not.1 (by assumption));omega)) ?_
 exact fq (q:=⟨p.h,p.l,p.f,({p.n with mode:=r2.z}:gN),p.i+(1:Int)⟩)
 refine iI (fun hc17=> ?_) (fun hc17=> ?_)
 refine mI (by simp only[bb];first|omega|(have ha:=hal p.i.toNat (by omega);have hq:=cB (by assumption) (Classical.not_not.1 (by assumption));omega)) ?_
 exact fq (q:=⟨p.h,p.l,p.f,({p.n with i:=r2.z}:gN),p.i+(1:Int)⟩)
 refine iI (fun hc18=> ?_) (fun hc18=> ?_)
 refine mI (by simp only[bb];first|omega|(have ha:=hal p.i.toNat (by omega);have hq:=cB (by assumption) (Classical.not_not.1 (by assumption));omega)) ?_
 exact fq (q:=⟨p.h,p.l,p.f,({p.n with at_:=r2.z}:gN),p.i+(1:Int)⟩)
 refine mI (by simp only[bb];first|omega|(have ha:=hal p.i.toNat (by omega);have hq:=cB (by assumption) (Classical.not_not.1 (by assumption));omega)) (mI (by simp only[bb];first|omega|(have ha:=hal p.i.toNat (by omega);have hq:=cB (by assumption) (Classical.not_not.1 (by assumption));omega)) ?_)
 exact fq (q:=⟨p.h,p.l,p.f,({p.n with mask:=r2.z}:gN),p.i+(1:Int)⟩)
 exact aq (show mS p.l p.f p.f.length p.n∧p.n.kind=p.n.kind∧0≤p.n.mask∧p.n.mask≤4294967295 from(by have e:p.i.toNat=p.f.length:=(by omega);rw[e]at g4;exact⟨g4,rfl,g5⟩)) (az hK0 (⟨p.n⟩:yr))
theorem Qq:dR Tryz.prog 123 0 gJ true 1 Aw:=by
 exact gm (lf:=600) bH (aQ gi) (by rfl) kH cQ tN (fun b j x h=>by cases h) (fun S M nx K h=>by obtain⟨p,h⟩:=bR h;exact⟨p,(aa h).1,(aa h).2⟩) (fun p K h=>Pf p K (aa h).1 (aa h).2)
def iM (p:fO):Nat:=((p.l.length:Int) - p.i).toNat
noncomputable def Iv (s:IL) (n:Nat) (K:KC):Bool:=aN fun q=>mP (s=kD q∧iM q<n) (tI q K)
theorem QV {p q:fO} {K:KC} {s:IL} (hm:iM q<iM p:=by dsimp only[iM]<;>(omega)) (hp:jB q:=by dsimp only[jB]<;>(exact⟨by omega,by rw[aaC,List.length_singleton];omega,by omega,g4,g5⟩)) (hK:vZ q K=true:=by exact(aE (lw hK0 fun r hz=>SG g1 (by assumption) (by assumption) (Classical.not_not.1 (by assumption)) hz) (lw hK1 fun r hz=>Ln g1 (by assumption) hz))) (e:s=kD q:=by rfl):Iv s (iM p) K=true:=bj q (bl ⟨e,hm⟩ (bl hp hK))
theorem Pa (p:fO) (K:KC) (hpre:jB p) (hK:vZ p K=true):(df (cj gq) gJ 600 Ar (kD p).1 (kD p).2.1 (kD p).2.2 (fun e S M nx=>Nat.casesOn e (aN fun q:fO=>ac (aC ((S,M,nx)=kD q∧iM q<iM p)) (tI q K)) (fun e2=>K (Nat.succ e2) S M nx)))=true:=by
 refine Eq.trans (b:=(iP (p.i<(p.l.length:Int)) (mP (0≤p.i∧p.i<(p.l.length:Int)) (ai fun x1:(List UInt8)=>iP (p.l[p.i.toNat]?=some x1) (aH (([.sy (.str x1)],.leaf,0)) lh jb jI fun p1 r1=>iP (¬r1.q) (K 1 (.cons 3 (.bool false) (.cons 2 (.ptr 0 0) .nil)) (.node (.node .leaf (some (.prow 118 5 aB p.ps aF)) .leaf) (some (.blk false 79 9 [[.sy (.int 0 p.n.kind),.sy (.int 0 p.n.x),.sy (.int 0 p.n.y),.sy (.int 0 p.n.i),.sy (.int 0 p.n.at_),.sy (.int 0 p.n.mode),.sy (.int 3 p.n.mask),.int 1 (.ofNat 0),.sy (.prow 1 p.ps.length)]])) .leaf) 2) (mP (p.ps.length=p.ps.length) (aN fun m1:List aB=>mP (ie (m1.map aF) [[.sint 1 r1.p.g,.sint 1 r1.p.k,.sstr r1.p.key,.sstr r1.p.val,.sint 0 r1.p.n]]) (mP (dW 48 (p.ps.length+m1.length)) (mP (bb 0 (p.i+(1:Int))) (Iv ((.cons 14 (.sy (.int 0 (p.i+(1:Int)))) (.cons 5 (.ptr 1 0) (.cons 4 (.sy (.imm p.h 1 (List UInt8) p.l aG)) (.cons 2 (.ptr 0 0) .nil)))),(.node (.node .leaf (some (.blk false 79 9 [[.sy (.int 0 p.n.kind),.sy (.int 0 p.n.x),.sy (.int 0 p.n.y),.sy (.int 0 p.n.i),.sy (.int 0 p.n.at_),.sy (.int 0 p.n.mode),.sy (.int 3 p.n.mask),.int 1 (.ofNat 0),.sy (.prow 2 ((p.ps++m1).length))]])) .leaf) (some (.blk false 79 9 [[.int 0 (.ofNat 0),.int 0 (.ofNat 0),.int 0 (.ofNat 0),.int 0 (.ofNat 0),.int 0 (.ofNat 0),.int 0 (.ofNat 0),.int 3 (.ofNat 0),.int 1 (.ofNat 0),.nilS]])) (.node .leaf (some (.prow 118 5 aB (p.ps++m1) aF)) .leaf)),3) (iM p) K)))))) true)) (K 6 (.cons 5 (.ptr 1 0) (.cons 2 (.ptr 0 0) .nil)) (.node (.node .leaf (some (.blk false 79 9 [[.sy (.int 0 p.n.kind),.sy (.int 0 p.n.x),.sy (.int 0 p.n.y),.sy (.int 0 p.n.i),.sy (.int 0 p.n.at_),.sy (.int 0 p.n.mode),.sy (.int 3 p.n.mask),.int 1 (.ofNat 0),.sy (.prow 2 p.ps.length)]])) .leaf) (some (.blk false 79 9 [[.int 0 (.ofNat 0),.int 0 (.ofNat 0),.int 0 (.ofNat 0),.int 0 (.ofNat 0),.int 0 (.ofNat 0),.int 0 (.ofNat 0),.int 3 (.ofNat 0),.int 1 (.ofNat 0),.nilS]])) (.node .leaf (some (.prow 118 5 aB p.ps aF)) .leaf)) 3))) (by kernel_rfl) ?_
 obtain⟨hK0,hKr0⟩:=aj hK
 have hK1:=hKr0
 dsimp only[jB]at hpre
 obtain⟨g1,g2,g3,g4,g5⟩:=hpre
 refine iI (fun hc1=> ?_) (fun hc1=> ?_)
 refine ed ?_
 refine am (fun x1=> ?_)
 refine iI (fun hi2=> ?_) (fun _=>rfl)
 have hl_x1:=g5 _ (aaG (by assumption:p.l[p.i.toNat]?=some x1))
 refine ay (⟨x1⟩:ib) rfl (by(try dsimp only[jb]);omega) fun r1 hi3=> ?_
 dsimp only[jI]at hi3
 refine iI (fun hc4=> ?_) (fun hc4=> ?_)
 exact aq (show∃x∈p.l.drop p.i.toNat,∀p,dm p→¬x=aX p from(by exact Wy g1 (by assumption) (by assumption) (by assumption))) (az hK1 (⟨p.ps⟩:vg))
 refine bi ?_
 refine bj [r1.p] ?_
 refine wI (mI (by(try dsimp only);(first|omega|(simp[dW]<;>omega))) (fe ?_))
 exact QV (q:=⟨p.h,p.l,p.n,p.ps++[r1.p],p.i+(1:Int)⟩)
 exact aq (show DJ p.l p.i.toNat p.ps p.ps from(by exact Wx (by omega) (by omega))) (az hK0 (⟨p.ps⟩:yp))
theorem Ql:dR Tryz.prog 123 0 gJ true 2 Ar:=by
 exact gm (lf:=600) bH (aQ gi) (by rfl) kD iM tI (fun b j x h=>by cases h) (fun S M nx K h=>by obtain⟨p,h⟩:=bR h;exact⟨p,(aa h).1,(aa h).2⟩) (fun p K h=>Pa p K (aa h).1 (aa h).2)
structure ka where
 s:List UInt8
structure xr where
 o:aI
 q:Prop
def mJ (p:ka) (r:xr):Prop:=CA p.s r.o r.q
noncomputable def oJ (p:ka):IE:=([.sy (.str p.s)],.leaf,0)
noncomputable def si (p:ka) (K:KE):Bool:=ai fun r:xr=>iP (mJ p r) (K (.tup [.agg [.sy (.int 0 r.o.kind),.sy (.int 0 r.o.x),.sy (.int 0 r.o.y),.sy (.int 0 r.o.i),.sy (.int 0 r.o.at_),.sy (.int 0 r.o.mode),.sy (.int 3 r.o.mask),.sy (.int 1 r.o.grp),.sy (.imm r.o.hp 5 aB r.o.ps aF)],.sy (.bool r.q)]) .leaf 0) true
def kW (p:ka):Prop:=p.s.length≤90000
theorem hC {p:ka} {K:KE} (hK:si p K=true) (r:xr) (h:mJ p r:=by dsimp only[mJ]<;>(obtain⟨w,hw⟩:=at0 (LX (by assumption) (by omega)).1;have h12:=YO (by assumption) hw;first|exact AW (PE (by assumption) hw h12 (by assumption))|exact AW (SK (by assumption) hw h12 (by assumption))|exact AW (SJ (by assumption) hw h12 (by assumption))|exact AW (PD (by assumption) hw h12 (by assumption) (by omega))|exact PF (by assumption) hw h12 (by assumption) (by assumption) (by assumption) (by assumption) (by omega) ⟨rfl,rfl,rfl,rfl,rfl,rfl,rfl⟩ (by first|exact .inl ⟨by assumption,_,by assumption,rfl⟩|exact .inr ⟨rfl,fun _=>wK (by assumption)⟩|exact .inr ⟨rfl,fun z=>absurd z (by assumption)⟩) (by assumption))):K (.tup [.agg [.sy (.int 0 r.o.kind),.sy (.int 0 r.o.x),.sy (.int 0 r.o.y),.sy (.int 0 r.o.i),.sy (.int 0 r.o.at_),.sy (.int 0 r.o.mode),.sy (.int 3 r.o.mask),.sy (.int 1 r.o.grp),.sy (.imm r.o.hp 5 aB r.o.ps aF)],.sy (.bool r.q)]) .leaf 0=true:=aq h (az hK r)
theorem KK (p:ka) (K:KE) (hpre:kW p) (hK:si p K=true):(cw 0 (cj gq) gJ 600 BD (oJ p).1 (oJ p).2.1 (oJ p).2.2 K)=true:=by
 refine Eq.trans (b:=(aH (([.sy (.str p.s),.int 1 (.ofNat 32)],.leaf,0)) eE bM ce fun p1 r1=>aH (((.cons 7 (.sy (.int 0 0)) (.cons 6 (.sy (.str aW)) (.cons 5 (.ptr 1 0) (.cons 4 (.sy (.imm r1.h 1 (List UInt8) r1.l aG)) (.cons 2 (.ptr 0 0) .nil))))),(.node (.node .leaf (some (.blk false 79 9 [[.sy (.int 0 (-1)),.int 0 (.ofNat 0),.int 0 (.ofNat 0),.int 0 (.ofNat 0),.int 0 (.ofNat 0),.int 0 (.ofNat 0),.int 3 (.ofNat 0),.int 1 (.ofNat 0),.nilS]])) .leaf) (some (.blk false 79 9 [[.int 0 (.ofNat 0),.int 0 (.ofNat 0),.int 0 (.ofNat 0),.int 0 (.ofNat 0),.int 0 (.ofNat 0),.int 0 (.ofNat 0),.int 3 (.ofNat 0),.int 1 (.ofNat 0),.nilS]])) .leaf),2)) mZ ln sU fun p2 r2=>iP (r2.kind<(0:Int)) (mP ((.nilS:AV)=(.nilS:AV)) (mP (0=([]:List aB).length) (ai fun h1:Value=>mP ((.sy (.prow 2 0):AV)=(.sy (.prow 2 0):AV)) (K (.tup [.agg [.sy (.int 0 r2.kind),.sy (.int 0 0),.sy (.int 0 0),.sy (.int 0 0),.sy (.int 0 0),.sy (.int 0 0),.sy (.int 3 0),.sy (.int 1 0),.sy (.imm h1 5 aB ([]:List aB) aF)],.sy (.bool (false=true))]) .leaf 0)))) (mP (bb 0 ((1:Int)+(r2.f.length:Int))) (iP ((p2.l.length:Int)<((1:Int)+(r2.f.length:Int))) (mP ((.nilS:AV)=(.nilS:AV)) (mP (0=([]:List aB).length) (ai fun h2:Value=>mP ((.sy (.prow 2 0):AV)=(.sy (.prow 2 0):AV)) (K (.tup [.agg [.sy (.int 0 r2.kind),.sy (.int 0 0),.sy (.int 0 0),.sy (.int 0 0),.sy (.int 0 0),.sy (.int 0 0),.sy (.int 3 0),.sy (.int 1 0),.sy (.imm h2 5 aB ([]:List aB) aF)],.sy (.bool (false=true))]) .leaf 0)))) (aN fun p3:fT=>mP (((.cons 10 (.sy (.int 0 0)) (.cons 6 (.sy (.str r2.f)) (.cons 5 (.ptr 1 0) (.cons 4 (.sy (.imm p2.h 1 (List UInt8) p2.l aG)) (.cons 2 (.ptr 0 0) .nil))))),(.node (.node .leaf (some (.blk false 79 9 [[.sy (.int 0 r2.kind),.sy (.int 0 0),.sy (.int 0 0),.sy (.int 0 0),.sy (.int 0 0),.sy (.int 0 0),.sy (.int 3 0),.int 1 (.ofNat 0),.nilS]])) .leaf) (some (.blk false 79 9 [[.int 0 (.ofNat 0),.int 0 (.ofNat 0),.int 0 (.ofNat 0),.int 0 (.ofNat 0),.int 0 (.ofNat 0),.int 0 (.ofNat 0),.int 3 (.ofNat 0),.int 1 (.ofNat 0),.nilS]])) .leaf),2)=kH p3) (mP (jF p3) (ac (ai fun r4:yr=>iP (Gd p3 r4) (mP (bb 0 ((1:Int)+(p3.f.length:Int))) (mP ((.nilS:AV)=(.nilS:AV)) (aN fun p4:fO=>mP (((.cons 14 (.sy (.int 0 ((1:Int)+(p3.f.length:Int)))) (.cons 5 (.ptr 1 0) (.cons 4 (.sy (.imm p3.h 1 (List UInt8) p3.l aG)) (.cons 2 (.ptr 0 0) .nil)))),(.node (.node .leaf (some (.blk false 79 9 [[.sy (.int 0 r4.n.kind),.sy (.int 0 r4.n.x),.sy (.int 0 r4.n.y),.sy (.int 0 r4.n.i),.sy (.int 0 r4.n.at_),.sy (.int 0 r4.n.mode),.sy (.int 3 r4.n.mask),.int 1 (.ofNat 0),.sy (.prow 2 0)]])) .leaf) (some (.blk false 79 9 [[.int 0 (.ofNat 0),.int 0 (.ofNat 0),.int 0 (.ofNat 0),.int 0 (.ofNat 0),.int 0 (.ofNat 0),.int 0 (.ofNat 0),.int 3 (.ofNat 0),.int 1 (.ofNat 0),.nilS]])) (.node .leaf (some (.prow 118 5 aB ([]:List aB) aF)) .leaf)),3)=kD p4) (mP (jB p4) (ac (ai fun r6:yp=>iP (FZ p4 r6) (iP (p4.n.kind=(0:Int)) (iP ((0:Int)<(r6.ps.length:Int)) (mP (0≤(0:Int)∧(0:Int)<(r6.ps.length:Int)) (mP (0<r6.ps.length) (ai fun x1:aB=>iP (r6.ps[0]?=some x1) (mP (r6.ps.length=r6.ps.length) (ai fun h5:Value=>mP ((.sy (.prow 2 r6.ps.length):AV)=(.sy (.prow 2 r6.ps.length):AV)) (aH (([.agg [.sy (.int 0 p4.n.kind),.sy (.int 0 p4.n.x),.sy (.int 0 p4.n.y),.sy (.int 0 p4.n.i),.sy (.int 0 p4.n.at_),.sy (.int 0 p4.n.mode),.sy (.int 3 p4.n.mask),.sy (.int 1 x1.g),.sy (.imm h5 5 aB r6.ps aF)]],.leaf,0)) vi kp mK fun p5 r7=>ac (qL [qI 0 p4.n.kind,qI 0 p4.n.x,qI 0 p4.n.y,qI 0 p4.n.i,qI 0 p4.n.at_,qI 0 p4.n.mode,qI 3 p4.n.mask,qI 1 x1.g,qY ((.imm h5 5 aB r6.ps aF))]) (mP ((.sy (.imm h5 5 aB r6.ps aF):AV)=(.sy (.imm h5 5 aB r6.ps aF):AV)) (K (.tup [.agg [.sy (.int 0 p4.n.kind),.sy (.int 0 p4.n.x),.sy (.int 0 p4.n.y),.sy (.int 0 p4.n.i),.sy (.int 0 p4.n.at_),.sy (.int 0 p4.n.mode),.sy (.int 3 p4.n.mask),.sy (.int 1 x1.g),.sy (.imm h5 5 aB r6.ps aF)],.sy (.bool r7.q)]) .leaf 0))))) true))) (mP (r6.ps.length=r6.ps.length) (ai fun h6:Value=>mP ((.sy (.prow 2 r6.ps.length):AV)=(.sy (.prow 2 r6.ps.length):AV)) (aH (([.agg [.sy (.int 0 p4.n.kind),.sy (.int 0 p4.n.x),.sy (.int 0 p4.n.y),.sy (.int 0 p4.n.i),.sy (.int 0 p4.n.at_),.sy (.int 0 p4.n.mode),.sy (.int 3 p4.n.mask),.sy (.int 1 0),.sy (.imm h6 5 aB r6.ps aF)]],.leaf,0)) vi kp mK fun p6 r8=>ac (qL [qI 0 p4.n.kind,qI 0 p4.n.x,qI 0 p4.n.y,qI 0 p4.n.i,qI 0 p4.n.at_,qI 0 p4.n.mode,qI 3 p4.n.mask,qI 1 0,qY ((.imm h6 5 aB r6.ps aF))]) (mP ((.sy (.imm h6 5 aB r6.ps aF):AV)=(.sy (.imm h6 5 aB r6.ps aF):AV)) (K (.tup [.agg [.sy (.int 0 p4.n.kind),.sy (.int 0 p4.n.x),.sy (.int 0 p4.n.y),.sy (.int 0 p4.n.i),.sy (.int 0 p4.n.at_),.sy (.int 0 p4.n.mode),.sy (.int 3 p4.n.mask),.sy (.int 1 0),.sy (.imm h6 5 aB r6.ps aF)],.sy (.bool r8.q)]) .leaf 0)))))) (mP (r6.ps.length=r6.ps.length) (ai fun h7:Value=>mP ((.sy (.prow 2 r6.ps.length):AV)=(.sy (.prow 2 r6.ps.length):AV)) (aH (([.agg [.sy (.int 0 p4.n.kind),.sy (.int 0 p4.n.x),.sy (.int 0 p4.n.y),.sy (.int 0 p4.n.i),.sy (.int 0 p4.n.at_),.sy (.int 0 p4.n.mode),.sy (.int 3 p4.n.mask),.sy (.int 1 0),.sy (.imm h7 5 aB r6.ps aF)]],.leaf,0)) vi kp mK fun p7 r9=>ac (qL [qI 0 p4.n.kind,qI 0 p4.n.x,qI 0 p4.n.y,qI 0 p4.n.i,qI 0 p4.n.at_,qI 0 p4.n.mode,qI 3 p4.n.mask,qI 1 0,qY ((.imm h7 5 aB r6.ps aF))]) (mP ((.sy (.imm h7 5 aB r6.ps aF):AV)=(.sy (.imm h7 5 aB r6.ps aF):AV)) (K (.tup [.agg [.sy (.int 0 p4.n.kind),.sy (.int 0 p4.n.x),.sy (.int 0 p4.n.y),.sy (.int 0 p4.n.i),.sy (.int 0 p4.n.at_),.sy (.int 0 p4.n.mode),.sy (.int 3 p4.n.mask),.sy (.int 1 0),.sy (.imm h7 5 aB r6.ps aF)],.sy (.bool r9.q)]) .leaf 0)))))) true) (ai fun r5:vg=>iP (DP p4 r5) (mP (r5.ps.length=r5.ps.length) (ai fun h4:Value=>mP ((.sy (.prow 1 r5.ps.length):AV)=(.sy (.prow 1 r5.ps.length):AV)) (K (.tup [.agg [.sy (.int 0 p4.n.kind),.sy (.int 0 p4.n.x),.sy (.int 0 p4.n.y),.sy (.int 0 p4.n.i),.sy (.int 0 p4.n.at_),.sy (.int 0 p4.n.mode),.sy (.int 3 p4.n.mask),.sy (.int 1 0),.sy (.imm h4 5 aB r5.ps aF)],.sy (.bool (false=true))]) .leaf 0))) true)))))) true) (ai fun r3:qR=>iP (DT p3 r3) (mP ((.nilS:AV)=(.nilS:AV)) (mP (0=([]:List aB).length) (ai fun h3:Value=>mP ((.sy (.prow 1 0):AV)=(.sy (.prow 1 0):AV)) (K (.tup [.agg [.sy (.int 0 r3.n.kind),.sy (.int 0 r3.n.x),.sy (.int 0 r3.n.y),.sy (.int 0 r3.n.i),.sy (.int 0 r3.n.at_),.sy (.int 0 r3.n.mode),.sy (.int 3 r3.n.mask),.sy (.int 1 0),.sy (.imm h3 5 aB ([]:List aB) aF)],.sy (.bool (false=true))]) .leaf 0)))) true)))))))) (by kernel_rfl) ?_
 dsimp only[kW]at hpre
 refine ay (⟨p.s,(32:Int)⟩:dK) rfl (by(try dsimp only[bM]);exact⟨by omega,by first|decide|omega,by first|decide|omega⟩) fun r1 hi1=> ?_
 dsimp only[ce]at hi1
 refine ay (⟨r1.h,r1.l,(0:Int),((-1):Int),aW⟩:jg) rfl (by(try dsimp only[ln]);exact⟨⟨by omega,by omega⟩,(LX (by assumption) (by omega)).1,fun w _=>.inl ⟨rfl,rfl,fun j a b=>by omega⟩,by decide⟩) fun r2 hi2=> ?_
 dsimp only[sU]at hi2
 obtain⟨hi2,hs2⟩:=hi2
 refine iI (fun hc3=> ?_) (fun hc3=> ?_)
 refine bi (bi ?_)
 refine am (fun h1=> ?_)
 refine bi ?_
 exact hC hK ⟨⟨r2.kind,(0:Int),(0:Int),(0:Int),(0:Int),(0:Int),(0:Int),(0:Int),h1,([]:List aB)⟩,false=true⟩
 refine fe ?_
 refine iI (p:=(r1.l.length:Int)<((1:Int)+(r2.f.length:Int))) (fun hc4=> ?_) (fun hc4=> ?_)
 refine bi (bi ?_)
 refine am (fun h2=> ?_)
 refine bi ?_
 exact hC hK ⟨⟨r2.kind,(0:Int),(0:Int),(0:Int),(0:Int),(0:Int),(0:Int),(0:Int),h2,([]:List aB)⟩,false=true⟩
 refine eX (⟨r1.h,r1.l,r2.f,⟨r2.kind,(0:Int),(0:Int),(0:Int),(0:Int),(0:Int),(0:Int)⟩,(0:Int)⟩:fT) rfl (by(try dsimp only[jF]);have e1:=LX (by assumption) (by omega);exact⟨⟨by omega,by omega⟩,by omega,(OJ (by assumption) e1.1 (by assumption)).1,QB ⟨rfl,rfl,rfl,rfl,rfl,rfl⟩,⟨by omega,by omega⟩,by omega,e1.2.2⟩) ?_
 refine aE ?_ ?_
 refine am (fun r4=> ?_)
 refine iI (p:=mS r1.l r2.f r2.f.length r4.n∧r4.n.kind=r2.kind∧0≤r4.n.mask∧r4.n.mask≤4294967295) (fun hi5=> ?_) (fun _=>rfl)
 refine fe (bi ?_)
 refine eX (⟨r1.h,r1.l,r4.n,([]:List aB),(1:Int)+(r2.f.length:Int)⟩:fO) rfl (by(try dsimp only[jB]);have e1:=LX (by assumption) (by omega);have e0:([]:List aB).length=0:=rfl;exact⟨by omega,by omega,by omega,by omega,e1.2.2⟩) ?_
 refine aE ?_ ?_
 refine am (fun r6=> ?_)
 refine iI (p:=DJ r1.l ((1:Int)+(r2.f.length:Int)).toNat ([]:List aB) r6.ps) (fun hi6=> ?_) (fun _=>rfl)
 refine iI (p:=r4.n.kind=(0:Int)) (fun hc7=> ?_) (fun hc7=> ?_)
 refine iI (fun hc8=> ?_) (fun hc8=> ?_)
 refine ed (ed ?_)
 refine am (fun x1=> ?_)
 refine iI (fun hi9=> ?_) (fun _=>rfl)
 refine bi ?_
 refine am (fun h5=> ?_)
 refine bi ?_
 refine ay (⟨⟨r4.n.kind,r4.n.x,r4.n.y,r4.n.i,r4.n.at_,r4.n.mode,r4.n.mask,x1.g,h5,r6.ps⟩⟩:pA) rfl (by(try dsimp only[kp]);have e2:=Lm (by assumption);have e3:=(by assumption:mS _ _ _ _∧_);exact⟨e2.1,e3.2.2,e2.2⟩) fun r7 hi10=> ?_
 dsimp only[mK]at hi10
 refine aE (by simp[qL,qI,qS,qY,aC]) ?_
 refine bi ?_
 exact hC hK ⟨⟨r4.n.kind,r4.n.x,r4.n.y,r4.n.i,r4.n.at_,r4.n.mode,r4.n.mask,x1.g,h5,r6.ps⟩,r7.q⟩
 refine bi ?_
 refine am (fun h6=> ?_)
 refine bi ?_
 refine ay (⟨⟨r4.n.kind,r4.n.x,r4.n.y,r4.n.i,r4.n.at_,r4.n.mode,r4.n.mask,(0:Int),h6,r6.ps⟩⟩:pA) rfl (by(try dsimp only[kp]);have e2:=Lm (by assumption);have e3:=(by assumption:mS _ _ _ _∧_);exact⟨e2.1,e3.2.2,e2.2⟩) fun r8 hi11=> ?_
 dsimp only[mK]at hi11
 refine aE (by simp[qL,qI,qS,qY,aC]) ?_
 refine bi ?_
 exact hC hK ⟨⟨r4.n.kind,r4.n.x,r4.n.y,r4.n.i,r4.n.at_,r4.n.mode,r4.n.mask,(0:Int),h6,r6.ps⟩,r8.q⟩
 refine bi ?_
 refine am (fun h7=> ?_)
 refine bi ?_
 refine ay (⟨⟨r4.n.kind,r4.n.x,r4.n.y,r4.n.i,r4.n.at_,r4.n.mode,r4.n.mask,(0:Int),h7,r6.ps⟩⟩:pA) rfl (by(try dsimp only[kp]);have e2:=Lm (by assumption);have e3:=(by assumption:mS _ _ _ _∧_);exact⟨e2.1,e3.2.2,e2.2⟩) fun r9 hi12=> ?_
 dsimp only[mK]at hi12
 refine aE (by simp[qL,qI,qS,qY,aC]) ?_
 refine bi ?_
 exact hC hK ⟨⟨r4.n.kind,r4.n.x,r4.n.y,r4.n.i,r4.n.at_,r4.n.mode,r4.n.mask,(0:Int),h7,r6.ps⟩,r9.q⟩
 refine am (fun r5=> ?_)
 refine iI (p:=∃x∈r1.l.drop ((1:Int)+(r2.f.length:Int)).toNat,∀p,dm p→¬x=aX p) (fun hi13=> ?_) (fun _=>rfl)
 refine bi ?_
 refine am (fun h4=> ?_)
 refine bi ?_
 exact hC hK ⟨⟨r4.n.kind,r4.n.x,r4.n.y,r4.n.i,r4.n.at_,r4.n.mode,r4.n.mask,(0:Int),h4,r5.ps⟩,false=true⟩
 refine am (fun r3=> ?_)
 refine iI (p:=Dr r1.l r2.f) (fun hi14=> ?_) (fun _=>rfl)
 refine bi (bi ?_)
 refine am (fun h3=> ?_)
 refine bi ?_
 exact hC hK ⟨⟨r3.n.kind,r3.n.x,r3.n.y,r3.n.i,r3.n.at_,r3.n.mode,r3.n.mask,(0:Int),h3,([]:List aB)⟩,false=true⟩
noncomputable def kZ:=bN gq 0 (ck oJ (dP kW si)) 25 [(0,22)]
theorem ks:aZ Tryz.prog kZ:=aR (cM (f:=25) (k:=0) (lp:=gJ) (lf:=600) bH (aQ gi) EY (by rfl) (fun b j x h=>(cG Tt (fun h=>(cG Qq (fun h=>(cG Ql (fun h=>(by cases h)) h)) h)) h)) fun p K h=>KK p K (aa h).1 (aa h).2) gi
structure bD where
 gs:List aM
 clients:Int
 window:Int
 deadline:Int
 pace:Int
 again:Int
 bag:Int
 first:Int
 os:List aI
 pos:Int
 no:Int
 t:List UInt8
def bt (p:bD):St:=⟨p.gs,⟨p.clients,p.window,p.deadline,p.pace,p.again,p.bag,p.first⟩,p.os.map cx,max p.pos 0⟩
def jt (p:bD):Prop:=p.gs.length≤4∧(p.pos= -1∨(1≤p.pos∧p.pos≤7))∧p.os.length+p.t.length≤80000∧(1≤p.no∧p.no+p.t.length≤90001)∧∀x∈p.os,x.ps.length≤10
def Bz (p r:bD):Prop:=∀o m,eI (bt r) r.no r.t o m→eI (bt p) p.no p.t o m
def JB (p q:bD):Prop:=∃u,p.t=u++10::q.t∧(10:UInt8)∉u∧step (bt p) u (bt q)∧q.no=p.no+1
theorem go_refl (p:bD):Bz p p:=fun _ _ h=>h
theorem go_ret {p q:bD} {o:zc} {m:Int} (h:JB p q) (k:eI (bt q) q.no q.t o m):eI (bt p) p.no p.t o m:=by
 obtain⟨u,h1,h2,h3,h4⟩:=h
 rw[h1]
 rw[h4]at k
 exact .good _ _ _ _ _ _ _ h2 h3 k
theorem go_step {p q r:bD} {A:Prop} (h:JB p q) (k:Bz q r∧A):Bz p r∧A:=⟨fun o m hr=>go_ret h (k.1 o m hr),k.2⟩
theorem Yr {t u v:List UInt8} {q:Prop} (h:jT t 10 u v q) (hq:¬q):(10:UInt8)∉t:=(h.2 hq).2
theorem Dj {t u v:List UInt8} {q:Prop} (h:jT t 10 u v q) (hq:q):t=u++10::v∧(10:UInt8)∉u:=h.1 hq
theorem lD {t u v:List UInt8} {q:Prop} (h:jT t 10 u v q) (hq:q):u.length≤t.length∧v.length+1≤t.length:=by
 have:=Dk h hq;omega
theorem xI {p:bD} {u v:List UInt8} {q:Prop} (h:jT p.t 10 u v q) (hq:¬q) (ht:¬p.t=[]):eI (bt p) p.no p.t gn p.no:=.open_ _ _ _ ht (Yr h hq)
theorem WD {p:bD} {u v:List UInt8} {q:Prop} (h:jT p.t 10 u v q) (hq:q) (hb:∀b,¬step (bt p) u b):eI (bt p) p.no p.t gn p.no:=by
 obtain⟨h1,h2⟩:=Dj h hq
 have k:eI (bt p) p.no (u++10::v) gn p.no:=.bad _ _ _ _ h2 hb
 rw[←h1]at k;exact k
def Xe (p:bD) (u:List UInt8):Prop:=(bt p).set=0→(∀g,yS g→¬wds 32 u=eV g)∨¬p.gs.length<4
theorem Xd {p:bD} {u:List UInt8} {q:Prop} {g:aM} (ok:jt p) (hg:gP u q g) (h:¬p.pos<0∨¬q∨¬(p.gs.length:Int)<4):Xe p u:=fun e=>by
 have e:max p.pos 0=0:=e
 have h2:=ok.2.1
 rcases h with h|h|h
 ·omega
 ·exact .inl (hg.2 h)
 ·exact .inr (by omega)
theorem Wb {p:bD} {u:List UInt8} (hk:(bt p).set≤6) (hg:Xe p u) (hs:∀b,¬pY (bt p) (wds 32 u) b):∀b,¬step (bt p) u b:=by
 intro b hb
 rcases hb with⟨e,hlt,g,h1,h2,_⟩|⟨_,h⟩|⟨e,_⟩
 ·rcases hg e with h|h
  ·exact h g h1 h2
  ·exact h hlt
 ·exact hs b h
 ·omega
theorem tR {p:bD} {l:TX} (h:(p.gs.length:Int)=0):∀b,¬pY (bt p) l b:=fun b hb=>hb.1 (aaX (show p.gs.length=0 by omega))
theorem pX {p:bD} {l l2:TX} (hl:l=l2) (h:¬(l.length:Int)=2):∀b,¬pY (bt p) l2 b:=fun b hb=>by
 obtain⟨_,z,_,e,_⟩:=hb
 rw[hl,e]at h;exact h rfl
theorem nn {p:bD} {l l2:TX} {x t:List UInt8} {k:Int} (hl:l=l2) (hx:l[0]?=some x) (hk:max p.pos 0=k) (ht:t=xU k) (h:¬x=t):∀b,¬pY (bt p) l2 b:=fun b hb=>by
 obtain⟨_,z,_,e,_⟩:=hb
 rw[hl,e]at hx
 apply h
 rw[ht,←hk]
 simpa[bt] using hx.symm
theorem pW {p:bD} {l l2:TX} {y:List UInt8} {k m z:Int} {q:Prop} (hl:l=l2) (hy:l[1]?=some y) (hk:max p.pos 0=k) (hm:m=rz k) (hn:jP m y z q∧0≤z∧z≤18446744073709551615) (h:¬q):∀b,¬pY (bt p) l2 b:=fun b hb=>by
 obtain⟨_,w,hw,e,_⟩:=hb
 rw[hl,e]at hy
 have e2:y=Lib.itoa w:=by simpa using hy.symm
 have e3:(bt p).set=k:=hk
 rw[e3,←hm]at hw
 refine h (hn.1.1.2 (hn.1.2 ⟨w,?_⟩))
 rw[e2];exact dI hw.1 hw.2
theorem WO {p:bD} {u:List UInt8} {o:aI} {q:Prop} (hk:¬max p.pos 0<7) (ho:CA u o q) (hq:¬q):∀b,¬step (bt p) u b:=fun b hb=>by
 have e3:(bt p).set=max p.pos 0:=rfl
 rcases hb with⟨e,_⟩|⟨e,_⟩|⟨e,o',h1,h2,_⟩
 ·omega
 ·omega
 ·exact ho.2 hq o' h1 h2
theorem Wf {p q:bD} {u v:List UInt8} {c q1:Prop} {g:aM} (ok:jt p) (hc:jT p.t 10 u v c) (hq:c) (hg:gP u q1 g) (h1:q1) (h2:p.pos<0) (h3:(p.gs.length:Int)<4) (e:q={p with gs:=p.gs++[g],t:=v,no:=p.no+1}):JB p q:=by
 subst e
 obtain⟨e1,e2⟩:=Dj hc hq
 obtain⟨g1,g2⟩:=hg.1 h1
 have hs:max p.pos 0=0:=by omega
 have h3:p.gs.length<4:=by omega
 exact⟨u,e1,e2,.inl ⟨hs,h3,g,g1,g2,rfl⟩,rfl⟩
def He (p:bD) (u:List UInt8):Prop:=p.gs.length≤4∧(p.pos= -1∨(1≤p.pos∧p.pos≤7))∧(p.os.length+1≤80000∧1≤p.no∧p.no≤90001)∧(∀x∈p.os,x.ps.length≤10)∧u.length≤90000∧Xe p u
def jr (p:bD) (u:List UInt8) (r:bD):Prop:=step (bt p) u (bt r)∧(r.t=p.t∧r.no=p.no∧r.gs.length≤4)∧(1≤r.pos∧r.pos≤7)∧r.os.length≤p.os.length+1∧∀x∈r.os,x.ps.length≤10
theorem LV {p:bD} {u v:List UInt8} {c q:Prop} {g:aM} (ok:jt p) (hc:jT p.t 10 u v c) (hq:c) (hg:gP u q g) (h:¬p.pos<0∨¬q∨¬(p.gs.length:Int)<4):He {p with t:=v} u:=by
 have e:=lD hc hq
 have hn:=Xd ok hg h
 obtain⟨a,b,c,d,f⟩:=ok
 exact⟨a,b,⟨by simp only;omega,by simp only;omega,by simp only;omega⟩,f,by omega,hn⟩
theorem YP {p r:bD} {u v:List UInt8} {c:Prop} (hc:jT p.t 10 u v c) (hq:c) (h:jr {p with t:=v} u r):JB p {r with no:=r.no+1}:=by
 obtain⟨e1,e2⟩:=Dj hc hq
 obtain⟨h1,⟨h2,h3,_⟩,_⟩:=h
 exact⟨u,by rw[show({r with no:=r.no+1}:bD).t=v from h2];exact e1,e2,h1,by simp only[h3]⟩
theorem YR {p r:bD} {u v:List UInt8} {c:Prop} (ok:jt p) (hc:jT p.t 10 u v c) (hq:c) (h:jr {p with t:=v} u r):jt {r with no:=r.no+1}:=by
 have e:=lD hc hq
 obtain⟨h1,⟨h2,h3,h4⟩,h5,h6,h7⟩:=h
 obtain⟨a,b,c,d,f⟩:=ok
 simp only at h2 h3 h6
 exact⟨h4,.inr h5,by simp only[h2];omega,by simp only[h2,h3];omega,h7⟩
theorem uv {p r:bD} {u v:List UInt8} (h:jr {p with t:=v} u r):r.no=p.no:=h.2.1.2.1
theorem Zd {p r:bD} {u v:List UInt8} {c:Prop} (hc:jT p.t 10 u v c) (hq:c) (h:jr {p with t:=v} u r):r.t.length<p.t.length:=by
 have e:=lD hc hq
 rw[h.2.1.1];simp only;omega
theorem BZ {p:bD} {u v:List UInt8} {c:Prop} {n:Int} (hc:jT p.t 10 u v c) (hq:c) (h:n=p.no∧∀b,¬step (bt {p with t:=v}) u b):eI (bt p) p.no p.t gn n:=by
 rw[h.1];exact WD hc hq h.2
theorem qA {p q:bD} {u x t y:List UInt8} {l:TX} {qn:Prop} {z m:Int} (k:Int) (ok:He p u) (hk:max p.pos 0=k) (hk6:0≤k∧k≤6) (hl:l=wds (cq 32) u) (h2:¬¬(l.length:Int)=2) (hx:l[0]?=some x) (hxt:¬¬x=t) (ht:t=xU k) (hy:l[1]?=some y) (hn:jP m y z qn∧0≤z∧z≤18446744073709551615) (hm:m=rz k) (hqn:¬¬qn) (hgs:¬(p.gs.length:Int)=0)
  (e:bt q={bt p with cf:=fo (bt p).cf k z,set:=k+1}∧q.t=p.t∧q.no=p.no∧q.gs=p.gs∧q.os=p.os∧q.pos=k+1):jr p u q:=by
 obtain⟨e3,e4,e5,e6,e7,e8⟩:=e
 obtain⟨o1,o2,o3,o4,o5,o6⟩:=ok
 have hs:(bt p).set=k:=hk
 have hz:=hn.1.1.1 (Classical.not_not.1 hqn)
 refine⟨.inr (.inl ⟨by omega,fun q=> ?_,z,?_,?_,?_⟩),⟨e4,e5,by rw[e6];exact o1⟩,by omega,by rw[e7];omega,by rw[e7];exact o4⟩
 ·have q:p.gs=[]:=q
  rw[q]at hgs;exact hgs rfl
 ·rw[hs,←hm];exact⟨hz.1,hz.2.1⟩
 ·show wds (cq 32) u=_
  rw[←hl,hs,←ht,←hz.2.2,←Classical.not_not.1 hxt]
  have h2:=Classical.not_not.1 h2
  rcases l with _|⟨a,_|⟨b,r⟩⟩
  ·simp at h2
  ·simp at h2
  ·simp only[aaD]at h2
   obtain rfl:r=[]:=aaX (by omega)
   simp at hx hy
   rw[hx,hy]
 ·rw[e3,hs]
theorem Zf {p q:bD} {u:List UInt8} {qo:Prop} {o:aI} (ok:He p u) (hk:¬max p.pos 0<7) (ho:CA u o qo) (hqo:¬¬qo) (e:q={p with os:=p.os++[o],pos:=max p.pos 0}):jr p u q:=by
 subst e
 obtain⟨w1,w2,w3,w4,w5,w6⟩:=ok
 obtain⟨o1,o2⟩:=ho.1 (Classical.not_not.1 hqo)
 have hs:max p.pos 0=7:=by omega
 refine⟨.inr (.inr ⟨hs,o,o1,o2,?_⟩),⟨rfl,rfl,w1⟩,by simp only;omega,by simp,fun x hx=> ?_⟩
 ·simp only[bt,List.map_append,List.map_cons,List.map_nil,St.mk.injEq,true_and]
  omega
 ·rcases List.mem_append.1 hx with hx|hx
  ·exact w4 x hx
  ·rw[List.mem_singleton.1 hx];exact Nx o1.1
theorem qB {p:bD} {u:List UInt8} {k:Int} (ok:He p u) (hk:max p.pos 0=k) (hk6:k≤6) (h:∀b,¬pY (bt p) (wds 32 u) b):p.no=p.no∧∀b,¬step (bt p) u b:=
 ⟨rfl,Wb (by show max p.pos 0≤6;omega) ok.2.2.2.2.2 h⟩
theorem go_nil {p:bD} (h:p.t=[]) (ok:jt p):Bz p {p with t:=[]}∧jt {p with t:=[]}∧([]:List UInt8)=[]:=by
 have e:({p with t:=[]}:bD)=p:=by rw[←h]
 rw[e];exact⟨go_refl p,ok,rfl⟩
def yC (t:List UInt8):bD:=⟨[],0,0,0,0,0,0,0,[], -1,1,t⟩
theorem WE {t:List UInt8} (h:t.length≤70000):jt (yC t):=⟨by simp[yC],.inl rfl,by simp[yC];omega,by simp[yC];omega,by simp[yC]⟩
theorem WH {p:bD} {u v:List UInt8} {c:Prop} {g:aM} (ok:jt p) (hc:jT p.t 10 u v c) (hq:c) (h:(p.gs.length:Int)<4):jt {p with gs:=p.gs++[g],no:=p.no+1,t:=v}:=by
 have e:=lD hc hq
 obtain⟨a,b,c,d,f⟩:=ok
 exact⟨by simp only[aaC,List.length_singleton];omega,b,by simp only;omega,by simp only;omega,f⟩
def aaf (s:vA):zc:=(s.gs,⟨s.clients,s.window,s.deadline,s.pace,s.again,s.bag,s.first⟩,s.os.map cx)
def mN (t:List UInt8) (s:vA) (n:Int):Prop:=eI rh 1 t (aaf s) n∧Gt s.os∧s.gs.length≤10
theorem JL {t:List UInt8} {n:Int} {h1 h2:Value} (h:eI (bt (yC t)) (yC t).no (yC t).t gn n):mN t ⟨h1,[],0,0,0,0,0,0,0,h2,[]⟩ n:=
 ⟨h,⟨by simp,fun j x hx=>by simp at hx⟩,by simp⟩
theorem Nu {t:List UInt8} {r:bD} {h1 h2:Value} (h:Bz (yC t) r∧jt r∧r.t=[]) (hp:r.pos<7):mN t ⟨h1,[],0,0,0,0,0,0,0,h2,[]⟩ r.no:=by
 refine JL (h.1 _ _ ?_)
 rw[h.2.2]
 exact .short _ _ (fun e=>by have e:max r.pos 0=7:=e;omega)
theorem PN {t:List UInt8} {r:bD} {h1 h2:Value} (h:Bz (yC t) r∧jt r∧r.t=[]) (hp:¬r.pos<7):mN t ⟨h1,r.gs,r.clients,r.window,r.deadline,r.pace,r.again,r.bag,r.first,h2,r.os⟩ 0:=by
 obtain⟨a,b,c⟩:=h
 have b2:=b.2.1
 have b3:=b.2.2.1
 have b4:=b.1
 refine⟨a _ _ ?_,⟨by simp only;omega,fun j x hx=>b.2.2.2.2 x (aaG hx)⟩,by simp only;omega⟩
 rw[c]
 exact .whole (bt r) _ (by show max r.pos 0=7;omega)
theorem Eh {p r:bD} {u:List UInt8} (h:jr p u r:=by first|exact qA 0 (by assumption) (by assumption) (by decide) (by assumption) (by assumption) (by assumption) (by assumption) (by decide) (by assumption) (by assumption) (by decide) (by assumption) (by assumption) ⟨by first|rfl|(simp[bt,fo];done)|(simp[bt,fo];decide),rfl,rfl,rfl,rfl,rfl⟩|exact qA 1 (by assumption) (by assumption) (by decide) (by assumption) (by assumption) (by assumption) (by assumption) (by decide) (by assumption) (by assumption) (by decide) (by assumption) (by assumption) ⟨by first|rfl|(simp[bt,fo];done)|(simp[bt,fo];decide),rfl,rfl,rfl,rfl,rfl⟩|exact qA 2 (by assumption) (by assumption) (by decide) (by assumption) (by assumption) (by assumption) (by assumption) (by decide) (by assumption) (by assumption) (by decide) (by assumption) (by assumption) ⟨by first|rfl|(simp[bt,fo];done)|(simp[bt,fo];decide),rfl,rfl,rfl,rfl,rfl⟩|exact qA 3 (by assumption) (by assumption) (by decide) (by assumption) (by assumption) (by assumption) (by assumption) (by decide) (by assumption) (by assumption) (by decide) (by assumption) (by assumption) ⟨by first|rfl|(simp[bt,fo];done)|(simp[bt,fo];decide),rfl,rfl,rfl,rfl,rfl⟩|exact qA 4 (by assumption) (by assumption) (by decide) (by assumption) (by assumption) (by assumption) (by assumption) (by decide) (by assumption) (by assumption) (by decide) (by assumption) (by assumption) ⟨by first|rfl|(simp[bt,fo];done)|(simp[bt,fo];decide),rfl,rfl,rfl,rfl,rfl⟩|exact qA 5 (by assumption) (by assumption) (by decide) (by assumption) (by assumption) (by assumption) (by assumption) (by decide) (by assumption) (by assumption) (by decide) (by assumption) (by assumption) ⟨by first|rfl|(simp[bt,fo];done)|(simp[bt,fo];decide),rfl,rfl,rfl,rfl,rfl⟩|exact qA 6 (by assumption) (by assumption) (by decide) (by assumption) (by assumption) (by assumption) (by assumption) (by decide) (by assumption) (by assumption) (by decide) (by assumption) (by assumption) ⟨by first|rfl|(simp[bt,fo];done)|(simp[bt,fo];decide),rfl,rfl,rfl,rfl,rfl⟩|exact Zf (by assumption) (by assumption) (by assumption) (by assumption) rfl):jr p u r:=h
theorem gK {p:bD} {u:List UInt8} {n:Int} (h:n=p.no∧∀b,¬step (bt p) u b:=by first|exact⟨rfl,WO (by assumption) (by assumption) (by assumption)⟩|exact qB (k:=0) (by assumption) (by assumption) (by decide) (by first|exact tR (by assumption)|exact pX (by assumption) (by assumption)|exact nn (t:=([99,108,105,101,110,116,115]:List Nat).map aaY) (by assumption) (by assumption) (by assumption) (by decide) (by assumption)|exact pW (m:=1099511627776) (by assumption) (by assumption) (by assumption) (by decide) (by assumption) (by assumption))|exact qB (k:=1) (by assumption) (by assumption) (by decide) (by first|exact tR (by assumption)|exact pX (by assumption) (by assumption)|exact nn (t:=([119,105,110,100,111,119]:List Nat).map aaY) (by assumption) (by assumption) (by assumption) (by decide) (by assumption)|exact pW (m:=1099511627776) (by assumption) (by assumption) (by assumption) (by decide) (by assumption) (by assumption))|exact qB (k:=2) (by assumption) (by assumption) (by decide) (by first|exact tR (by assumption)|exact pX (by assumption) (by assumption)|exact nn (t:=([100,101,97,100,108,105,110,101]:List Nat).map aaY) (by assumption) (by assumption) (by assumption) (by decide) (by assumption)|exact pW (m:=1099511627776) (by assumption) (by assumption) (by assumption) (by decide) (by assumption) (by assumption))|exact qB (k:=3) (by assumption) (by assumption) (by decide) (by first|exact tR (by assumption)|exact pX (by assumption) (by assumption)|exact nn (t:=([112,97,99,101]:List Nat).map aaY) (by assumption) (by assumption) (by assumption) (by decide) (by assumption)|exact pW (m:=1099511627776) (by assumption) (by assumption) (by assumption) (by decide) (by assumption) (by assumption))|exact qB (k:=4) (by assumption) (by assumption) (by decide) (by first|exact tR (by assumption)|exact pX (by assumption) (by assumption)|exact nn (t:=([97,103,97,105,110]:List Nat).map aaY) (by assumption) (by assumption) (by assumption) (by decide) (by assumption)|exact pW (m:=1099511627776) (by assumption) (by assumption) (by assumption) (by decide) (by assumption) (by assumption))|exact qB (k:=5) (by assumption) (by assumption) (by decide) (by first|exact tR (by assumption)|exact pX (by assumption) (by assumption)|exact nn (t:=([98,97,103]:List Nat).map aaY) (by assumption) (by assumption) (by assumption) (by decide) (by assumption)|exact pW (m:=1099511627776) (by assumption) (by assumption) (by assumption) (by decide) (by assumption) (by assumption))|exact qB (k:=6) (by assumption) (by assumption) (by decide) (by first|exact tR (by assumption)|exact pX (by assumption) (by assumption)|exact nn (t:=([102,105,114,115,116]:List Nat).map aaY) (by assumption) (by assumption) (by assumption) (by decide) (by assumption)|exact pW (m:=18446744073709551615) (by assumption) (by assumption) (by assumption) (by decide) (by assumption) (by assumption))):n=p.no∧∀b,¬step (bt p) u b:=h
theorem Zs {p q:bD} (hpre:jt p) (h:JB p q:=by first|exact YP (by assumption) (Classical.not_not.1 (by assumption)) (by assumption)|exact Wf (by assumption) (by assumption) (Classical.not_not.1 (by assumption)) (by assumption) (by assumption) (by assumption) (by assumption) rfl):JB p q:=h
def Do:XC:=(.aft (.seq (g_ 3 [p_ 0 58 (m_ 5),p_ 1 59 (.mx true (.t 58) (i_ 0)),p_ 2 5 (m_ 59)]) (.seq (.seq (g_ 2 [p_ 0 60 (m_ 5),p_ 1 61 (.bin 3 0 (.t 60) (i_ 7))]) (.cond (.t 61) (.pre [.fix 5 7] (.seq (g_ 3 [p_ 0 62 (m_ 7),c_ 1 63 21 [.t 62,.c (.int 1 (.ofNat 32))],p_ 2 12 (m_ 63)]) (.seq (g_ 1 [p_ 0 13 (.mv (.c (.int 4 (.ofNat 1099511627776))))]) (.seq (.seq (g_ 2 [p_ 0 64 (m_ 5),p_ 1 65 (.bin 3 4 (.t 64) (i_ 6))]) (.cond (.t 65) (g_ 1 [p_ 0 13 (.mv (.c (.int 4 (.ofNat 18446744073709551615))))]) .skip)) (.seq (.seq (h_ 20 [p_ 0 66 (f_ 0 4),p_ 1 67 (f_ 0 66),r_ 2 68 (l_ 67),p_ 3 69 (k_ 68),p_ 4 70 (.bin 3 4 (.t 69) (i_ 0)),p_ 5 71 (m_ 70),au 6 72 71 false (m_ 12),au 7 73 71 false (k_ 72),au 8 74 71 false (.bin 3 5 (.t 73) (i_ 2)),p_ 9 75 (.pick (.t 71) (.c (.bool true)) (.t 74)),p_ 10 76 (m_ 75),au 11 77 76 false (m_ 12),au 12 78 76 false (.ixs 1 (.t 77) (i_ 0)),aY 13 79 76 false (l_ 78),au 15 81 76 false (m_ 5),il 14 80 76 false 22 [],YM 13 79 76 false (l_ 78),au 16 82 76 false (.ixs 1 (.t 80) (.t 81)),aY 17 83 76 false (l_ 82),au 18 84 76 false (.bin 5 1 (.t 79) (.t 83)),p_ 19 85 (.pick (.t 76) (.c (.bool true)) (.t 84))]) (.cond (.t 85) (.seq (g_ 4 [p_ 0 86 (.bld [.nilS,.int 0 (.ofNat 0),.int 0 (.ofNat 0),.int 0 (.ofNat 0),.int 0 (.ofNat 0),.int 0 (.ofNat 0),.int 0 (.ofNat 0),.int 4 (.ofNat 0),.nilS] [] []),p_ 1 87 (m_ 6),bd 2 (.st 9 (.t 2) (.t 86)),p_ 3 3 (m_ 87)]) .ret) .skip)) (.seq (g_ 10 [p_ 0 89 (m_ 12),p_ 1 90 (.ixs 1 (.t 89) (i_ 1)),r_ 2 91 (l_ 90),p_ 3 92 (m_ 13),c_ 4 93 23 [.t 91,.t 92],p_ 5 88 (m_ 93),p_ 6 94 (.ext 0 (.t 88)),p_ 7 95 (.ext 1 (.t 88)),p_ 8 14 (m_ 94),p_ 9 15 (m_ 95)]) (.seq (.seq (g_ 2 [p_ 0 96 (m_ 15),p_ 1 97 (.un 0 (.t 96))]) (.cond (.t 97) (.seq (g_ 4 [p_ 0 98 (.bld [.nilS,.int 0 (.ofNat 0),.int 0 (.ofNat 0),.int 0 (.ofNat 0),.int 0 (.ofNat 0),.int 0 (.ofNat 0),.int 0 (.ofNat 0),.int 4 (.ofNat 0),.nilS] [] []),p_ 1 99 (m_ 6),bd 2 (.st 9 (.t 2) (.t 98)),p_ 3 3 (m_ 99)]) .ret) .skip)) (.seq (g_ 7 [p_ 0 100 (f_ 0 4),r_ 1 101 (.ld true 8 (.t 100)),p_ 2 102 (m_ 5),p_ 3 103 (m_ 14),c_ 4 104 24 [.t 101,.t 102,.t 103],p_ 5 105 (f_ 0 4),bd 6 (.st 8 (.t 105) (.t 104))]) (.seq (g_ 3 [p_ 0 106 (m_ 5),p_ 1 107 (.bin 0 0 (.t 106) (i_ 1)),p_ 2 5 (m_ 107)]) (.exit 3)))))))))) .skip)) (.seq (g_ 8 [p_ 0 109 (m_ 7),c_ 1 110 25 [.t 109],p_ 2 108 (m_ 110),p_ 3 111 (.ext 0 (.t 108)),p_ 4 112 (.ext 1 (.t 108)),e_ 5 16 (.al 79 [.int 0 (.ofNat 0),.int 0 (.ofNat 0),.int 0 (.ofNat 0),.int 0 (.ofNat 0),.int 0 (.ofNat 0),.int 0 (.ofNat 0),.int 3 (.ofNat 0),.int 1 (.ofNat 0),.nilS]),bd 6 (.st 9 (.t 16) (.t 111)),p_ 7 17 (m_ 112)]) (.seq (.seq (g_ 2 [p_ 0 113 (m_ 17),p_ 1 114 (.un 0 (.t 113))]) (.cond (.t 114) (.seq (g_ 4 [p_ 0 115 (.bld [.nilS,.int 0 (.ofNat 0),.int 0 (.ofNat 0),.int 0 (.ofNat 0),.int 0 (.ofNat 0),.int 0 (.ofNat 0),.int 0 (.ofNat 0),.int 4 (.ofNat 0),.nilS] [] []),p_ 1 116 (m_ 6),bd 2 (.st 9 (.t 2) (.t 115)),p_ 3 3 (m_ 116)]) .ret) .skip)) (g_ 7 [p_ 0 117 (f_ 8 4),r_ 1 118 (l_ 117),r_ 2 119 (.ld true 9 (.t 16)),e_ 3 120 (.bsl 79 9 1 [.int 0 (.ofNat 0),.int 0 (.ofNat 0),.int 0 (.ofNat 0),.int 0 (.ofNat 0),.int 0 (.ofNat 0),.int 0 (.ofNat 0),.int 3 (.ofNat 0),.int 1 (.ofNat 0),.nilS] [(0,9)] [.t 119]),e_ 4 121 (.app 79 9 80 (.t 118) (.t 120)),p_ 5 122 (f_ 8 4),bd 6 (.st 1 (.t 122) (.t 121))]))))) [(0,[.can 0 [0,2,4,5,6],.upc 1 0 1,.upc 1 0 2,.upc 1 0 3,.upc 1 0 4,.upc 1 0 5,.upc 1 0 6,.upc 1 0 7,.up 5,.up 6,.can 0 [0,2,4,5,6]]),(1,[.up 3,.can 0 [2,3]]),(3,[.can 0 [0,2,4,5,6],.upc 1 0 1,.upc 1 0 2,.upc 1 0 3,.upc 1 0 4,.upc 1 0 5,.upc 1 0 6,.upc 1 0 7,.up 5,.up 6,.can 0 [0,2,4,5,6]])])
def As:XC:=(.aft (.seq (.seq (g_ 2 [p_ 0 18 (m_ 0),p_ 1 19 (.bin 5 1 (.t 18) (.c (.str [])))]) (.cond (.t 19) .skip (.exit 2))) (.seq (.block 3 (.seq (g_ 9 [p_ 0 23 (m_ 0),c_ 1 24 19 [.t 23,.c (.int 1 (.ofNat 10))],p_ 2 22 (m_ 24),p_ 3 25 (.ext 0 (.t 22)),p_ 4 26 (.ext 1 (.t 22)),p_ 5 27 (.ext 2 (.t 22)),p_ 6 7 (m_ 25),p_ 7 8 (m_ 26),p_ 8 9 (m_ 27)]) (.seq (.seq (g_ 2 [p_ 0 28 (m_ 9),p_ 1 29 (.un 0 (.t 28))]) (.cond (.t 29) (.seq (g_ 4 [p_ 0 30 (.bld [.nilS,.int 0 (.ofNat 0),.int 0 (.ofNat 0),.int 0 (.ofNat 0),.int 0 (.ofNat 0),.int 0 (.ofNat 0),.int 0 (.ofNat 0),.int 4 (.ofNat 0),.nilS] [] []),p_ 1 31 (m_ 6),bd 2 (.st 9 (.t 2) (.t 30)),p_ 3 3 (m_ 31)]) .ret) .skip)) (.seq (g_ 2 [p_ 0 32 (m_ 8),p_ 1 0 (m_ 32)]) (.seq (g_ 8 [p_ 0 34 (m_ 7),c_ 1 35 20 [.t 34],p_ 2 33 (m_ 35),p_ 3 36 (.ext 0 (.t 33)),p_ 4 37 (.ext 1 (.t 33)),e_ 5 10 (.al 69 [.int 0 (.ofNat 0),.int 0 (.ofNat 0),.bool false]),bd 6 (.st 3 (.t 10) (.t 36)),p_ 7 11 (m_ 37)]) (.seq (.seq (g_ 12 [p_ 0 38 (m_ 5),p_ 1 39 (.bin 3 0 (.t 38) (i_ 0)),p_ 2 40 (m_ 39),au 3 41 40 true (m_ 11),p_ 4 42 (.pick (.t 40) (.t 41) (.c (.bool false))),p_ 5 43 (m_ 42),au 6 44 43 true (f_ 0 4),au 7 45 43 true (f_ 0 44),aY 8 46 43 true (l_ 45),au 9 47 43 true (k_ 46),au 10 48 43 true (.bin 3 0 (.t 47) (i_ 4)),p_ 11 49 (.pick (.t 43) (.t 48) (.c (.bool false)))]) (.cond (.t 49) (.seq (g_ 9 [p_ 0 50 (f_ 0 4),p_ 1 51 (f_ 0 50),r_ 2 52 (l_ 51),r_ 3 53 (.ld true 3 (.t 10)),e_ 4 54 (.bsl 69 3 1 [.int 0 (.ofNat 0),.int 0 (.ofNat 0),.bool false] [(0,3)] [.t 53]),e_ 5 55 (.app 69 3 24 (.t 52) (.t 54)),p_ 6 56 (f_ 0 4),p_ 7 57 (f_ 0 56),bd 8 (.st 1 (.t 57) (.t 55))]) (.exit 3)) .skip)) (.pre [.can 0 [0,2,4,5,6,7]] (.spc 1 Do)))))))) (g_ 3 [p_ 0 20 (m_ 6),p_ 1 21 (.bin 0 0 (.t 20) (i_ 1)),p_ 2 6 (m_ 21)]))) [(0,[.can 0 [0,2,4,5,6],.upc 1 0 1,.upc 1 0 2,.upc 1 0 3,.upc 1 0 4,.upc 1 0 5,.upc 1 0 6,.upc 1 0 7,.up 5,.up 6,.can 0 [0,2,4,5,6]]),(1,[.can 0 [2,3]]),(2,[.can 0 [2,4,5,6]])])
def Eu:XF:=.mk 128 (.ct 2 true 9 3) (.aft (.seq (g_ 2 [e_ 0 2 (.al 37 [.nilS,.int 0 (.ofNat 0),.int 0 (.ofNat 0),.int 0 (.ofNat 0),.int 0 (.ofNat 0),.int 0 (.ofNat 0),.int 0 (.ofNat 0),.int 4 (.ofNat 0),.nilS]),p_ 1 3 (.mv (i_ 0))]) (.seq (g_ 1 [e_ 0 4 (.al 37 [.nilS,.int 0 (.ofNat 0),.int 0 (.ofNat 0),.int 0 (.ofNat 0),.int 0 (.ofNat 0),.int 0 (.ofNat 0),.int 0 (.ofNat 0),.int 4 (.ofNat 0),.nilS])]) (.seq (g_ 1 [p_ 0 5 (.mv (.c (.int 0 (.negSucc 0))))]) (.seq (g_ 1 [p_ 0 6 (.mv (i_ 1))]) (.seq (.block 2 (.pre [.can 0 [0,2,4,5,6],.cell 1 0 0 69 3 aM aT,.cell 1 0 8 79 9 aI aV,.upc 1 0 1,.upc 1 0 2,.upc 1 0 3,.upc 1 0 4,.upc 1 0 5,.upc 1 0 6,.upc 1 0 7,.up 5,.up 6,.can 0 [0,2,4,5,6]] (.inv 0 As))) (.seq (.seq (g_ 2 [p_ 0 123 (m_ 5),p_ 1 124 (.bin 3 0 (.t 123) (i_ 7))]) (.cond (.t 124) (.seq (g_ 4 [p_ 0 125 (.bld [.nilS,.int 0 (.ofNat 0),.int 0 (.ofNat 0),.int 0 (.ofNat 0),.int 0 (.ofNat 0),.int 0 (.ofNat 0),.int 0 (.ofNat 0),.int 4 (.ofNat 0),.nilS] [] []),p_ 1 126 (m_ 6),bd 2 (.st 9 (.t 2) (.t 125)),p_ 3 3 (m_ 126)]) .ret) .skip)) (.seq (g_ 3 [r_ 0 127 (.ld true 9 (.t 4)),bd 1 (.st 9 (.t 2) (.t 127)),p_ 2 3 (.mv (i_ 0))]) .ret))))))) [(0,[.cell 0 0 0 69 3 aM aT,.frzc 0 0 0,.cell 0 0 8 79 9 aI aV,.frzc 0 0 8,.upc 0 0 1,.upc 0 0 2,.upc 0 0 3,.upc 0 0 4,.upc 0 0 5,.upc 0 0 6,.upc 0 0 7,.up 3]),(1,[.cell 0 0 0 69 3 aM aT,.frzc 0 0 0,.cell 0 0 8 79 9 aI aV,.frzc 0 0 8,.upc 0 0 1,.upc 0 0 2,.upc 0 0 3,.upc 0 0 4,.upc 0 0 5,.upc 0 0 6,.upc 0 0 7,.up 3])])
theorem HC:ci Tryz.prog 7 Eu=true:=by kernel_rfl
structure fQ where
 p:bD
structure yq where
 r:bD
structure lH where
 n:Int
def Ga (p:fQ) (r:yq):Prop:=Bz p.p r.r∧jt r.r∧r.r.t=[]
def DQ (p:fQ) (r:lH):Prop:=eI (bt p.p) p.p.no p.p.t gn r.n
noncomputable def kE (p:fQ):IL:=((.cons 6 (.sy (.int 0 p.p.no)) (.cons 5 (.sy (.int 0 p.p.pos)) (.cons 4 (.ptr 1 0) (.cons 2 (.ptr 0 0) (.cons 0 (.sy (.str p.p.t)) .nil))))),(.node (.node (.node .leaf (some (.prow 79 9 aI p.p.os aV)) .leaf) (some (.blk false 37 9 [[.sy (.prow 2 p.p.gs.length),.sy (.int 0 p.p.clients),.sy (.int 0 p.p.window),.sy (.int 0 p.p.deadline),.sy (.int 0 p.p.pace),.sy (.int 0 p.p.again),.sy (.int 0 p.p.bag),.sy (.int 4 p.p.first),.sy (.prow 3 p.p.os.length)]])) .leaf) (some (.blk false 37 9 [[.nilS,.int 0 (.ofNat 0),.int 0 (.ofNat 0),.int 0 (.ofNat 0),.int 0 (.ofNat 0),.int 0 (.ofNat 0),.int 0 (.ofNat 0),.int 4 (.ofNat 0),.nilS]])) (.node .leaf (some (.prow 69 3 aM p.p.gs aT)) .leaf)),4)
noncomputable def wa (p:fQ) (K:KC):Bool:=ac (ai fun r:yq=>iP (Ga p r) (K 2 (.cons 6 (.sy (.int 0 r.r.no)) (.cons 5 (.sy (.int 0 r.r.pos)) (.cons 4 (.ptr 1 0) (.cons 2 (.ptr 0 0) .nil)))) (.node (.node (.node .leaf (some (.prow 79 9 aI r.r.os aV)) .leaf) (some (.blk false 37 9 [[.sy (.prow 2 r.r.gs.length),.sy (.int 0 r.r.clients),.sy (.int 0 r.r.window),.sy (.int 0 r.r.deadline),.sy (.int 0 r.r.pace),.sy (.int 0 r.r.again),.sy (.int 0 r.r.bag),.sy (.int 4 r.r.first),.sy (.prow 3 r.r.os.length)]])) .leaf) (some (.blk false 37 9 [[.nilS,.int 0 (.ofNat 0),.int 0 (.ofNat 0),.int 0 (.ofNat 0),.int 0 (.ofNat 0),.int 0 (.ofNat 0),.int 0 (.ofNat 0),.int 4 (.ofNat 0),.nilS]])) (.node .leaf (some (.prow 69 3 aM r.r.gs aT)) .leaf)) 4) true) (ai fun r:lH=>iP (DQ p r) (K 1 (.cons 3 (.sy (.int 0 r.n)) (.cons 2 (.ptr 0 0) .nil)) (.node .leaf (some (.blk false 37 9 [[.nilS,.int 0 (.ofNat 0),.int 0 (.ofNat 0),.int 0 (.ofNat 0),.int 0 (.ofNat 0),.int 0 (.ofNat 0),.int 0 (.ofNat 0),.int 4 (.ofNat 0),.nilS]])) .leaf) 1) true)
def jC (p:fQ):Prop:=jt p.p
noncomputable def tJ (p:fQ) (K:KC):Bool:=ac (aC (jC p)) (wa p K)
structure gk where
 p:bD
 u:List UInt8
structure tx where
 r:bD
structure gu where
 r:bD
structure bI where
 n:Int
def xK (p:gk) (r:tx):Prop:=jr p.p p.u r.r
def ub (p:gk) (r:gu):Prop:=jr p.p p.u r.r
def ua (p:gk) (r:bI):Prop:=r.n=p.p.no∧∀b,¬step (bt p.p) p.u b
noncomputable def lj (p:gk):IL:=((.cons 7 (.sy (.str p.u)) (.cons 6 (.sy (.int 0 p.p.no)) (.cons 5 (.sy (.int 0 p.p.pos)) (.cons 4 (.ptr 1 0) (.cons 2 (.ptr 0 0) (.cons 0 (.sy (.str p.p.t)) .nil)))))),(.node (.node (.node .leaf (some (.prow 79 9 aI p.p.os aV)) .leaf) (some (.blk false 37 9 [[.sy (.prow 2 p.p.gs.length),.sy (.int 0 p.p.clients),.sy (.int 0 p.p.window),.sy (.int 0 p.p.deadline),.sy (.int 0 p.p.pace),.sy (.int 0 p.p.again),.sy (.int 0 p.p.bag),.sy (.int 4 p.p.first),.sy (.prow 3 p.p.os.length)]])) .leaf) (some (.blk false 37 9 [[.nilS,.int 0 (.ofNat 0),.int 0 (.ofNat 0),.int 0 (.ofNat 0),.int 0 (.ofNat 0),.int 0 (.ofNat 0),.int 0 (.ofNat 0),.int 4 (.ofNat 0),.nilS]])) (.node .leaf (some (.prow 69 3 aM p.p.gs aT)) .leaf)),4)
noncomputable def Gh (p:gk) (K:KC):Bool:=ac (ai fun r:tx=>iP (xK p r) (K 0 (.cons 6 (.sy (.int 0 r.r.no)) (.cons 5 (.sy (.int 0 r.r.pos)) (.cons 4 (.ptr 1 0) (.cons 2 (.ptr 0 0) (.cons 0 (.sy (.str r.r.t)) .nil))))) (.node (.node (.node .leaf (some (.prow 79 9 aI r.r.os aV)) .leaf) (some (.blk false 37 9 [[.sy (.prow 2 r.r.gs.length),.sy (.int 0 r.r.clients),.sy (.int 0 r.r.window),.sy (.int 0 r.r.deadline),.sy (.int 0 r.r.pace),.sy (.int 0 r.r.again),.sy (.int 0 r.r.bag),.sy (.int 4 r.r.first),.sy (.prow 3 r.r.os.length)]])) .leaf) (some (.blk false 37 9 [[.nilS,.int 0 (.ofNat 0),.int 0 (.ofNat 0),.int 0 (.ofNat 0),.int 0 (.ofNat 0),.int 0 (.ofNat 0),.int 0 (.ofNat 0),.int 4 (.ofNat 0),.nilS]])) (.node .leaf (some (.prow 69 3 aM r.r.gs aT)) .leaf)) 4) true) (ac (ai fun r:gu=>iP (ub p r) (K 3 (.cons 6 (.sy (.int 0 r.r.no)) (.cons 5 (.sy (.int 0 r.r.pos)) (.cons 4 (.ptr 1 0) (.cons 2 (.ptr 0 0) (.cons 0 (.sy (.str r.r.t)) .nil))))) (.node (.node (.node .leaf (some (.prow 79 9 aI r.r.os aV)) .leaf) (some (.blk false 37 9 [[.sy (.prow 2 r.r.gs.length),.sy (.int 0 r.r.clients),.sy (.int 0 r.r.window),.sy (.int 0 r.r.deadline),.sy (.int 0 r.r.pace),.sy (.int 0 r.r.again),.sy (.int 0 r.r.bag),.sy (.int 4 r.r.first),.sy (.prow 3 r.r.os.length)]])) .leaf) (some (.blk false 37 9 [[.nilS,.int 0 (.ofNat 0),.int 0 (.ofNat 0),.int 0 (.ofNat 0),.int 0 (.ofNat 0),.int 0 (.ofNat 0),.int 0 (.ofNat 0),.int 4 (.ofNat 0),.nilS]])) (.node .leaf (some (.prow 69 3 aM r.r.gs aT)) .leaf)) 4) true) (ai fun r:bI=>iP (ua p r) (K 1 (.cons 3 (.sy (.int 0 r.n)) (.cons 2 (.ptr 0 0) .nil)) (.node .leaf (some (.blk false 37 9 [[.nilS,.int 0 (.ofNat 0),.int 0 (.ofNat 0),.int 0 (.ofNat 0),.int 0 (.ofNat 0),.int 0 (.ofNat 0),.int 0 (.ofNat 0),.int 4 (.ofNat 0),.nilS]])) .leaf) 1) true))
def iG (p:gk):Prop:=He p.p p.u
noncomputable def Sn (p:gk) (K:KC):Bool:=ac (aC (iG p)) (Gh p K)
noncomputable def lU:gO:=fun j S M nx K=>(Bool.rec ((Bool.rec (false) (aN fun p:gk=>ac (aC ((S,M,nx)=lj p)) (Sn p K)) (Nat.beq j 1))) (aN fun p:fQ=>ac (aC ((S,M,nx)=kE p)) (tJ p K)) (Nat.beq j 0))
theorem RY (p:gk) (K:KC) (hpre:iG p) (hK:Gh p K=true):(df (cj kZ) lU 600 Do (lj p).1 (lj p).2.1 (lj p).2.2 K)=true:=by
 refine Eq.trans (b:=(let z0:Bool:=(K 1 (.cons 3 (.sy (.int 0 p.p.no)) (.cons 2 (.ptr 0 0) .nil)) (.node .leaf (some (.blk false 37 9 [[.nilS,.int 0 (.ofNat 0),.int 0 (.ofNat 0),.int 0 (.ofNat 0),.int 0 (.ofNat 0),.int 0 (.ofNat 0),.int 0 (.ofNat 0),.int 4 (.ofNat 0),.nilS]])) .leaf) 1);iP ((max p.p.pos (0:Int))<(7:Int)) (iP ((max p.p.pos (0:Int))=0) (aH (([.sy (.str p.u),.int 1 (.ofNat 32)],.leaf,0)) eE bM ce fun p13 r13=>iP ((p.p.gs.length:Int)=(0:Int)) z0 (iP (¬(r13.l.length:Int)=(2:Int)) z0 (mP (0≤(0:Int)∧(0:Int)<(r13.l.length:Int)) (ai fun x13:(List UInt8)=>iP (r13.l[0]?=some x13) (mP (((.str x13):SY)=(.str x13)) (iP (¬x13=(([99,108,105,101,110,116,115]:List Nat).map aaY)) z0 (mP (0≤(1:Int)∧(1:Int)<(r13.l.length:Int)) (ai fun x14:(List UInt8)=>iP (r13.l[1]?=some x14) (aH (([.sy (.str x14),.int 4 (.ofNat 1099511627776)],.leaf,0)) cF ba aU fun p14 r14=>iP (¬r14.q) z0 (mP (bb 0 r14.z) (K 3 (.cons 6 (.sy (.int 0 p.p.no)) (.cons 5 (.sy (.int 0 1)) (.cons 4 (.ptr 1 0) (.cons 2 (.ptr 0 0) (.cons 0 (.sy (.str p.p.t)) .nil))))) (.node (.node (.node .leaf (some (.prow 79 9 aI p.p.os aV)) .leaf) (some (.blk false 37 9 [[.sy (.prow 2 p.p.gs.length),.sy (.int 0 r14.z),.sy (.int 0 p.p.window),.sy (.int 0 p.p.deadline),.sy (.int 0 p.p.pace),.sy (.int 0 p.p.again),.sy (.int 0 p.p.bag),.sy (.int 4 p.p.first),.sy (.prow 3 p.p.os.length)]])) .leaf) (some (.blk false 37 9 [[.nilS,.int 0 (.ofNat 0),.int 0 (.ofNat 0),.int 0 (.ofNat 0),.int 0 (.ofNat 0),.int 0 (.ofNat 0),.int 0 (.ofNat 0),.int 4 (.ofNat 0),.nilS]])) (.node .leaf (some (.prow 69 3 aM p.p.gs aT)) .leaf)) 4))) true)))) true)))) (iP ((max p.p.pos (0:Int))=1) (aH (([.sy (.str p.u),.int 1 (.ofNat 32)],.leaf,0)) eE bM ce fun p11 r11=>iP ((p.p.gs.length:Int)=(0:Int)) z0 (iP (¬(r11.l.length:Int)=(2:Int)) z0 (mP (0≤(0:Int)∧(0:Int)<(r11.l.length:Int)) (ai fun x11:(List UInt8)=>iP (r11.l[0]?=some x11) (mP (((.str x11):SY)=(.str x11)) (iP (¬x11=(([119,105,110,100,111,119]:List Nat).map aaY)) z0 (mP (0≤(1:Int)∧(1:Int)<(r11.l.length:Int)) (ai fun x12:(List UInt8)=>iP (r11.l[1]?=some x12) (aH (([.sy (.str x12),.int 4 (.ofNat 1099511627776)],.leaf,0)) cF ba aU fun p12 r12=>iP (¬r12.q) z0 (mP (bb 0 r12.z) (K 3 (.cons 6 (.sy (.int 0 p.p.no)) (.cons 5 (.sy (.int 0 2)) (.cons 4 (.ptr 1 0) (.cons 2 (.ptr 0 0) (.cons 0 (.sy (.str p.p.t)) .nil))))) (.node (.node (.node .leaf (some (.prow 79 9 aI p.p.os aV)) .leaf) (some (.blk false 37 9 [[.sy (.prow 2 p.p.gs.length),.sy (.int 0 p.p.clients),.sy (.int 0 r12.z),.sy (.int 0 p.p.deadline),.sy (.int 0 p.p.pace),.sy (.int 0 p.p.again),.sy (.int 0 p.p.bag),.sy (.int 4 p.p.first),.sy (.prow 3 p.p.os.length)]])) .leaf) (some (.blk false 37 9 [[.nilS,.int 0 (.ofNat 0),.int 0 (.ofNat 0),.int 0 (.ofNat 0),.int 0 (.ofNat 0),.int 0 (.ofNat 0),.int 0 (.ofNat 0),.int 4 (.ofNat 0),.nilS]])) (.node .leaf (some (.prow 69 3 aM p.p.gs aT)) .leaf)) 4))) true)))) true)))) (iP ((max p.p.pos (0:Int))=2) (aH (([.sy (.str p.u),.int 1 (.ofNat 32)],.leaf,0)) eE bM ce fun p9 r9=>iP ((p.p.gs.length:Int)=(0:Int)) z0 (iP (¬(r9.l.length:Int)=(2:Int)) z0 (mP (0≤(0:Int)∧(0:Int)<(r9.l.length:Int)) (ai fun x9:(List UInt8)=>iP (r9.l[0]?=some x9) (mP (((.str x9):SY)=(.str x9)) (iP (¬x9=(([100,101,97,100,108,105,110,101]:List Nat).map aaY)) z0 (mP (0≤(1:Int)∧(1:Int)<(r9.l.length:Int)) (ai fun x10:(List UInt8)=>iP (r9.l[1]?=some x10) (aH (([.sy (.str x10),.int 4 (.ofNat 1099511627776)],.leaf,0)) cF ba aU fun p10 r10=>iP (¬r10.q) z0 (mP (bb 0 r10.z) (K 3 (.cons 6 (.sy (.int 0 p.p.no)) (.cons 5 (.sy (.int 0 3)) (.cons 4 (.ptr 1 0) (.cons 2 (.ptr 0 0) (.cons 0 (.sy (.str p.p.t)) .nil))))) (.node (.node (.node .leaf (some (.prow 79 9 aI p.p.os aV)) .leaf) (some (.blk false 37 9 [[.sy (.prow 2 p.p.gs.length),.sy (.int 0 p.p.clients),.sy (.int 0 p.p.window),.sy (.int 0 r10.z),.sy (.int 0 p.p.pace),.sy (.int 0 p.p.again),.sy (.int 0 p.p.bag),.sy (.int 4 p.p.first),.sy (.prow 3 p.p.os.length)]])) .leaf) (some (.blk false 37 9 [[.nilS,.int 0 (.ofNat 0),.int 0 (.ofNat 0),.int 0 (.ofNat 0),.int 0 (.ofNat 0),.int 0 (.ofNat 0),.int 0 (.ofNat 0),.int 4 (.ofNat 0),.nilS]])) (.node .leaf (some (.prow 69 3 aM p.p.gs aT)) .leaf)) 4))) true)))) true)))) (iP ((max p.p.pos (0:Int))=3) (aH (([.sy (.str p.u),.int 1 (.ofNat 32)],.leaf,0)) eE bM ce fun p7 r7=>iP ((p.p.gs.length:Int)=(0:Int)) z0 (iP (¬(r7.l.length:Int)=(2:Int)) z0 (mP (0≤(0:Int)∧(0:Int)<(r7.l.length:Int)) (ai fun x7:(List UInt8)=>iP (r7.l[0]?=some x7) (mP (((.str x7):SY)=(.str x7)) (iP (¬x7=(([112,97,99,101]:List Nat).map aaY)) z0 (mP (0≤(1:Int)∧(1:Int)<(r7.l.length:Int)) (ai fun x8:(List UInt8)=>iP (r7.l[1]?=some x8) (aH (([.sy (.str x8),.int 4 (.ofNat 1099511627776)],.leaf,0)) cF ba aU fun p8 r8=>iP (¬r8.q) z0 (mP (bb 0 r8.z) (K 3 (.cons 6 (.sy (.int 0 p.p.no)) (.cons 5 (.sy (.int 0 4)) (.cons 4 (.ptr 1 0) (.cons 2 (.ptr 0 0) (.cons 0 (.sy (.str p.p.t)) .nil))))) (.node (.node (.node .leaf (some (.prow 79 9 aI p.p.os aV)) .leaf) (some (.blk false 37 9 [[.sy (.prow 2 p.p.gs.length),.sy (.int 0 p.p.clients),.sy (.int 0 p.p.window),.sy (.int 0 p.p.deadline),.sy (.int 0 r8.z),.sy (.int 0 p.p.again),.sy (.int 0 p.p.bag),.sy (.int 4 p.p.first),.sy (.prow 3 p.p.os.length)]])) .leaf) (some (.blk false 37 9 [[.nilS,.int 0 (.ofNat 0),.int 0 (.ofNat 0),.int 0 (.ofNat 0),.int 0 (.ofNat 0),.int 0 (.ofNat 0),.int 0 (.ofNat 0),.int 4 (.ofNat 0),.nilS]])) (.node .leaf (some (.prow 69 3 aM p.p.gs aT)) .leaf)) 4))) true)))) true)))) (iP ((max p.p.pos (0:Int))=4) (aH (([.sy (.str p.u),.int 1 (.ofNat 32)],.leaf,0)) eE bM ce fun p5 r5=>iP ((p.p.gs.length:Int)=(0:Int)) z0 (iP (¬(r5.l.length:Int)=(2:Int)) z0 (mP (0≤(0:Int)∧(0:Int)<(r5.l.length:Int)) (ai fun x5:(List UInt8)=>iP (r5.l[0]?=some x5) (mP (((.str x5):SY)=(.str x5)) (iP (¬x5=(([97,103,97,105,110]:List Nat).map aaY)) z0 (mP (0≤(1:Int)∧(1:Int)<(r5.l.length:Int)) (ai fun x6:(List UInt8)=>iP (r5.l[1]?=some x6) (aH (([.sy (.str x6),.int 4 (.ofNat 1099511627776)],.leaf,0)) cF ba aU fun p6 r6=>iP (¬r6.q) z0 (mP (bb 0 r6.z) (K 3 (.cons 6 (.sy (.int 0 p.p.no)) (.cons 5 (.sy (.int 0 5)) (.cons 4 (.ptr 1 0) (.cons 2 (.ptr 0 0) (.cons 0 (.sy (.str p.p.t)) .nil))))) (.node (.node (.node .leaf (some (.prow 79 9 aI p.p.os aV)) .leaf) (some (.blk false 37 9 [[.sy (.prow 2 p.p.gs.length),.sy (.int 0 p.p.clients),.sy (.int 0 p.p.window),.sy (.int 0 p.p.deadline),.sy (.int 0 p.p.pace),.sy (.int 0 r6.z),.sy (.int 0 p.p.bag),.sy (.int 4 p.p.first),.sy (.prow 3 p.p.os.length)]])) .leaf) (some (.blk false 37 9 [[.nilS,.int 0 (.ofNat 0),.int 0 (.ofNat 0),.int 0 (.ofNat 0),.int 0 (.ofNat 0),.int 0 (.ofNat 0),.int 0 (.ofNat 0),.int 4 (.ofNat 0),.nilS]])) (.node .leaf (some (.prow 69 3 aM p.p.gs aT)) .leaf)) 4))) true)))) true)))) (iP ((max p.p.pos (0:Int))=5) (aH (([.sy (.str p.u),.int 1 (.ofNat 32)],.leaf,0)) eE bM ce fun p3 r3=>iP ((p.p.gs.length:Int)=(0:Int)) z0 (iP (¬(r3.l.length:Int)=(2:Int)) z0 (mP (0≤(0:Int)∧(0:Int)<(r3.l.length:Int)) (ai fun x3:(List UInt8)=>iP (r3.l[0]?=some x3) (mP (((.str x3):SY)=(.str x3)) (iP (¬x3=(([98,97,103]:List Nat).map aaY)) z0 (mP (0≤(1:Int)∧(1:Int)<(r3.l.length:Int)) (ai fun x4:(List UInt8)=>iP (r3.l[1]?=some x4) (aH (([.sy (.str x4),.int 4 (.ofNat 1099511627776)],.leaf,0)) cF ba aU fun p4 r4=>iP (¬r4.q) z0 (mP (bb 0 r4.z) (K 3 (.cons 6 (.sy (.int 0 p.p.no)) (.cons 5 (.sy (.int 0 6)) (.cons 4 (.ptr 1 0) (.cons 2 (.ptr 0 0) (.cons 0 (.sy (.str p.p.t)) .nil))))) (.node (.node (.node .leaf (some (.prow 79 9 aI p.p.os aV)) .leaf) (some (.blk false 37 9 [[.sy (.prow 2 p.p.gs.length),.sy (.int 0 p.p.clients),.sy (.int 0 p.p.window),.sy (.int 0 p.p.deadline),.sy (.int 0 p.p.pace),.sy (.int 0 p.p.again),.sy (.int 0 r4.z),.sy (.int 4 p.p.first),.sy (.prow 3 p.p.os.length)]])) .leaf) (some (.blk false 37 9 [[.nilS,.int 0 (.ofNat 0),.int 0 (.ofNat 0),.int 0 (.ofNat 0),.int 0 (.ofNat 0),.int 0 (.ofNat 0),.int 0 (.ofNat 0),.int 4 (.ofNat 0),.nilS]])) (.node .leaf (some (.prow 69 3 aM p.p.gs aT)) .leaf)) 4))) true)))) true)))) (iP ((max p.p.pos (0:Int))=6) (aH (([.sy (.str p.u),.int 1 (.ofNat 32)],.leaf,0)) eE bM ce fun p1 r1=>iP ((p.p.gs.length:Int)=(0:Int)) z0 (iP (¬(r1.l.length:Int)=(2:Int)) z0 (mP (0≤(0:Int)∧(0:Int)<(r1.l.length:Int)) (ai fun x1:(List UInt8)=>iP (r1.l[0]?=some x1) (mP (((.str x1):SY)=(.str x1)) (iP (¬x1=(([102,105,114,115,116]:List Nat).map aaY)) z0 (mP (0≤(1:Int)∧(1:Int)<(r1.l.length:Int)) (ai fun x2:(List UInt8)=>iP (r1.l[1]?=some x2) (aH (([.sy (.str x2),.int 4 (.ofNat 18446744073709551615)],.leaf,0)) cF ba aU fun p2 r2=>iP (¬r2.q) z0 (K 3 (.cons 6 (.sy (.int 0 p.p.no)) (.cons 5 (.sy (.int 0 7)) (.cons 4 (.ptr 1 0) (.cons 2 (.ptr 0 0) (.cons 0 (.sy (.str p.p.t)) .nil))))) (.node (.node (.node .leaf (some (.prow 79 9 aI p.p.os aV)) .leaf) (some (.blk false 37 9 [[.sy (.prow 2 p.p.gs.length),.sy (.int 0 p.p.clients),.sy (.int 0 p.p.window),.sy (.int 0 p.p.deadline),.sy (.int 0 p.p.pace),.sy (.int 0 p.p.again),.sy (.int 0 p.p.bag),.sy (.int 4 r2.z),.sy (.prow 3 p.p.os.length)]])) .leaf) (some (.blk false 37 9 [[.nilS,.int 0 (.ofNat 0),.int 0 (.ofNat 0),.int 0 (.ofNat 0),.int 0 (.ofNat 0),.int 0 (.ofNat 0),.int 0 (.ofNat 0),.int 4 (.ofNat 0),.nilS]])) (.node .leaf (some (.prow 69 3 aM p.p.gs aT)) .leaf)) 4)) true)))) true)))) (mP (False) (true))))))))) (aH (([.sy (.str p.u)],.leaf,0)) oJ kW mJ fun p15 r15=>iP (¬r15.q) z0 (mP (p.p.os.length=p.p.os.length) (aN fun m1:List aI=>mP (ie (m1.map aV) [[.sint 0 r15.o.kind,.sint 0 r15.o.x,.sint 0 r15.o.y,.sint 0 r15.o.i,.sint 0 r15.o.at_,.sint 0 r15.o.mode,.sint 3 r15.o.mask,.sint 1 r15.o.grp,.imm r15.o.hp 5 aB r15.o.ps aF]]) (mP (dW 80 (p.p.os.length+m1.length)) (K 0 (.cons 6 (.sy (.int 0 p.p.no)) (.cons 5 (.sy (.int 0 (max p.p.pos (0:Int)))) (.cons 4 (.ptr 1 0) (.cons 2 (.ptr 0 0) (.cons 0 (.sy (.str p.p.t)) .nil))))) (.node (.node (.node .leaf (some (.prow 79 9 aI (p.p.os++m1) aV)) .leaf) (some (.blk false 37 9 [[.sy (.prow 2 p.p.gs.length),.sy (.int 0 p.p.clients),.sy (.int 0 p.p.window),.sy (.int 0 p.p.deadline),.sy (.int 0 p.p.pace),.sy (.int 0 p.p.again),.sy (.int 0 p.p.bag),.sy (.int 4 p.p.first),.sy (.prow 3 ((p.p.os++m1).length))]])) .leaf) (some (.blk false 37 9 [[.nilS,.int 0 (.ofNat 0),.int 0 (.ofNat 0),.int 0 (.ofNat 0),.int 0 (.ofNat 0),.int 0 (.ofNat 0),.int 0 (.ofNat 0),.int 4 (.ofNat 0),.nilS]])) (.node .leaf (some (.prow 69 3 aM p.p.gs aT)) .leaf)) 4))))))) (by kernel_rfl) ?_
 obtain⟨hK0,hKr0⟩:=aj hK
 obtain⟨hK1,hKr1⟩:=aj hKr0
 have hK2:=hKr1
 dsimp only[iG]at hpre
 have g1:=hpre.1
 have g2:=hpre.2.1
 have g3:=hpre.2.2.1
 have g4:=hpre.2.2.2.2.1
 refine iI (fun hc1=> ?_) (fun hc1=> ?_)
 refine iI (fun hc2=> ?_) (fun hc2=> ?_)
 refine ay (⟨p.u,(32:Int)⟩:dK) rfl (by(try dsimp only[bM]);exact⟨by omega,by decide,by decide⟩) fun r13 hi3=> ?_
 dsimp only[ce]at hi3
 refine iI (fun hc4=> ?_) (fun hc4=> ?_)
 exact aq (show p.p.no=p.p.no∧∀b,¬step (bt p.p) p.u b from(by exact gK)) (az hK2 (⟨p.p.no⟩:bI))
 refine iI (fun hc5=> ?_) (fun hc5=> ?_)
 exact aq (show p.p.no=p.p.no∧∀b,¬step (bt p.p) p.u b from(by exact gK)) (az hK2 (⟨p.p.no⟩:bI))
 refine bC ?_
 refine am (fun x13=> ?_)
 refine iI (fun hi6=> ?_) (fun _=>rfl)
 refine bi ?_
 refine iI (fun hc7=> ?_) (fun hc7=> ?_)
 exact aq (show p.p.no=p.p.no∧∀b,¬step (bt p.p) p.u b from(by exact gK)) (az hK2 (⟨p.p.no⟩:bI))
 refine bC ?_
 refine am (fun x14=> ?_)
 refine iI (fun hi8=> ?_) (fun _=>rfl)
 refine ay (⟨x14,(1099511627776:Int)⟩:cv) rfl (by(try dsimp only[ba]);exact⟨fW (by assumption) (by assumption) (by omega),by decide⟩) fun r14 hi9=> ?_
 dsimp only[aU]at hi9
 refine iI (fun hc10=> ?_) (fun hc10=> ?_)
 exact aq (show p.p.no=p.p.no∧∀b,¬step (bt p.p) p.u b from(by exact gK)) (az hK2 (⟨p.p.no⟩:bI))
 refine mI (by simp only[bb];first|omega|(have hq:=cB (by assumption) (Classical.not_not.1 (by assumption));omega)) ?_
 exact aq (show jr p.p p.u ({p.p with clients:=r14.z,pos:=(1:Int)}:bD) from(by exact Eh)) (az hK1 (⟨({p.p with clients:=r14.z,pos:=(1:Int)}:bD)⟩:gu))
 refine iI (fun hc11=> ?_) (fun hc11=> ?_)
 refine ay (⟨p.u,(32:Int)⟩:dK) rfl (by(try dsimp only[bM]);exact⟨by omega,by decide,by decide⟩) fun r11 hi12=> ?_
 dsimp only[ce]at hi12
 refine iI (fun hc13=> ?_) (fun hc13=> ?_)
 exact aq (show p.p.no=p.p.no∧∀b,¬step (bt p.p) p.u b from(by exact gK)) (az hK2 (⟨p.p.no⟩:bI))
 refine iI (fun hc14=> ?_) (fun hc14=> ?_)
 exact aq (show p.p.no=p.p.no∧∀b,¬step (bt p.p) p.u b from(by exact gK)) (az hK2 (⟨p.p.no⟩:bI))
 refine bC ?_
 refine am (fun x11=> ?_)
 refine iI (fun hi15=> ?_) (fun _=>rfl)
 refine bi ?_
 refine iI (fun hc16=> ?_) (fun hc16=> ?_)
 exact aq (show p.p.no=p.p.no∧∀b,¬step (bt p.p) p.u b from(by exact gK)) (az hK2 (⟨p.p.no⟩:bI))
 refine bC ?_
 refine am (fun x12=> ?_)
 refine iI (fun hi17=> ?_) (fun _=>rfl)
 refine ay (⟨x12,(1099511627776:Int)⟩:cv) rfl (by(try dsimp only[ba]);exact⟨fW (by assumption) (by assumption) (by omega),by decide⟩) fun r12 hi18=> ?_
 dsimp only[aU]at hi18
 refine iI (fun hc19=> ?_) (fun hc19=> ?_)
 exact aq (show p.p.no=p.p.no∧∀b,¬step (bt p.p) p.u b from(by exact gK)) (az hK2 (⟨p.p.no⟩:bI))
 refine mI (by simp only[bb];first|omega|(have hq:=cB (by assumption) (Classical.not_not.1 (by assumption));omega)) ?_
 exact aq (show jr p.p p.u ({p.p with window:=r12.z,pos:=(2:Int)}:bD) from(by exact Eh)) (az hK1 (⟨({p.p with window:=r12.z,pos:=(2:Int)}:bD)⟩:gu))
 refine iI (fun hc20=> ?_) (fun hc20=> ?_)
 refine ay (⟨p.u,(32:Int)⟩:dK) rfl (by(try dsimp only[bM]);exact⟨by omega,by decide,by decide⟩) fun r9 hi21=> ?_
 dsimp only[ce]at hi21
 refine iI (fun hc22=> ?_) (fun hc22=> ?_)
 exact aq (show p.p.no=p.p.no∧∀b,¬step (bt p.p) p.u b from(by exact gK)) (az hK2 (⟨p.p.no⟩:bI))
 refine iI (fun hc23=> ?_) (fun hc23=> ?_)
 exact aq (show p.p.no=p.p.no∧∀b,¬step (bt p.p) p.u b from(by exact gK)) (az hK2 (⟨p.p.no⟩:bI))
 refine bC ?_
 refine am (fun x9=> ?_)
 refine iI (fun hi24=> ?_) (fun _=>rfl)
 refine bi ?_
 refine iI (fun hc25=> ?_) (fun hc25=> ?_)
 exact aq (show p.p.no=p.p.no∧∀b,¬step (bt p.p) p.u b from(by exact gK)) (az hK2 (⟨p.p.no⟩:bI))
 refine bC ?_
 refine am (fun x10=> ?_)
 refine iI (fun hi26=> ?_) (fun _=>rfl)
 refine ay (⟨x10,(1099511627776:Int)⟩:cv) rfl (by(try dsimp only[ba]);exact⟨fW (by assumption) (by assumption) (by omega),by decide⟩) fun r10 hi27=> ?_
 dsimp only[aU]at hi27
 refine iI (fun hc28=> ?_) (fun hc28=> ?_)
 exact aq (show p.p.no=p.p.no∧∀b,¬step (bt p.p) p.u b from(by exact gK)) (az hK2 (⟨p.p.no⟩:bI))
 refine mI (by simp only[bb];first|omega|(have hq:=cB (by assumption) (Classical.not_not.1 (by assumption));omega)) ?_
 exact aq (show jr p.p p.u ({p.p with deadline:=r10.z,pos:=(3:Int)}:bD) from(by exact Eh)) (az hK1 (⟨({p.p with deadline:=r10.z,pos:=(3:Int)}:bD)⟩:gu))
 refine iI (fun hc29=> ?_) (fun hc29=> ?_)
 refine ay (⟨p.u,(32:Int)⟩:dK) rfl (by(try dsimp only[bM]);exact⟨by omega,by decide,by decide⟩) fun r7 hi30=> ?_
 dsimp only[ce]at hi30
 refine iI (fun hc31=> ?_) (fun hc31=> ?_)
 exact aq (show p.p.no=p.p.no∧∀b,¬step (bt p.p) p.u b from(by exact gK)) (az hK2 (⟨p.p.no⟩:bI))
 refine iI (fun hc32=> ?_) (fun hc32=> ?_)
 exact aq (show p.p.no=p.p.no∧∀b,¬step (bt p.p) p.u b from(by exact gK)) (az hK2 (⟨p.p.no⟩:bI))
 refine bC ?_
 refine am (fun x7=> ?_)
 refine iI (fun hi33=> ?_) (fun _=>rfl)
 refine bi ?_
 refine iI (fun hc34=> ?_) (fun hc34=> ?_)
 exact aq (show p.p.no=p.p.no∧∀b,¬step (bt p.p) p.u b from(by exact gK)) (az hK2 (⟨p.p.no⟩:bI))
 refine bC ?_
 refine am (fun x8=> ?_)
 refine iI (fun hi35=> ?_) (fun _=>rfl)
 refine ay (⟨x8,(1099511627776:Int)⟩:cv) rfl (by(try dsimp only[ba]);exact⟨fW (by assumption) (by assumption) (by omega),by decide⟩) fun r8 hi36=> ?_
 dsimp only[aU]at hi36
 refine iI (fun hc37=> ?_) (fun hc37=> ?_)
 exact aq (show p.p.no=p.p.no∧∀b,¬step (bt p.p) p.u b from(by exact gK)) (az hK2 (⟨p.p.no⟩:bI))
 refine mI (by simp only[bb];first|omega|(have hq:=cB (by assumption) (Classical.not_not.1 (by assumption));omega)) ?_
 exact aq (show jr p.p p.u ({p.p with pace:=r8.z,pos:=(4:Int)}:bD) from(by exact Eh)) (az hK1 (⟨({p.p with pace:=r8.z,pos:=(4:Int)}:bD)⟩:gu))
 refine iI (fun hc38=> ?_) (fun hc38=> ?_)
 refine ay (⟨p.u,(32:Int)⟩:dK) rfl (by(try dsimp only[bM]);exact⟨by omega,by decide,by decide⟩) fun r5 hi39=> ?_
 dsimp only[ce]at hi39
 refine iI (fun hc40=> ?_) (fun hc40=> ?_)
 exact aq (show p.p.no=p.p.no∧∀b,¬step (bt p.p) p.u b from(by exact gK)) (az hK2 (⟨p.p.no⟩:bI))
 refine iI (fun hc41=> ?_) (fun hc41=> ?_)
 exact aq (show p.p.no=p.p.no∧∀b,¬step (bt p.p) p.u b from(by exact gK)) (az hK2 (⟨p.p.no⟩:bI))
 refine bC ?_
 refine am (fun x5=> ?_)
 refine iI (fun hi42=> ?_) (fun _=>rfl)
 refine bi ?_
 refine iI (fun hc43=> ?_) (fun hc43=> ?_)
 exact aq (show p.p.no=p.p.no∧∀b,¬step (bt p.p) p.u b from(by exact gK)) (az hK2 (⟨p.p.no⟩:bI))
 refine bC ?_
 refine am (fun x6=> ?_)
 refine iI (fun hi44=> ?_) (fun _=>rfl)
 refine ay (⟨x6,(1099511627776:Int)⟩:cv) rfl (by(try dsimp only[ba]);exact⟨fW (by assumption) (by assumption) (by omega),by decide⟩) fun r6 hi45=> ?_
 dsimp only[aU]at hi45
 refine iI (fun hc46=> ?_) (fun hc46=> ?_)
 exact aq (show p.p.no=p.p.no∧∀b,¬step (bt p.p) p.u b from(by exact gK)) (az hK2 (⟨p.p.no⟩:bI))
 refine mI (by simp only[bb];first|omega|(have hq:=cB (by assumption) (Classical.not_not.1 (by assumption));omega)) ?_
 exact aq (show jr p.p p.u ({p.p with again:=r6.z,pos:=(5:Int)}:bD) from(by exact Eh)) (az hK1 (⟨({p.p with again:=r6.z,pos:=(5:Int)}:bD)⟩:gu))
 refine iI (fun hc47=> ?_) (fun hc47=> ?_)
 refine ay (⟨p.u,(32:Int)⟩:dK) rfl (by(try dsimp only[bM]);exact⟨by omega,by decide,by decide⟩) fun r3 hi48=> ?_
 dsimp only[ce]at hi48
 refine iI (fun hc49=> ?_) (fun hc49=> ?_)
 exact aq (show p.p.no=p.p.no∧∀b,¬step (bt p.p) p.u b from(by exact gK)) (az hK2 (⟨p.p.no⟩:bI))
 refine iI (fun hc50=> ?_) (fun hc50=> ?_)
 exact aq (show p.p.no=p.p.no∧∀b,¬step (bt p.p) p.u b from(by exact gK)) (az hK2 (⟨p.p.no⟩:bI))
 refine bC ?_
 refine am (fun x3=> ?_)
 refine iI (fun hi51=> ?_) (fun _=>rfl)
 refine bi ?_
 refine iI (fun hc52=> ?_) (fun hc52=> ?_)
 exact aq (show p.p.no=p.p.no∧∀b,¬step (bt p.p) p.u b from(by exact gK)) (az hK2 (⟨p.p.no⟩:bI))
 refine bC ?_
 refine am (fun x4=> ?_)
 refine iI (fun hi53=> ?_) (fun _=>rfl)
 refine ay (⟨x4,(1099511627776:Int)⟩:cv) rfl (by(try dsimp only[ba]);exact⟨fW (by assumption) (by assumption) (by omega),by decide⟩) fun r4 hi54=> ?_
 dsimp only[aU]at hi54
 refine iI (fun hc55=> ?_) (fun hc55=> ?_)
 exact aq (show p.p.no=p.p.no∧∀b,¬step (bt p.p) p.u b from(by exact gK)) (az hK2 (⟨p.p.no⟩:bI))
 refine mI (by simp only[bb];first|omega|(have hq:=cB (by assumption) (Classical.not_not.1 (by assumption));omega)) ?_
 exact aq (show jr p.p p.u ({p.p with bag:=r4.z,pos:=(6:Int)}:bD) from(by exact Eh)) (az hK1 (⟨({p.p with bag:=r4.z,pos:=(6:Int)}:bD)⟩:gu))
 refine iI (fun hc56=> ?_) (fun hc56=> ?_)
 refine ay (⟨p.u,(32:Int)⟩:dK) rfl (by(try dsimp only[bM]);exact⟨by omega,by decide,by decide⟩) fun r1 hi57=> ?_
 dsimp only[ce]at hi57
 refine iI (fun hc58=> ?_) (fun hc58=> ?_)
 exact aq (show p.p.no=p.p.no∧∀b,¬step (bt p.p) p.u b from(by exact gK)) (az hK2 (⟨p.p.no⟩:bI))
 refine iI (fun hc59=> ?_) (fun hc59=> ?_)
 exact aq (show p.p.no=p.p.no∧∀b,¬step (bt p.p) p.u b from(by exact gK)) (az hK2 (⟨p.p.no⟩:bI))
 refine bC ?_
 refine am (fun x1=> ?_)
 refine iI (fun hi60=> ?_) (fun _=>rfl)
 refine bi ?_
 refine iI (fun hc61=> ?_) (fun hc61=> ?_)
 exact aq (show p.p.no=p.p.no∧∀b,¬step (bt p.p) p.u b from(by exact gK)) (az hK2 (⟨p.p.no⟩:bI))
 refine bC ?_
 refine am (fun x2=> ?_)
 refine iI (fun hi62=> ?_) (fun _=>rfl)
 refine ay (⟨x2,(18446744073709551615:Int)⟩:cv) rfl (by(try dsimp only[ba]);exact⟨fW (by assumption) (by assumption) (by omega),by decide⟩) fun r2 hi63=> ?_
 dsimp only[aU]at hi63
 refine iI (fun hc64=> ?_) (fun hc64=> ?_)
 exact aq (show p.p.no=p.p.no∧∀b,¬step (bt p.p) p.u b from(by exact gK)) (az hK2 (⟨p.p.no⟩:bI))
 exact aq (show jr p.p p.u ({p.p with first:=r2.z,pos:=(7:Int)}:bD) from(by exact Eh)) (az hK1 (⟨({p.p with first:=r2.z,pos:=(7:Int)}:bD)⟩:gu))
 refine ed ?_
 rfl
 refine ay (⟨p.u⟩:ka) rfl (by(try dsimp only[kW]);first|omega|(have e1:=lD (by assumption) (Classical.not_not.1 (by assumption));omega)) fun r15 hi65=> ?_
 dsimp only[mJ]at hi65
 refine iI (fun hc66=> ?_) (fun hc66=> ?_)
 exact aq (show p.p.no=p.p.no∧∀b,¬step (bt p.p) p.u b from(by exact gK)) (az hK2 (⟨p.p.no⟩:bI))
 refine bi ?_
 refine bj [r15.o] ?_
 refine wI (mI (by(try dsimp only);(first|omega|(simp[dW]<;>omega))) ?_)
 exact aq (show jr p.p p.u ({p.p with os:=p.p.os++[r15.o],pos:=max p.p.pos (0:Int)}:bD) from(by exact Eh)) (az hK0 (⟨({p.p with os:=p.p.os++[r15.o],pos:=max p.p.pos (0:Int)}:bD)⟩:tx))
theorem Tq:dR Tryz.prog 128 0 lU false 1 Do:=by
 refine Ld (lf:=600) bH (aQ ks) (by rfl) (fun b j x h=>by cases h) (fun S M nx K h=> ?_)
 obtain⟨p,h⟩:=bR h
 obtain⟨e,h9⟩:=aa h
 clear h
 have e1:S=(lj p).1:=congrArg Prod.fst e
 have e2:M=(lj p).2.1:=congrArg (fun x=>x.2.1) e
 have e3:nx=(lj p).2.2:=congrArg (fun x=>x.2.2) e
 subst e1;subst e2;subst e3
 exact RY p K (aa h9).1 (aa h9).2
def dV (p:fQ):Nat:=p.p.t.length
noncomputable def jX (s:IL) (n:Nat) (K:KC):Bool:=aN fun q=>mP (s=kE q∧dV q<n) (tJ q K)
theorem lE {p q:fQ} {K:KC} {s:IL} (hm:dV q<dV p:=by dsimp only[dV]<;>(first|exact Zd (by assumption) (Classical.not_not.1 (by assumption)) (by assumption)|(have e1:=lD (by assumption) (Classical.not_not.1 (by assumption));omega))) (hp:jC q:=by dsimp only[jC]<;>(first|exact YR hpre (by assumption) (Classical.not_not.1 (by assumption)) (by assumption)|exact WH hpre (by assumption) (Classical.not_not.1 (by assumption)) (by assumption))) (hK:wa q K=true:=by exact(aE (lw hK0 fun r hz=>go_step (Zs hpre) hz) (lw hK1 fun r hz=>go_ret (Zs hpre) hz))) (e:s=kE q:=by rfl):jX s (dV p) K=true:=bj q (bl ⟨e,hm⟩ (bl hp hK))
theorem Pb (p:fQ) (K:KC) (hpre:jC p) (hK:wa p K=true):(df (cj kZ) lU 600 As (kE p).1 (kE p).2.1 (kE p).2.2 (fun e S M nx=>Nat.casesOn e (aN fun q:fQ=>ac (aC ((S,M,nx)=kE q∧dV q<dV p)) (tJ q K)) (fun e2=>K (Nat.succ e2) S M nx)))=true:=by
 refine Eq.trans (b:=(iP (¬p.p.t=aW) (aH (([.sy (.str p.p.t),.int 1 (.ofNat 10)],.leaf,0)) yu nt oy fun p1 r1=>iP (¬r1.q) (K 1 (.cons 3 (.sy (.int 0 p.p.no)) (.cons 2 (.ptr 0 0) .nil)) (.node .leaf (some (.blk false 37 9 [[.nilS,.int 0 (.ofNat 0),.int 0 (.ofNat 0),.int 0 (.ofNat 0),.int 0 (.ofNat 0),.int 0 (.ofNat 0),.int 0 (.ofNat 0),.int 4 (.ofNat 0),.nilS]])) .leaf) 1) (aH (([.sy (.str r1.u)],.leaf,0)) qU mD ou fun p2 r2=>iP (p.p.pos<(0:Int)) (iP (r2.q) (iP ((p.p.gs.length:Int)<(4:Int)) (mP (p.p.gs.length=p.p.gs.length) (aN fun m1:List aM=>mP (ie (m1.map aT) [[.sint 0 r2.g.f,.sint 0 r2.g.s,.sbool r2.g.c]]) (mP (dW 24 (p.p.gs.length+m1.length)) (mP (bb 0 (p.p.no+(1:Int))) (jX ((.cons 6 (.sy (.int 0 (p.p.no+(1:Int)))) (.cons 5 (.sy (.int 0 p.p.pos)) (.cons 4 (.ptr 1 0) (.cons 2 (.ptr 0 0) (.cons 0 (.sy (.str r1.v)) .nil))))),(.node (.node (.node .leaf (some (.prow 79 9 aI p.p.os aV)) .leaf) (some (.blk false 37 9 [[.sy (.prow 2 ((p.p.gs++m1).length)),.sy (.int 0 p.p.clients),.sy (.int 0 p.p.window),.sy (.int 0 p.p.deadline),.sy (.int 0 p.p.pace),.sy (.int 0 p.p.again),.sy (.int 0 p.p.bag),.sy (.int 4 p.p.first),.sy (.prow 3 p.p.os.length)]])) .leaf) (some (.blk false 37 9 [[.nilS,.int 0 (.ofNat 0),.int 0 (.ofNat 0),.int 0 (.ofNat 0),.int 0 (.ofNat 0),.int 0 (.ofNat 0),.int 0 (.ofNat 0),.int 4 (.ofNat 0),.nilS]])) (.node .leaf (some (.prow 69 3 aM (p.p.gs++m1) aT)) .leaf)),4) (dV p) K))))) (aN fun p3:gk=>mP (((.cons 7 (.sy (.str r1.u)) (.cons 6 (.sy (.int 0 p.p.no)) (.cons 5 (.sy (.int 0 p.p.pos)) (.cons 4 (.ptr 1 0) (.cons 2 (.ptr 0 0) (.cons 0 (.sy (.str r1.v)) .nil)))))),(.node (.node (.node .leaf (some (.prow 79 9 aI p.p.os aV)) .leaf) (some (.blk false 37 9 [[.sy (.prow 2 p.p.gs.length),.sy (.int 0 p.p.clients),.sy (.int 0 p.p.window),.sy (.int 0 p.p.deadline),.sy (.int 0 p.p.pace),.sy (.int 0 p.p.again),.sy (.int 0 p.p.bag),.sy (.int 4 p.p.first),.sy (.prow 3 p.p.os.length)]])) .leaf) (some (.blk false 37 9 [[.nilS,.int 0 (.ofNat 0),.int 0 (.ofNat 0),.int 0 (.ofNat 0),.int 0 (.ofNat 0),.int 0 (.ofNat 0),.int 0 (.ofNat 0),.int 4 (.ofNat 0),.nilS]])) (.node .leaf (some (.prow 69 3 aM p.p.gs aT)) .leaf)),4)=lj p3) (mP (iG p3) (ac (ai fun r5:tx=>iP (xK p3 r5) (mP (bb 0 (r5.r.no+(1:Int))) (jX ((.cons 6 (.sy (.int 0 (r5.r.no+(1:Int)))) (.cons 5 (.sy (.int 0 r5.r.pos)) (.cons 4 (.ptr 1 0) (.cons 2 (.ptr 0 0) (.cons 0 (.sy (.str r5.r.t)) .nil))))),(.node (.node (.node .leaf (some (.prow 79 9 aI r5.r.os aV)) .leaf) (some (.blk false 37 9 [[.sy (.prow 2 r5.r.gs.length),.sy (.int 0 r5.r.clients),.sy (.int 0 r5.r.window),.sy (.int 0 r5.r.deadline),.sy (.int 0 r5.r.pace),.sy (.int 0 r5.r.again),.sy (.int 0 r5.r.bag),.sy (.int 4 r5.r.first),.sy (.prow 3 r5.r.os.length)]])) .leaf) (some (.blk false 37 9 [[.nilS,.int 0 (.ofNat 0),.int 0 (.ofNat 0),.int 0 (.ofNat 0),.int 0 (.ofNat 0),.int 0 (.ofNat 0),.int 0 (.ofNat 0),.int 4 (.ofNat 0),.nilS]])) (.node .leaf (some (.prow 69 3 aM r5.r.gs aT)) .leaf)),4) (dV p) K)) true) (ac (ai fun r4:gu=>iP (ub p3 r4) (mP (bb 0 (r4.r.no+(1:Int))) (jX ((.cons 6 (.sy (.int 0 (r4.r.no+(1:Int)))) (.cons 5 (.sy (.int 0 r4.r.pos)) (.cons 4 (.ptr 1 0) (.cons 2 (.ptr 0 0) (.cons 0 (.sy (.str r4.r.t)) .nil))))),(.node (.node (.node .leaf (some (.prow 79 9 aI r4.r.os aV)) .leaf) (some (.blk false 37 9 [[.sy (.prow 2 r4.r.gs.length),.sy (.int 0 r4.r.clients),.sy (.int 0 r4.r.window),.sy (.int 0 r4.r.deadline),.sy (.int 0 r4.r.pace),.sy (.int 0 r4.r.again),.sy (.int 0 r4.r.bag),.sy (.int 4 r4.r.first),.sy (.prow 3 r4.r.os.length)]])) .leaf) (some (.blk false 37 9 [[.nilS,.int 0 (.ofNat 0),.int 0 (.ofNat 0),.int 0 (.ofNat 0),.int 0 (.ofNat 0),.int 0 (.ofNat 0),.int 0 (.ofNat 0),.int 4 (.ofNat 0),.nilS]])) (.node .leaf (some (.prow 69 3 aM r4.r.gs aT)) .leaf)),4) (dV p) K)) true) (ai fun r3:bI=>iP (ua p3 r3) (K 1 (.cons 3 (.sy (.int 0 r3.n)) (.cons 2 (.ptr 0 0) .nil)) (.node .leaf (some (.blk false 37 9 [[.nilS,.int 0 (.ofNat 0),.int 0 (.ofNat 0),.int 0 (.ofNat 0),.int 0 (.ofNat 0),.int 0 (.ofNat 0),.int 0 (.ofNat 0),.int 4 (.ofNat 0),.nilS]])) .leaf) 1) true)))))) (aN fun p4:gk=>mP (((.cons 7 (.sy (.str r1.u)) (.cons 6 (.sy (.int 0 p.p.no)) (.cons 5 (.sy (.int 0 p.p.pos)) (.cons 4 (.ptr 1 0) (.cons 2 (.ptr 0 0) (.cons 0 (.sy (.str r1.v)) .nil)))))),(.node (.node (.node .leaf (some (.prow 79 9 aI p.p.os aV)) .leaf) (some (.blk false 37 9 [[.sy (.prow 2 p.p.gs.length),.sy (.int 0 p.p.clients),.sy (.int 0 p.p.window),.sy (.int 0 p.p.deadline),.sy (.int 0 p.p.pace),.sy (.int 0 p.p.again),.sy (.int 0 p.p.bag),.sy (.int 4 p.p.first),.sy (.prow 3 p.p.os.length)]])) .leaf) (some (.blk false 37 9 [[.nilS,.int 0 (.ofNat 0),.int 0 (.ofNat 0),.int 0 (.ofNat 0),.int 0 (.ofNat 0),.int 0 (.ofNat 0),.int 0 (.ofNat 0),.int 4 (.ofNat 0),.nilS]])) (.node .leaf (some (.prow 69 3 aM p.p.gs aT)) .leaf)),4)=lj p4) (mP (iG p4) (ac (ai fun r8:tx=>iP (xK p4 r8) (mP (bb 0 (r8.r.no+(1:Int))) (jX ((.cons 6 (.sy (.int 0 (r8.r.no+(1:Int)))) (.cons 5 (.sy (.int 0 r8.r.pos)) (.cons 4 (.ptr 1 0) (.cons 2 (.ptr 0 0) (.cons 0 (.sy (.str r8.r.t)) .nil))))),(.node (.node (.node .leaf (some (.prow 79 9 aI r8.r.os aV)) .leaf) (some (.blk false 37 9 [[.sy (.prow 2 r8.r.gs.length),.sy (.int 0 r8.r.clients),.sy (.int 0 r8.r.window),.sy (.int 0 r8.r.deadline),.sy (.int 0 r8.r.pace),.sy (.int 0 r8.r.again),.sy (.int 0 r8.r.bag),.sy (.int 4 r8.r.first),.sy (.prow 3 r8.r.os.length)]])) .leaf) (some (.blk false 37 9 [[.nilS,.int 0 (.ofNat 0),.int 0 (.ofNat 0),.int 0 (.ofNat 0),.int 0 (.ofNat 0),.int 0 (.ofNat 0),.int 0 (.ofNat 0),.int 4 (.ofNat 0),.nilS]])) (.node .leaf (some (.prow 69 3 aM r8.r.gs aT)) .leaf)),4) (dV p) K)) true) (ac (ai fun r7:gu=>iP (ub p4 r7) (mP (bb 0 (r7.r.no+(1:Int))) (jX ((.cons 6 (.sy (.int 0 (r7.r.no+(1:Int)))) (.cons 5 (.sy (.int 0 r7.r.pos)) (.cons 4 (.ptr 1 0) (.cons 2 (.ptr 0 0) (.cons 0 (.sy (.str r7.r.t)) .nil))))),(.node (.node (.node .leaf (some (.prow 79 9 aI r7.r.os aV)) .leaf) (some (.blk false 37 9 [[.sy (.prow 2 r7.r.gs.length),.sy (.int 0 r7.r.clients),.sy (.int 0 r7.r.window),.sy (.int 0 r7.r.deadline),.sy (.int 0 r7.r.pace),.sy (.int 0 r7.r.again),.sy (.int 0 r7.r.bag),.sy (.int 4 r7.r.first),.sy (.prow 3 r7.r.os.length)]])) .leaf) (some (.blk false 37 9 [[.nilS,.int 0 (.ofNat 0),.int 0 (.ofNat 0),.int 0 (.ofNat 0),.int 0 (.ofNat 0),.int 0 (.ofNat 0),.int 0 (.ofNat 0),.int 4 (.ofNat 0),.nilS]])) (.node .leaf (some (.prow 69 3 aM r7.r.gs aT)) .leaf)),4) (dV p) K)) true) (ai fun r6:bI=>iP (ua p4 r6) (K 1 (.cons 3 (.sy (.int 0 r6.n)) (.cons 2 (.ptr 0 0) .nil)) (.node .leaf (some (.blk false 37 9 [[.nilS,.int 0 (.ofNat 0),.int 0 (.ofNat 0),.int 0 (.ofNat 0),.int 0 (.ofNat 0),.int 0 (.ofNat 0),.int 0 (.ofNat 0),.int 4 (.ofNat 0),.nilS]])) .leaf) 1) true)))))) (aN fun p5:gk=>mP (((.cons 7 (.sy (.str r1.u)) (.cons 6 (.sy (.int 0 p.p.no)) (.cons 5 (.sy (.int 0 p.p.pos)) (.cons 4 (.ptr 1 0) (.cons 2 (.ptr 0 0) (.cons 0 (.sy (.str r1.v)) .nil)))))),(.node (.node (.node .leaf (some (.prow 79 9 aI p.p.os aV)) .leaf) (some (.blk false 37 9 [[.sy (.prow 2 p.p.gs.length),.sy (.int 0 p.p.clients),.sy (.int 0 p.p.window),.sy (.int 0 p.p.deadline),.sy (.int 0 p.p.pace),.sy (.int 0 p.p.again),.sy (.int 0 p.p.bag),.sy (.int 4 p.p.first),.sy (.prow 3 p.p.os.length)]])) .leaf) (some (.blk false 37 9 [[.nilS,.int 0 (.ofNat 0),.int 0 (.ofNat 0),.int 0 (.ofNat 0),.int 0 (.ofNat 0),.int 0 (.ofNat 0),.int 0 (.ofNat 0),.int 4 (.ofNat 0),.nilS]])) (.node .leaf (some (.prow 69 3 aM p.p.gs aT)) .leaf)),4)=lj p5) (mP (iG p5) (ac (ai fun r11:tx=>iP (xK p5 r11) (mP (bb 0 (r11.r.no+(1:Int))) (jX ((.cons 6 (.sy (.int 0 (r11.r.no+(1:Int)))) (.cons 5 (.sy (.int 0 r11.r.pos)) (.cons 4 (.ptr 1 0) (.cons 2 (.ptr 0 0) (.cons 0 (.sy (.str r11.r.t)) .nil))))),(.node (.node (.node .leaf (some (.prow 79 9 aI r11.r.os aV)) .leaf) (some (.blk false 37 9 [[.sy (.prow 2 r11.r.gs.length),.sy (.int 0 r11.r.clients),.sy (.int 0 r11.r.window),.sy (.int 0 r11.r.deadline),.sy (.int 0 r11.r.pace),.sy (.int 0 r11.r.again),.sy (.int 0 r11.r.bag),.sy (.int 4 r11.r.first),.sy (.prow 3 r11.r.os.length)]])) .leaf) (some (.blk false 37 9 [[.nilS,.int 0 (.ofNat 0),.int 0 (.ofNat 0),.int 0 (.ofNat 0),.int 0 (.ofNat 0),.int 0 (.ofNat 0),.int 0 (.ofNat 0),.int 4 (.ofNat 0),.nilS]])) (.node .leaf (some (.prow 69 3 aM r11.r.gs aT)) .leaf)),4) (dV p) K)) true) (ac (ai fun r10:gu=>iP (ub p5 r10) (mP (bb 0 (r10.r.no+(1:Int))) (jX ((.cons 6 (.sy (.int 0 (r10.r.no+(1:Int)))) (.cons 5 (.sy (.int 0 r10.r.pos)) (.cons 4 (.ptr 1 0) (.cons 2 (.ptr 0 0) (.cons 0 (.sy (.str r10.r.t)) .nil))))),(.node (.node (.node .leaf (some (.prow 79 9 aI r10.r.os aV)) .leaf) (some (.blk false 37 9 [[.sy (.prow 2 r10.r.gs.length),.sy (.int 0 r10.r.clients),.sy (.int 0 r10.r.window),.sy (.int 0 r10.r.deadline),.sy (.int 0 r10.r.pace),.sy (.int 0 r10.r.again),.sy (.int 0 r10.r.bag),.sy (.int 4 r10.r.first),.sy (.prow 3 r10.r.os.length)]])) .leaf) (some (.blk false 37 9 [[.nilS,.int 0 (.ofNat 0),.int 0 (.ofNat 0),.int 0 (.ofNat 0),.int 0 (.ofNat 0),.int 0 (.ofNat 0),.int 0 (.ofNat 0),.int 4 (.ofNat 0),.nilS]])) (.node .leaf (some (.prow 69 3 aM r10.r.gs aT)) .leaf)),4) (dV p) K)) true) (ai fun r9:bI=>iP (ua p5 r9) (K 1 (.cons 3 (.sy (.int 0 r9.n)) (.cons 2 (.ptr 0 0) .nil)) (.node .leaf (some (.blk false 37 9 [[.nilS,.int 0 (.ofNat 0),.int 0 (.ofNat 0),.int 0 (.ofNat 0),.int 0 (.ofNat 0),.int 0 (.ofNat 0),.int 0 (.ofNat 0),.int 4 (.ofNat 0),.nilS]])) .leaf) 1) true))))))) (K 2 (.cons 6 (.sy (.int 0 p.p.no)) (.cons 5 (.sy (.int 0 p.p.pos)) (.cons 4 (.ptr 1 0) (.cons 2 (.ptr 0 0) .nil)))) (.node (.node (.node .leaf (some (.prow 79 9 aI p.p.os aV)) .leaf) (some (.blk false 37 9 [[.sy (.prow 2 p.p.gs.length),.sy (.int 0 p.p.clients),.sy (.int 0 p.p.window),.sy (.int 0 p.p.deadline),.sy (.int 0 p.p.pace),.sy (.int 0 p.p.again),.sy (.int 0 p.p.bag),.sy (.int 4 p.p.first),.sy (.prow 3 p.p.os.length)]])) .leaf) (some (.blk false 37 9 [[.nilS,.int 0 (.ofNat 0),.int 0 (.ofNat 0),.int 0 (.ofNat 0),.int 0 (.ofNat 0),.int 0 (.ofNat 0),.int 0 (.ofNat 0),.int 4 (.ofNat 0),.nilS]])) (.node .leaf (some (.prow 69 3 aM p.p.gs aT)) .leaf)) 4))) (by kernel_rfl) ?_
 obtain⟨hK0,hKr0⟩:=aj hK
 have hK1:=hKr0
 dsimp only[jC]at hpre
 have g1:=hpre.1
 have g2:=hpre.2.1
 have g3:=hpre.2.2.1
 have g4:=hpre.2.2.2.1
 refine iI (fun hc1=> ?_) (fun hc1=> ?_)
 refine ay (⟨p.p.t,(10:Int)⟩:rU) rfl (by(try dsimp only[nt]);exact⟨by omega,by decide,by decide⟩) fun r1 hi2=> ?_
 dsimp only[oy]at hi2
 refine iI (fun hc3=> ?_) (fun hc3=> ?_)
 exact aq (show eI (bt p.p) p.p.no p.p.t gn p.p.no from(by first|exact xI (by assumption) (by assumption) (by assumption)|exact BZ (by assumption) (Classical.not_not.1 (by assumption)) (by assumption))) (az hK1 (⟨p.p.no⟩:lH))
 refine ay (⟨r1.u⟩:lK) rfl (by(try dsimp only[mD]);first|omega|(have e1:=lD (by assumption) (Classical.not_not.1 (by assumption));omega)) fun r2 hi4=> ?_
 dsimp only[ou]at hi4
 refine iI (fun hc5=> ?_) (fun hc5=> ?_)
 refine iI (fun hc6=> ?_) (fun hc6=> ?_)
 refine iI (fun hc7=> ?_) (fun hc7=> ?_)
 refine bi ?_
 refine bj [r2.g] ?_
 refine wI (mI (by(try dsimp only);(first|omega|(simp[dW]<;>omega))) (mI (by simp only[bb];first|omega|(have e:=uv (by assumption);omega)) ?_))
 exact lE (q:=⟨({p.p with gs:=p.p.gs++[r2.g],no:=p.p.no+(1:Int),t:=r1.v}:bD)⟩)
 refine eX (⟨({p.p with t:=r1.v}:bD),r1.u⟩:gk) rfl (by(try dsimp only[iG]);exact LV hpre (by assumption) (Classical.not_not.1 (by assumption)) (by assumption) (by first|exact .inl (by assumption)|exact .inr (.inl (by assumption))|exact .inr (.inr (by assumption)))) ?_
 refine aE ?_ ?_
 refine am (fun r5=> ?_)
 refine iI (p:=jr ({p.p with t:=r1.v}:bD) r1.u r5.r) (fun hi8=> ?_) (fun _=>rfl)
 refine mI (by simp only[bb];first|omega|(have e:=uv (by assumption);omega)) ?_
 exact lE (q:=⟨({r5.r with no:=r5.r.no+(1:Int)}:bD)⟩)
 refine aE ?_ ?_
 refine am (fun r4=> ?_)
 refine iI (p:=jr ({p.p with t:=r1.v}:bD) r1.u r4.r) (fun hi9=> ?_) (fun _=>rfl)
 refine mI (by simp only[bb];first|omega|(have e:=uv (by assumption);omega)) ?_
 exact lE (q:=⟨({r4.r with no:=r4.r.no+(1:Int)}:bD)⟩)
 refine am (fun r3=> ?_)
 refine iI (p:=r3.n=p.p.no∧∀b,¬step (bt ({p.p with t:=r1.v}:bD)) r1.u b) (fun hi10=> ?_) (fun _=>rfl)
 exact aq (show eI (bt p.p) p.p.no p.p.t gn r3.n from(by first|exact xI (by assumption) (by assumption) (by assumption)|exact BZ (by assumption) (Classical.not_not.1 (by assumption)) (by assumption))) (az hK1 (⟨r3.n⟩:lH))
 refine eX (⟨({p.p with t:=r1.v}:bD),r1.u⟩:gk) rfl (by(try dsimp only[iG]);exact LV hpre (by assumption) (Classical.not_not.1 (by assumption)) (by assumption) (by first|exact .inl (by assumption)|exact .inr (.inl (by assumption))|exact .inr (.inr (by assumption)))) ?_
 refine aE ?_ ?_
 refine am (fun r8=> ?_)
 refine iI (p:=jr ({p.p with t:=r1.v}:bD) r1.u r8.r) (fun hi11=> ?_) (fun _=>rfl)
 refine mI (by simp only[bb];first|omega|(have e:=uv (by assumption);omega)) ?_
 exact lE (q:=⟨({r8.r with no:=r8.r.no+(1:Int)}:bD)⟩)
 refine aE ?_ ?_
 refine am (fun r7=> ?_)
 refine iI (p:=jr ({p.p with t:=r1.v}:bD) r1.u r7.r) (fun hi12=> ?_) (fun _=>rfl)
 refine mI (by simp only[bb];first|omega|(have e:=uv (by assumption);omega)) ?_
 exact lE (q:=⟨({r7.r with no:=r7.r.no+(1:Int)}:bD)⟩)
 refine am (fun r6=> ?_)
 refine iI (p:=r6.n=p.p.no∧∀b,¬step (bt ({p.p with t:=r1.v}:bD)) r1.u b) (fun hi13=> ?_) (fun _=>rfl)
 exact aq (show eI (bt p.p) p.p.no p.p.t gn r6.n from(by first|exact xI (by assumption) (by assumption) (by assumption)|exact BZ (by assumption) (Classical.not_not.1 (by assumption)) (by assumption))) (az hK1 (⟨r6.n⟩:lH))
 refine eX (⟨({p.p with t:=r1.v}:bD),r1.u⟩:gk) rfl (by(try dsimp only[iG]);exact LV hpre (by assumption) (Classical.not_not.1 (by assumption)) (by assumption) (by first|exact .inl (by assumption)|exact .inr (.inl (by assumption))|exact .inr (.inr (by assumption)))) ?_
 refine aE ?_ ?_
 refine am (fun r11=> ?_)
 refine iI (p:=jr ({p.p with t:=r1.v}:bD) r1.u r11.r) (fun hi14=> ?_) (fun _=>rfl)
 refine mI (by simp only[bb];first|omega|(have e:=uv (by assumption);omega)) ?_
 exact lE (q:=⟨({r11.r with no:=r11.r.no+(1:Int)}:bD)⟩)
 refine aE ?_ ?_
 refine am (fun r10=> ?_)
 refine iI (p:=jr ({p.p with t:=r1.v}:bD) r1.u r10.r) (fun hi15=> ?_) (fun _=>rfl)
 refine mI (by simp only[bb];first|omega|(have e:=uv (by assumption);omega)) ?_
 exact lE (q:=⟨({r10.r with no:=r10.r.no+(1:Int)}:bD)⟩)
 refine am (fun r9=> ?_)
 refine iI (p:=r9.n=p.p.no∧∀b,¬step (bt ({p.p with t:=r1.v}:bD)) r1.u b) (fun hi16=> ?_) (fun _=>rfl)
 exact aq (show eI (bt p.p) p.p.no p.p.t gn r9.n from(by first|exact xI (by assumption) (by assumption) (by assumption)|exact BZ (by assumption) (Classical.not_not.1 (by assumption)) (by assumption))) (az hK1 (⟨r9.n⟩:lH))
 exact aq (show Bz p.p ({p.p with t:=([]:List UInt8)}:bD)∧jt ({p.p with t:=([]:List UInt8)}:bD)∧([]:List UInt8)=[] from(by exact go_nil (Classical.not_not.1 (by assumption)) hpre)) (az hK0 (⟨({p.p with t:=([]:List UInt8)}:bD)⟩:yq))
theorem Qm:dR Tryz.prog 128 0 lU true 0 As:=by
 exact gm (lf:=600) bH (aQ ks) (by rfl) kE dV tJ (fun b j x h=>(cG Tq (fun h=>(by cases h)) h)) (fun S M nx K h=>by obtain⟨p,h⟩:=bR h;exact⟨p,(aa h).1,(aa h).2⟩) (fun p K h=>Pb p K (aa h).1 (aa h).2)
structure ke where
 t:List UInt8
structure AD where
 s:vA
 n:Int
def jJ (p:ke) (r:AD):Prop:=mN p.t r.s r.n
noncomputable def lI (p:ke):IE:=([.sy (.str p.t)],.leaf,0)
noncomputable def pf (p:ke) (K:KE):Bool:=ai fun r:AD=>iP (jJ p r) (K (.tup [.agg [.sy (.imm r.s.hg 3 aM r.s.gs aT),.sy (.int 0 r.s.clients),.sy (.int 0 r.s.window),.sy (.int 0 r.s.deadline),.sy (.int 0 r.s.pace),.sy (.int 0 r.s.again),.sy (.int 0 r.s.bag),.sy (.int 4 r.s.first),.sy (.imm r.s.ho 9 aI r.s.os aV)],.sy (.int 0 r.n)]) .leaf 0) true
def gB (p:ke):Prop:=p.t.length≤70000
theorem uU {p:ke} {K:KE} (hK:pf p K=true) (r:AD) (h:jJ p r:=by dsimp only[jJ]<;>(first|exact JL (by assumption)|exact Nu (by assumption) (by assumption)|exact PN (by assumption) (by assumption))):K (.tup [.agg [.sy (.imm r.s.hg 3 aM r.s.gs aT),.sy (.int 0 r.s.clients),.sy (.int 0 r.s.window),.sy (.int 0 r.s.deadline),.sy (.int 0 r.s.pace),.sy (.int 0 r.s.again),.sy (.int 0 r.s.bag),.sy (.int 4 r.s.first),.sy (.imm r.s.ho 9 aI r.s.os aV)],.sy (.int 0 r.n)]) .leaf 0=true:=aq h (az hK r)
theorem MP (p:ke) (K:KE) (hpre:gB p) (hK:pf p K=true):(cw 0 (cj kZ) lU 600 Eu (lI p).1 (lI p).2.1 (lI p).2.2 K)=true:=by
 refine Eq.trans (b:=(mP ((.nilS:AV)=(.nilS:AV)) (mP ((.nilS:AV)=(.nilS:AV)) (aN fun p1:fQ=>mP (((.cons 6 (.sy (.int 0 1)) (.cons 5 (.sy (.int 0 (-1))) (.cons 4 (.ptr 1 0) (.cons 2 (.ptr 0 0) (.cons 0 (.sy (.str p.t)) .nil))))),(.node (.node (.node .leaf (some (.prow 79 9 aI ([]:List aI) aV)) .leaf) (some (.blk false 37 9 [[.sy (.prow 2 0),.sy (.int 0 0),.sy (.int 0 0),.sy (.int 0 0),.sy (.int 0 0),.sy (.int 0 0),.sy (.int 0 0),.sy (.int 4 0),.sy (.prow 3 0)]])) .leaf) (some (.blk false 37 9 [[.nilS,.int 0 (.ofNat 0),.int 0 (.ofNat 0),.int 0 (.ofNat 0),.int 0 (.ofNat 0),.int 0 (.ofNat 0),.int 0 (.ofNat 0),.int 4 (.ofNat 0),.nilS]])) (.node .leaf (some (.prow 69 3 aM ([]:List aM) aT)) .leaf)),4)=kE p1) (mP (jC p1) (ac (ai fun r2:yq=>iP (Ga p1 r2) (iP (r2.r.pos<(7:Int)) (mP ((.nilS:AV)=(.nilS:AV)) (mP (0=([]:List aM).length) (ai fun h3:Value=>mP ((.sy (.prow 4 0):AV)=(.sy (.prow 4 0):AV)) (mP ((.nilS:AV)=(.nilS:AV)) (mP (0=([]:List aI).length) (ai fun h4:Value=>mP ((.sy (.prow 5 0):AV)=(.sy (.prow 5 0):AV)) (K (.tup [.agg [.sy (.imm h3 3 aM ([]:List aM) aT),.sy (.int 0 0),.sy (.int 0 0),.sy (.int 0 0),.sy (.int 0 0),.sy (.int 0 0),.sy (.int 0 0),.sy (.int 4 0),.sy (.imm h4 9 aI ([]:List aI) aV)],.sy (.int 0 r2.r.no)]) .leaf 0))))))) (mP (r2.r.gs.length=r2.r.gs.length) (ai fun h5:Value=>mP ((.sy (.prow 2 r2.r.gs.length):AV)=(.sy (.prow 2 r2.r.gs.length):AV)) (mP (r2.r.os.length=r2.r.os.length) (ai fun h6:Value=>mP ((.sy (.prow 3 r2.r.os.length):AV)=(.sy (.prow 3 r2.r.os.length):AV)) (K (.tup [.agg [.sy (.imm h5 3 aM r2.r.gs aT),.sy (.int 0 r2.r.clients),.sy (.int 0 r2.r.window),.sy (.int 0 r2.r.deadline),.sy (.int 0 r2.r.pace),.sy (.int 0 r2.r.again),.sy (.int 0 r2.r.bag),.sy (.int 4 r2.r.first),.sy (.imm h6 9 aI r2.r.os aV)],.sy (.int 0 0)]) .leaf 0)))))) true) (ai fun r1:lH=>iP (DQ p1 r1) (mP ((.nilS:AV)=(.nilS:AV)) (mP (0=([]:List aM).length) (ai fun h1:Value=>mP ((.sy (.prow 1 0):AV)=(.sy (.prow 1 0):AV)) (mP ((.nilS:AV)=(.nilS:AV)) (mP (0=([]:List aI).length) (ai fun h2:Value=>mP ((.sy (.prow 2 0):AV)=(.sy (.prow 2 0):AV)) (K (.tup [.agg [.sy (.imm h1 3 aM ([]:List aM) aT),.sy (.int 0 0),.sy (.int 0 0),.sy (.int 0 0),.sy (.int 0 0),.sy (.int 0 0),.sy (.int 0 0),.sy (.int 4 0),.sy (.imm h2 9 aI ([]:List aI) aV)],.sy (.int 0 r1.n)]) .leaf 0))))))) true))))))) (by kernel_rfl) ?_
 dsimp only[gB]at hpre
 refine bi (bi ?_)
 refine eX (⟨⟨([]:List aM),(0:Int),(0:Int),(0:Int),(0:Int),(0:Int),(0:Int),(0:Int),([]:List aI),((-1):Int),(1:Int),p.t⟩⟩:fQ) rfl (by(try dsimp only[jC]);exact WE (by omega)) ?_
 refine aE ?_ ?_
 refine am (fun r2=> ?_)
 refine iI (p:=Bz (⟨([]:List aM),(0:Int),(0:Int),(0:Int),(0:Int),(0:Int),(0:Int),(0:Int),([]:List aI),((-1):Int),(1:Int),p.t⟩:bD) r2.r∧jt r2.r∧r2.r.t=[]) (fun hi1=> ?_) (fun _=>rfl)
 refine iI (fun hc2=> ?_) (fun hc2=> ?_)
 refine bi (bi ?_)
 refine am (fun h3=> ?_)
 refine bi (bi (bi ?_))
 refine am (fun h4=> ?_)
 refine bi ?_
 exact uU hK ⟨⟨h3,([]:List aM),(0:Int),(0:Int),(0:Int),(0:Int),(0:Int),(0:Int),(0:Int),h4,([]:List aI)⟩,r2.r.no⟩
 refine bi ?_
 refine am (fun h5=> ?_)
 refine bi (bi ?_)
 refine am (fun h6=> ?_)
 refine bi ?_
 exact uU hK ⟨⟨h5,r2.r.gs,r2.r.clients,r2.r.window,r2.r.deadline,r2.r.pace,r2.r.again,r2.r.bag,r2.r.first,h6,r2.r.os⟩,(0:Int)⟩
 refine am (fun r1=> ?_)
 refine iI (p:=eI (bt (⟨([]:List aM),(0:Int),(0:Int),(0:Int),(0:Int),(0:Int),(0:Int),(0:Int),([]:List aI),((-1):Int),(1:Int),p.t⟩:bD)) (1:Int) p.t gn r1.n) (fun hi3=> ?_) (fun _=>rfl)
 refine bi (bi ?_)
 refine am (fun h1=> ?_)
 refine bi (bi (bi ?_))
 refine am (fun h2=> ?_)
 refine bi ?_
 exact uU hK ⟨⟨h1,([]:List aM),(0:Int),(0:Int),(0:Int),(0:Int),(0:Int),(0:Int),(0:Int),h2,([]:List aI)⟩,r1.n⟩
theorem NK:bS Tryz.prog 7 0 (ck lI (dP gB pf)):=(cM (f:=7) (k:=0) (lp:=lU) (lf:=600) bH (aQ ks) HC (by rfl) (fun b j x h=>(cG Qm (fun h=>(by cases h)) h)) fun p K h=>MP p K (aa h).1 (aa h).2)
noncomputable def Bn:=bN kZ 0 (ck lI (dP gB pf)) 7 [(0,22)]
theorem EO:aZ Tryz.prog Bn:=aR NK ks
end Go.Proofs.Tryz
namespace Go.Proofs.YtacomabmhnodlaaGreatDoor
open Go Go.RowKit Go.Shelf
attribute [local go_sem] Oper.semAt_some
set_option maxRecDepth 100000 in
set_option maxHeartbeats 1000000 in
theorem Tv (s:ByteArray) (w:World):Calls Tryz.prog 16 #[.string s] w fun e w'=>e= .returned (.func (.func 44) #[] #[.pointer (some ⟨w.heap.size,0,none⟩)])∧w'=w.alloc (.cells #[.string s] 9):=by
 refine(callsIn_wide (n:=3)).1 ?_
 refine callsIn_of_wp Tryz.func16 rfl trivial ?_ rfl
 simp only[Tryz.ntmps16,List.size_toArray,aaD,List.length_nil,Nat.reduceAdd,Nat.reduceSub,Array.replicate_succ,Array.replicate_zero,List.push_toArray,List.append_toArray,List.nil_append,List.cons_append]
 gi_wp2
 go_ret
 exact⟨rfl,rfl⟩
def Mn (W:World) (Bs:Nat) (s:ByteArray):Prop:=W.cell? ⟨Bs,0,none⟩=some (.string s)∧W.frozen? ⟨Bs,0,none⟩=false
def Xn (Bs:Nat) (W:World):Nat:=match W.cell? ⟨Bs,0,none⟩ with
 |some (.string s)=>s.size
 |_=>0
theorem JZ {W:World} {Bs:Nat} {s:ByteArray} (h:Mn W Bs s):Xn Bs W=s.size:=by unfold Xn;rw[h.1]
set_option maxRecDepth 100000 in
set_option maxHeartbeats 2000000 in
theorem Qs (n l Bs:Nat) (hn:1≤n) (J:ByteArray→ByteArray→World→Prop) (Jx:World→Prop)
  (hbox:∀r b W,J r b W→Mn W Bs b∧b.size≤100000)
  (hset:∀r b b' W,b'.size≤100000→J r b W→J r b' (W.setCell ⟨Bs,0,none⟩ (.string b')))
  (hdrw:∀r b W,J r b W→J r b W.drew)
  (hY:∀(i:Nat) (r:ByteArray) W,Lib.indexByte r.data.toList 10=(i:Int)→J r (r.extract (i+1) r.size) W→YieldAt Fence.wide (n - 1) Tryz.prog l #[.string (r.extract 0 (i+1))] W fun e W'=>
   (e= .returned (.bool true)∧J (r.extract (i+1) r.size) (r.extract (i+1) r.size) W')∨(e= .returned (.bool false)∧Jx W'))
  (hZ:∀(r:ByteArray) W,0<r.size→Lib.indexByte r.data.toList 10<0→J r (⟨#[]⟩:ByteArray) W→YieldAt Fence.wide (n - 1) Tryz.prog l #[.string r] W fun e W'=>e= .returned (.bool false)∧Jx W')
  (s:ByteArray) (W:World) (h0:J s s W):
  CallsIn Fence.wide n Tryz.prog 44 #[.func (.yield l) #[] #[],.pointer (some ⟨Bs,0,none⟩)] W fun e W'=>(∃v,e= .returned v)∧((∃r,r.size=0∧J r r W')∨Jx W'):=by
 refine callsIn_of_wp Tryz.func44 rfl trivial ?_ rfl
 simp only[Tryz.ntmps44,List.size_toArray,aaD,List.length_nil,Nat.reduceAdd,Nat.reduceSub,Array.replicate_succ,Array.replicate_zero,List.push_toArray,List.append_toArray,List.nil_append,List.cons_append]
 gi_wp2
 gi_loopw [3] (fun _ wr=>∃r,J r r wr) (fun _ wr=>Xn Bs wr)
 case atStart=>exact⟨s,h0⟩
 case round=>
  obtain⟨r,hJ⟩:=hrel
  obtain⟨hb,hsm⟩:=hbox _ _ _ hJ
  have hc:=hb.1
  have hf:=hb.2
  have htn:(10:Int).toNat.toUInt8=(10:UInt8):=rfl
  by_cases hsz:0<r.size
  ·rcases Int.lt_or_le (Lib.indexByte r.data.toList 10) 0 with hneg|hpos
   ·obtain⟨f1,t1,a1,b1,hy1,hR1⟩:=hZ r (wr.setCell ⟨Bs,0,none⟩ (.string ⟨#[]⟩)) hsz hneg (hset _ _ _ _ (Nat.zero_le _) hJ)
    gi_wp2_with (refine⟨trivial,?_⟩;gi_at_call 45;refine(callsIn_wide.2 (Tryz.strings_IndexByte _ 10 _)).mono ?_;rintro e w' ⟨rfl,rfl⟩;rw[htn])
    refine hR1.mono ?_
    rintro e W2 ⟨rfl,hx⟩
    gi_wp2
    refine bodyPost_ret (results_none rfl _ _ _) rfl ?_
    exact⟨⟨_,rfl⟩,.inr hx⟩
   ·obtain⟨i,hi⟩:∃i:Nat,Lib.indexByte r.data.toList 10=(i:Int):=⟨(Lib.indexByte r.data.toList 10).toNat,by omega⟩
    have hlt:i<r.size:=by
     have:=(Lib.indexByte_some hi).1
     have h2:=(List.getElem?_eq_some_iff.1 this).1
     rw[Array.length_toList]at h2
     exact h2
    gi_wp2_with (refine⟨trivial,?_⟩;gi_at_call 45;refine(callsIn_wide.2 (Tryz.strings_IndexByte _ 10 _)).mono ?_;rintro e w' ⟨rfl,rfl⟩;rw[htn,hi])
    gi_region
    obtain⟨f1,t1,a1,b1,hy1,hR1⟩:=hY i r _ hi (hdrw _ _ _ (hset _ _ (r.extract (i+1) r.size) _ (by rw[ByteArray.size_extract];omega) hJ))
    gi_wp2
    refine hR1.mono ?_
    rintro e W2 (⟨rfl,hJ2⟩|⟨rfl,hx⟩)
    ·gi_wp2
     go_roundw
     case rel=>exact⟨_,hJ2⟩
     case measure=>
      rw[JZ (hbox _ _ _ hJ2).1,JZ hb,ByteArray.size_extract]
      omega
    ·gi_wp2
     refine bodyPost_ret (results_none rfl _ _ _) rfl ?_
     exact⟨⟨_,rfl⟩,.inr hx⟩
  ·gi_wp2
   go_end0
   exact⟨⟨_,rfl⟩,.inl ⟨r,by omega,hJ⟩⟩
end Go.Proofs.YtacomabmhnodlaaGreatDoor
