/- Definitions and lemmas of the proof, without a condition of their own. -/
import Derived.Test.YtacomabmhnodlaaGreatDoorB2
import Derived.KernelRfl
import Derived.IntWalk
open List renaming eq_nil_of_length_eq_zero→acW,length_cons→acB,length_map→acC,map_append→acO,map_cons→acH,mem_of_getElem?→acF
open Option.some renaming inj→acY
open Prod.mk renaming injEq→ac9
open UInt8 renaming ofNat→acX
namespace Go.Proofs.Tryz
open Go.Proofs.YtacomabmhnodlaaGreatDoor (Mm IF IB Qv Mk IA Qu)
open Go Go.RowKit Go.Sy
open Go.Eng hiding am
set_option maxRecDepth 1000000
set_option linter.unusedVariables false
set_option maxHeartbeats 4000000
theorem ua {P:Program} {f k:Nat}:bR P f k (fun _ _ _ _=>false):=fun us xs E ρ G F M nx w K R _ _ _ h=>by cases h
noncomputable def jR (b:List AV→T→Bool) (sA sB:cq):cq:=fun us M nx K=>Bool.rec (sB us M nx K) (sA us M nx K) (b us M)
theorem eU {P:Program} {f k:Nat} {sA sB:cq} {b:List AV→T→Bool} (hA:bR P f k sA) (hB:bR P f k sB):bR P f k (jR b sA sB):=by
 intro us xs E ρ G F M nx w K R h1 h2 h3 h4
 have h4:(Bool.rec (motive:=fun _=>Bool) (sB us M nx K) (sA us M nx K) (b us M):Bool)=true:=h4
 cases hb:b us M with
 |true=>rw[hb]at h4;exact hA us xs E ρ G F M nx w K R h1 h2 h3 h4
 |false=>rw[hb]at h4;exact hB us xs E ρ G F M nx w K R h1 h2 h3 h4
abbrev KE:=AV→T→Nat→Bool
abbrev IE:=List AV×T×Nat
abbrev IL:=SL×T×Nat
noncomputable def bJ {α:Type} (I:α→IE) (sp:α→KE→Bool):cq:=fun us M nx K=>aF fun p:α=>ac (aC ((us,M,nx)=I p)) (sp p K)
theorem bU {P:Program} (hm:P.follows .mixedOrders=true) {cf:iy} (hcf:gQ P cf) {lp:fE} {lf f k:Nat} {xf:XF} {α:Type} {I:α→IE} {sp:α→KE→Bool} (hf:bE P f xf=true) (hkp:fu k (fD xf)=true) (hlp:∀b j x,(b,j,x)∈eL (fD xf)→dI P (nOf xf) k lp b j x)
  (h:∀p K,sp p K=true→bW k cf lp lf xf (I p).1 (I p).2.1 (I p).2.2 K=true):bR P f k (bJ I sp):=
 VP hm hcf hf hkp hlp fun us M nx K hk=>by
  obtain⟨p,h1⟩:=bL hk
  obtain⟨e,h2⟩:=aa h1
  have h3:=h p K h2
  rw[←e]at h3
  exact h3
noncomputable def dr {α:Type} (pre:α→Prop) (out:α→KE→Bool) (p:α) (K:KE):Bool:=ac (aC (pre p)) (out p K)
noncomputable def bt (prev:Nat→List AV→Option ES) (k:Nat) (es:cq) (g:Nat) (l:List (Nat×Nat)) (f:Nat) (vs:List AV):Option ES:=Bool.rec (prev f vs) (some (.mk k es)) (Ow f g vs l)
def aV (P:Program) (nat:Nat→List AV→Option ES):Prop:=∀f vs k sp,nat f vs=some (.mk k sp)→bR P f k sp
theorem aR {P:Program} {prev:Nat→List AV→Option ES} {k g:Nat} {es:cq} {l:List (Nat×Nat)} (h1:bR P g k es) (h2:aV P prev):aV P (bt prev k es g l):=fun f vs k' sp h=>Tb h1 (h2 f vs k' sp) h
noncomputable def aaG:Nat→List AV→Option ES:=fun _ _=>none
theorem VQ {P:Program}:aV P aaG:=fun _ _ _ _ h=>by cases h
noncomputable def cL:fE:=fun _ _ _ _ _=>false
noncomputable def qI (k:Nat) (z:Int):Bool:=aC ((SY.int k z)= .int k z)
noncomputable def qS (l:List UInt8):Bool:=aC ((SY.str l)= .str l)
noncomputable def qY (x:SY):Bool:=aC (x=x)
noncomputable def qL (l:List Bool):Bool:=List.rec true (fun a _ r=>Bool.and a r) l
noncomputable def mP (p:Prop) (b:Bool):Bool:=ac (aC p) b
noncomputable def iP (p:Prop) (x y:Bool):Bool:=aY (aC p) x y
theorem mI {p:Prop} {b:Bool} (h:p) (k:b=true):mP p b=true:=ba h k
theorem iQ {p:Prop} {b:Bool} (k:b=true) (h:p:=by(try simp only[List.length_append,acC,acB,List.length_nil]);omega):mP p b=true:=ba h k
theorem bG {p:Prop} {b:Bool} (k:b=true) (h:p:=by simp only[bp];omega):mP p b=true:=ba h k
theorem er {p:Prop} {b:Bool} (k:b=true) (h:p:=by first|omega|(constructor<;>omega)):mP p b=true:=ba h k
theorem jE {p:Prop} {b:Bool} (k:b=true) (h:p:=by omega):mP p b=true:=ba h k
theorem Qw {p:Prop} {b:Bool} (k:b=true) (h:p:=by simp):mP p b=true:=ba h k
theorem aL {p:Prop} {b:Bool} (k:b=true) (h:p:=by exact rfl):mP p b=true:=ba h k
theorem xS {p:Prop} {b:Bool} (k:b=true) (h:p:=by refine⟨?_,trivial⟩;repeat(first|exact trivial|refine⟨.inl rfl,?_⟩)):mP p b=true:=ba h k
abbrev t_0:List UInt8:=([10]:List Nat).map acX
abbrev t_1:List UInt8:=([32]:List Nat).map acX
abbrev bF:List UInt8:=([]:List Nat).map acX
abbrev t_3:List UInt8:=([99,104,101,99,107]:List Nat).map acX
abbrev t_4:List UInt8:=([103,114,111,117,112,32]:List Nat).map acX
abbrev t_5:List UInt8:=([112,108,97,105,110]:List Nat).map acX
abbrev t_6:List UInt8:=([103,114,111,117,112,32,49,32,48,32,112,108,97,105,110,10]:List Nat).map acX
abbrev t_7:List UInt8:=([99,108,105,101,110,116,115,32,49,10]:List Nat).map acX
abbrev rJ:List UInt8:=([115,112,111,105,108]:List Nat).map acX
abbrev t_9:List UInt8:=([119,105,110,100,111,119,32,52,10]:List Nat).map acX
abbrev t_10:List UInt8:=([99,108,105,101,110,116,115,32]:List Nat).map acX
abbrev t_11:List UInt8:=([100,101,97,100,108,105,110,101,32,50,48,48,10]:List Nat).map acX
abbrev t_12:List UInt8:=([119,105,110,100,111,119,32]:List Nat).map acX
abbrev t_13:List UInt8:=([112,97,99,101,32,49,10]:List Nat).map acX
abbrev qf:List UInt8:=([58]:List Nat).map acX
abbrev t_15:List UInt8:=([100,101,97,100,108,105,110,101,32]:List Nat).map acX
abbrev t_16:List UInt8:=([97,103,97,105,110,32,53,10]:List Nat).map acX
abbrev sS:List UInt8:=([49]:List Nat).map acX
abbrev sR:List UInt8:=([50]:List Nat).map acX
abbrev sQ:List UInt8:=([51]:List Nat).map acX
abbrev t_20:List UInt8:=([112,97,99,101,32]:List Nat).map acX
abbrev t_21:List UInt8:=([98,97,103,32,53,48,48,10]:List Nat).map acX
abbrev t_22:List UInt8:=([97,103,97,105,110,32]:List Nat).map acX
abbrev t_23:List UInt8:=([102,105,114,115,116,32,49,10]:List Nat).map acX
abbrev t_24:List UInt8:=([98,97,103,32]:List Nat).map acX
abbrev t_25:List UInt8:=([102,105,114,115,116,32]:List Nat).map acX
abbrev ND:List UInt8:=([105,110,118,111,107,101]:List Nat).map acX
abbrev NC:List UInt8:=([115,108,97,121]:List Nat).map acX
abbrev NB:List UInt8:=([100,101,108,105,118,101,114]:List Nat).map acX
abbrev NA:List UInt8:=([100,114,111,112]:List Nat).map acX
abbrev Nz:List UInt8:=([116,119,105,99,101]:List Nat).map acX
abbrev Ny:List UInt8:=([116,105,99,107]:List Nat).map acX
abbrev Nx:List UInt8:=([115,117,115,112,101,99,116]:List Nat).map acX
abbrev Nw:List UInt8:=([99,114,97,115,104]:List Nat).map acX
abbrev Nv:List UInt8:=([114,101,115,116,97,114,116]:List Nat).map acX
abbrev Nu:List UInt8:=([106,111,105,110]:List Nat).map acX
abbrev Nt:List UInt8:=([108,101,97,118,101]:List Nat).map acX
theorem iI {p:Prop} {x y:Bool} (h:p→x=true) (k:¬p→y=true):iP p x y=true:=QQ h k
noncomputable def aM {α β R:Type _} (s:β) (I:α→β) (pre:α→Prop) (po:α→R→Prop) (k:α→R→Bool):Bool:=aF fun p=>mP (s=I p) (mP (pre p) (am fun r=>iP (po p r) (k p r) true))
theorem ay {α β R:Type _} {s:β} {I:α→β} {pre:α→Prop} {po:α→R→Prop} {k:α→R→Bool} (w:α) (h1:s=I w) (h2:pre w) (h3:∀r,po w r→k w r=true):aM s I pre po k=true:=
 aK w (ba h1 (ba h2 (az fun r=>QQ (h3 r) fun _=>rfl)))
theorem cU {α R:Type} {e:α→Prop} {po:α→R→Prop} {k:α→R→Bool} (w:α) (h1:e w) (h3:∀r,po w r→k w r=true):(aF fun p=>mP (e p) (am fun r=>iP (po p r) (k p r) true))=true:=
 aK w (ba h1 (az fun r=>QQ (h3 r) fun _=>rfl))
theorem dx {α:Type} {e pre:α→Prop} {k:α→Bool} (w:α) (h1:e w) (h2:pre w) (h3:k w=true):(aF fun p=>mP (e p) (mP (pre p) (k p)))=true:=aK w (ba h1 (ba h2 h3))
noncomputable abbrev di (nat:Nat→List AV→Option ES):iy:=He PM nat cL 600 40
theorem bj {nat:Nat→List AV→Option ES} (h:aV Tryz.prog nat):gQ Tryz.prog (di nat):=BJ (lp:=cL) (lf:=600) bm XZ h 40
theorem cY {nat:Nat→List AV→Option ES} (hcf:gQ Tryz.prog (di nat)) {f k:Nat} {xf:XF} {α:Type} {I:α→IE} {pre:α→Prop} {out:α→KE→Bool} (hf:bE Tryz.prog f xf=true) (hkp:fu k (fD xf)=true) (hlp:eL (fD xf)=[])
  (h:∀p K,pre p→out p K=true→bW k (di nat) cL 600 xf (I p).1 (I p).2.1 (I p).2.2 K=true):bR Tryz.prog f k (bJ I (dr pre out)):=
 bU (lp:=cL) (lf:=600) bm hcf hf hkp (fun b j x h=>by rw[hlp]at h;cases h) fun p K hk=>h p K (aa hk).1 (aa hk).2
theorem pU {nat:Nat→List AV→Option ES} (hcf:gQ Tryz.prog (di nat)) {f k:Nat} {xf:XF} {α:Type} {I:α→IE} {out:α→KE→Bool} (hf:bE Tryz.prog f xf=true) (hkp:fu k (fD xf)=true) (hlp:eL (fD xf)=[])
  (h:∀p K,out p K=true→bW k (di nat) cL 600 xf (I p).1 (I p).2.1 (I p).2.2 K=true):bR Tryz.prog f k (bJ I out):=
 bU (lp:=cL) (lf:=600) bm hcf hf hkp (fun b j x h=>by rw[hlp]at h;cases h) h
structure aB where
 g:Int
 k:Int
 key:List UInt8
 val:List UInt8
 n:Int
structure aw where
 f:Int
 s:Int
 c:Prop
structure ax where
 kind:Int
 x:Int
 y:Int
 i:Int
 at_:Int
 mode:Int
 mask:Int
 grp:Int
 hp:Value
 ps:List aB
structure bN where
 hg:Value
 gs:List aw
 clients:Int
 window:Int
 deadline:Int
 pace:Int
 again:Int
 bag:Int
 first:Int
 ho:Value
 os:List ax
def encP (x:aB):List PL:=[.sint 1 x.g,.sint 1 x.k,.sstr x.key,.sstr x.val,.sint 0 x.n]
def aD (x:aw):List PL:=[.sint 0 x.f,.sint 0 x.s,.sbool x.c]
def aI (x:ax):List PL:=[.sint 0 x.kind,.sint 0 x.x,.sint 0 x.y,.sint 0 x.i,.sint 0 x.at_,.sint 0 x.mode,.sint 3 x.mask,.sint 1 x.grp,.imm x.hp 5 aB x.ps encP]
theorem tk {α:Type} {l:List α} {i:Nat} {x:α} (h:l[i]?=some x):l.take i++[x]=l.take (i+1):=by rw[List.take_add_one,h];rfl
def be (x:ax):(Int×Int×Int×Int×Int×Int)×Int×Int×List aB:=((x.kind,x.x,x.y,x.i,x.at_,x.mode),x.mask,x.grp,x.ps)
def dX (x:bN):List aw×(Int×Int×Int×Int×Int×Int)×Int×List ((Int×Int×Int×Int×Int×Int)×Int×Int×List aB):=(x.gs,(x.clients,x.window,x.deadline,x.pace,x.again,x.bag),x.first,x.os.map be)
def gT (l:List ax):Prop:=l.length≤100000∧∀(j:Nat) (x:ax),l[j]?=some x→x.ps.length≤10
def Ux (l:List ax) (i:Int):Prop:=∀(j:Nat) (x:ax),(j:Int)<i→l[j]?=some x→x.ps.length≤10
theorem SM {l:List ax} {i:Int} {x:ax} (h:Ux l i) (hi:0≤i) (hx:l[i.toNat]?=some x) (h2:x.ps.length≤10):Ux l (i+1):=fun j y hj hy=>by
 by_cases e:(j:Int)=i
 ·have:j=i.toNat:=by omega
  subst this
  rw[hx]at hy;cases hy
  exact h2
 ·exact h j y (by omega) hy
theorem Qj {l:List ax} {i:Int} (h:Ux l i) (h2:l.length≤100000) (h3:(l.length:Int)≤i):gT l:=⟨h2,fun j x hx=>h j x (by have:=(List.getElem?_eq_some_iff.1 hx).1;omega) hx⟩
theorem Md {a b:bN} {q:Prop} (e:dX a=dX b) (h:q→gT b.os) (hq:q):gT a.os:=by
 have e1:a.os.map be=b.os.map be:=congrArg (fun z=>z.2.2.2) e
 obtain⟨h1,h2⟩:=h hq
 have hl:a.os.length=b.os.length:=by simpa using congrArg List.length e1
 refine⟨by omega,fun j x hx=> ?_⟩
 have h3:(a.os.map be)[j]?=some (be x):=by simp[hx]
 rw[e1,List.getElem?_map,Option.map_eq_some_iff]at h3
 obtain⟨y,hy,e2⟩:=h3
 have e3:y.ps=x.ps:=congrArg (fun z=>z.2.2.2) e2
 rw[←e3]
 exact h2 j y hy
theorem QR {a b:bN} (e:dX a=dX b) (h:b.gs.length≤10):a.gs.length≤10:=by
 have e1:a.gs=b.gs:=congrArg (fun z=>z.1) e
 rw[e1];exact h
theorem lS {α β:Type} {k:α→β} {l m:List α} {i:Int} {x y:α} (h0:0≤i) (h:(l.take i.toNat).map k=(m.take i.toNat).map k) (hx:l[i.toNat]?=some x) (hy:m[i.toNat]?=some y) (e:k x=k y):(l.take (i+1).toNat).map k=(m.take (i+1).toNat).map k:=by
 rw[show(i+1).toNat=i.toNat+1 by omega,←tk hx,←tk hy,acO,acO,h,acH,acH,e]
theorem nn {α β:Type} {k:α→β} {l m:List α} {i:Int} (h:(l.take i.toNat).map k=(m.take i.toNat).map k) (h1:(l.length:Int)≤i) (h2:(m.length:Int)≤i):l.map k=m.map k:=by
 rwa[List.take_of_length_le (by omega),List.take_of_length_le (by omega)]at h
theorem LH {α β:Type} {k:α→β} {l m:List α} {i:Nat} {x y:α} (hx:l[i]?=some x) (hy:m[i]?=some y) (e:¬k x=k y):¬l.map k=m.map k:=fun h=>by
 have h1:(l.map k)[i]?=some (k x):=by simp[hx]
 rw[h]at h1
 simp[hy]at h1
 exact e h1.symm
theorem VV {α β:Type} {k:α→β} {l m:List α} {i:Int} {x y:α} (h0:0≤i) (h:m.map k=(l.take i.toNat).map k) (hx:l[i.toNat]?=some x) (e:k y=k x):(m++[y]).map k=(l.take (i+1).toNat).map k:=by
 rw[show(i+1).toNat=i.toNat+1 by omega,←tk hx,acO,acO,h,acH,acH,e]
theorem VU {α β:Type} {k:α→β} {l m:List α} {i:Int} (h:m.map k=(l.take i.toNat).map k) (h1:(l.length:Int)≤i):m.map k=l.map k:=by
 rwa[List.take_of_length_le (by omega)]at h
noncomputable def CG:=bt aaG 0 (DO 0 Lib.itoa) 60 [(0,20)]
theorem GF:aV Tryz.prog CG:=aR Mm VQ
noncomputable def Af:=bt CG 0 (DM 0 100000000000000000000 LG) 60 [(0,1)]
theorem Ep:aV Tryz.prog Af:=aR IF GF
noncomputable def Ae:=bt Af 0 (DM 0 100 LG) 107 [(0,1)]
theorem Eo:aV Tryz.prog Ae:=aR IB Ep
noncomputable def FO:=bt Ae 0 (DN 0 10 Lib.itoa) 92 []
theorem Ix:aV Tryz.prog FO:=aR Qv Eo
noncomputable def CF:=bt FO 0 Ck 65 []
theorem GE:aV Tryz.prog CF:=aR Mk Ix
noncomputable def Ad:=bt CF 1 (yR [91]) 31 []
theorem En:aV Tryz.prog Ad:=aR IA GE
noncomputable def xM:=bt Ad 0 (GP [91]) 35 []
theorem xL:aV Tryz.prog xM:=aR Qu En
def JC:XF:=.mk 26 (.one 0) (.seq (g_ 1 [p_ 0 0 (.mv (.c (.bool false)))]) (.seq (g_ 5 [c_ 0 4 15 [i_ 1],p_ 1 5 (.bld [.nilS,.int 0 (.ofNat 0),.int 0 (.ofNat 0),.int 0 (.ofNat 0),.int 0 (.ofNat 0),.int 0 (.ofNat 0),.int 0 (.ofNat 0),.int 4 (.ofNat 0),.nilS] [(0,8)] [.t 4]),c_ 2 6 10 [.t 5],e_ 3 1 (.al 29 [.nilS,.int 0 (.ofNat 0),.int 0 (.ofNat 0),.int 0 (.ofNat 0),.int 0 (.ofNat 0),.int 0 (.ofNat 0),.int 0 (.ofNat 0),.int 4 (.ofNat 0),.nilS]),bl 4 (.st 9 (.t 1) (.t 6))]) (.seq (g_ 4 [p_ 0 7 (.bld [.int 0 (.ofNat 0),.int 0 (.ofNat 0),.int 0 (.ofNat 0),.int 0 (.ofNat 0),.int 0 (.ofNat 0),.int 0 (.ofNat 0),.int 3 (.ofNat 0),.int 1 (.ofNat 0),.nilS] [(0,1),(3,1),(4,1),(6,1)] [i_ 5,i_ 1,i_ 2,.c (.int 3 (.ofNat 3))]),e_ 1 8 (.bsl 54 9 1 [.int 0 (.ofNat 0),.int 0 (.ofNat 0),.int 0 (.ofNat 0),.int 0 (.ofNat 0),.int 0 (.ofNat 0),.int 0 (.ofNat 0),.int 3 (.ofNat 0),.int 1 (.ofNat 0),.nilS] [(0,9)] [.t 7]),p_ 2 9 (f_ 8 1),bl 3 (.st 1 (.t 9) (.t 8))]) (.seq (g_ 7 [r_ 0 11 (.ld true 9 (.t 1)),c_ 1 12 11 [.t 11],p_ 2 10 (m_ 12),p_ 3 13 (.ext 0 (.t 10)),p_ 4 14 (.ext 1 (.t 10)),p_ 5 2 (m_ 13),p_ 6 3 (m_ 14)]) (.seq (g_ 12 [p_ 0 15 (m_ 3),c_ 1 16 12 [.t 15],p_ 2 17 (.bin 3 4 (.t 16) (i_ 0)),p_ 3 18 (m_ 17),aj 4 19 18 true (m_ 2),aj 5 20 18 true (.bin 5 0 (.t 19) (.c (.str [103,114,111,117,112,32,49,32,48,32,112,108,97,105,110,10,99,108,105,101,110,116,115,32,49,10,119,105,110,100,111,119,32,52,10,100,101,97,100,108,105,110,101,32,50,48,48,10,112,97,99,101,32,49,10,97,103,97,105,110,32,53,10,98,97,103,32,53,48,48,10,102,105,114,115,116,32,49,10,115,112,111,105,108,32,49,32,50,32,51,10]))),p_ 6 21 (.pick (.t 18) (.t 20) (.c (.bool false))),p_ 7 22 (m_ 21),aT 8 23 22 true (.ld true 9 (.t 1)),fX 9 24 22 true 13 [.t 23],p_ 10 25 (.pick (.t 22) (.t 24) (.c (.bool false))),p_ 11 0 (m_ 25)]) .ret)))))
theorem Ln:bE Tryz.prog 5 JC=true:=by kernel_rfl
abbrev nV:=Unit
noncomputable def mr (p:nV):IE:=([],.leaf,0)
noncomputable def FC (p:nV) (K:KE):Bool:=K (.bool true) .leaf 0
theorem RU (p:nV) (K:KE) (hK:FC p K=true):(bW 0 (di xM) cL 600 JC (mr p).1 (mr p).2.1 (mr p).2.2 K)=true:=by
 refine Eq.trans (b:=(mP (bp 0 (1:Int)) (mP (bp 0 (0:Int)) (mP (([]:List UInt8).length+t_6.length≤140737488355328) (mP (bp 0 (1:Int)) (aF fun b1:List UInt8=>mP ((([]:List UInt8)++t_6).map bw=b1.map bw) (mP ((([]:List UInt8)++t_6).length=b1.length) (mP (b1.length+t_7.length≤140737488355328) (mP (bp 0 (4:Int)) (aF fun b2:List UInt8=>mP ((b1++t_7).map bw=b2.map bw) (mP ((b1++t_7).length=b2.length) (mP (b2.length+t_9.length≤140737488355328) (mP (bp 0 (200:Int)) (aF fun b3:List UInt8=>mP ((b2++t_9).map bw=b3.map bw) (mP ((b2++t_9).length=b3.length) (mP (b3.length+t_11.length≤140737488355328) (mP (bp 0 (1:Int)) (aF fun b4:List UInt8=>mP ((b3++t_11).map bw=b4.map bw) (mP ((b3++t_11).length=b4.length) (mP (b4.length+t_13.length≤140737488355328) (mP (bp 0 (5:Int)) (aF fun b5:List UInt8=>mP ((b4++t_13).map bw=b5.map bw) (mP ((b4++t_13).length=b5.length) (mP (b5.length+t_16.length≤140737488355328) (mP (bp 0 (500:Int)) (aF fun b6:List UInt8=>mP ((b5++t_16).map bw=b6.map bw) (mP ((b5++t_16).length=b6.length) (mP (b6.length+t_21.length≤140737488355328) (mP (bp 0 (1:Int)) (aF fun b7:List UInt8=>mP ((b6++t_21).map bw=b7.map bw) (mP ((b6++t_21).length=b7.length) (mP (b7.length+t_23.length≤140737488355328) (aF fun b8:List UInt8=>mP ((b7++t_23).map bw=b8.map bw) (mP ((b7++t_23).length=b8.length) (mP (b8≠[]) (mP (([]:List UInt8).length+b8.length≤140737488355328) (mP (bp 0 (1:Int)) (mP (bp 0 (2:Int)) (mP (bp 0 (3:Int)) (mP ((Lib.join [rJ,sS,sR,sQ] t_1).length≤140737488355328) (mP ([rJ,sS,sR,sQ].length≤140737488355328) (mP ((Lib.join [rJ,sS,sR,sQ] t_1).length+t_0.length≤9223372036854775807) (aF fun b9:List UInt8=>mP ((([]:List UInt8)++b8).map bw=b9.map bw) (mP ((([]:List UInt8)++b8).length=b9.length) (mP (b9.length+((Lib.join [rJ,sS,sR,sQ] t_1)++t_0).length≤140737488355328) (iP ((65536:Int)<((b9++((Lib.join [rJ,sS,sR,sQ] t_1)++t_0)).length:Int)) (K (.bool false) .leaf 0) (aF fun b10:List UInt8=>mP ((b9++((Lib.join [rJ,sS,sR,sQ] t_1)++t_0)).map bw=b10.map bw) (mP ((b9++((Lib.join [rJ,sS,sR,sQ] t_1)++t_0)).length=b10.length) (mP (b10≠[]) (iP (b10=(([103,114,111,117,112,32,49,32,48,32,112,108,97,105,110,10,99,108,105,101,110,116,115,32,49,10,119,105,110,100,111,119,32,52,10,100,101,97,100,108,105,110,101,32,50,48,48,10,112,97,99,101,32,49,10,97,103,97,105,110,32,53,10,98,97,103,32,53,48,48,10,102,105,114,115,116,32,49,10,115,112,111,105,108,32,49,32,50,32,51,10]:List Nat).map acX)) (K (.bool true) .leaf 0) (K (.bool false) .leaf 0))))))))))))))))))))))))))))))))))))))))))))))))))) (by kernel_rfl) ?_
 refine bG (bG (mI (by decide+kernel) (bG ?_)))
 refine aK (([]:List UInt8)++t_6) ?_
 refine aL (mI (by decide+kernel) (mI (by decide+kernel) (bG ?_)))
 refine aK ((([]:List UInt8)++t_6)++t_7) ?_
 refine aL (mI (by decide+kernel) (mI (by decide+kernel) (bG ?_)))
 refine aK (((([]:List UInt8)++t_6)++t_7)++t_9) ?_
 refine aL (mI (by decide+kernel) (mI (by decide+kernel) (bG ?_)))
 refine aK ((((([]:List UInt8)++t_6)++t_7)++t_9)++t_11) ?_
 refine aL (mI (by decide+kernel) (mI (by decide+kernel) (bG ?_)))
 refine aK (((((([]:List UInt8)++t_6)++t_7)++t_9)++t_11)++t_13) ?_
 refine aL (mI (by decide+kernel) (mI (by decide+kernel) (bG ?_)))
 refine aK ((((((([]:List UInt8)++t_6)++t_7)++t_9)++t_11)++t_13)++t_16) ?_
 refine aL (mI (by decide+kernel) (mI (by decide+kernel) (bG ?_)))
 refine aK (((((((([]:List UInt8)++t_6)++t_7)++t_9)++t_11)++t_13)++t_16)++t_21) ?_
 refine aL (mI (by decide+kernel) (mI (by decide+kernel) ?_))
 refine aK ((((((((([]:List UInt8)++t_6)++t_7)++t_9)++t_11)++t_13)++t_16)++t_21)++t_23) ?_
 refine aL (mI (by decide+kernel) (mI (by decide+kernel) (mI (by decide+kernel) (bG (bG (bG (mI (by decide+kernel) (mI (by decide+kernel) (mI (by decide+kernel) ?_)))))))))
 refine aK (([]:List UInt8)++((((((((([]:List UInt8)++t_6)++t_7)++t_9)++t_11)++t_13)++t_16)++t_21)++t_23)) ?_
 refine aL (mI (by decide+kernel) (mI (by decide+kernel) ?_))
 refine iI (p:=(65536:Int)<(((([]:List UInt8)++((((((((([]:List UInt8)++t_6)++t_7)++t_9)++t_11)++t_13)++t_16)++t_21)++t_23))++((Lib.join [rJ,sS,sR,sQ] t_1)++t_0)).length:Int)) (fun hc1=> ?_) (fun hc1=> ?_)
 exfalso;first|(revert hc1;decide+kernel)|(revert hc2;decide+kernel)|(revert hc3;decide+kernel)|(revert hc4;decide+kernel)|(revert hc5;decide+kernel)|(revert hc6;decide+kernel)|(revert hc7;decide+kernel)|(revert hc8;decide+kernel)|(revert hc9;decide+kernel)|(revert hc10;decide+kernel)|(revert hc11;decide+kernel)|(revert hc12;decide+kernel)|(revert hc13;decide+kernel)|(revert hc14;decide+kernel)|(revert hc15;decide+kernel)|(revert hc16;decide+kernel)|(revert hc17;decide+kernel)|(revert hc18;decide+kernel)|(revert hc19;decide+kernel)
 refine aK ((([]:List UInt8)++((((((((([]:List UInt8)++t_6)++t_7)++t_9)++t_11)++t_13)++t_16)++t_21)++t_23))++((Lib.join [rJ,sS,sR,sQ] t_1)++t_0)) ?_
 refine aL (mI (by decide+kernel) (mI (by decide+kernel) ?_))
 refine iI (p:=((([]:List UInt8)++((((((((([]:List UInt8)++t_6)++t_7)++t_9)++t_11)++t_13)++t_16)++t_21)++t_23))++((Lib.join [rJ,sS,sR,sQ] t_1)++t_0))=(([103,114,111,117,112,32,49,32,48,32,112,108,97,105,110,10,99,108,105,101,110,116,115,32,49,10,119,105,110,100,111,119,32,52,10,100,101,97,100,108,105,110,101,32,50,48,48,10,112,97,99,101,32,49,10,97,103,97,105,110,32,53,10,98,97,103,32,53,48,48,10,102,105,114,115,116,32,49,10,115,112,111,105,108,32,49,32,50,32,51,10]:List Nat).map acX)) (fun hc2=> ?_) (fun hc2=> ?_)
 exact hK
 exfalso;first|(revert hc1;decide+kernel)|(revert hc2;decide+kernel)|(revert hc3;decide+kernel)|(revert hc4;decide+kernel)|(revert hc5;decide+kernel)|(revert hc6;decide+kernel)|(revert hc7;decide+kernel)|(revert hc8;decide+kernel)|(revert hc9;decide+kernel)|(revert hc10;decide+kernel)|(revert hc11;decide+kernel)|(revert hc12;decide+kernel)|(revert hc13;decide+kernel)|(revert hc14;decide+kernel)|(revert hc15;decide+kernel)|(revert hc16;decide+kernel)|(revert hc17;decide+kernel)|(revert hc18;decide+kernel)|(revert hc19;decide+kernel)
noncomputable def si:=bt xM 0 (bJ mr FC) 5 []
theorem qU:aV Tryz.prog si:=aR (pU (f:=5) (k:=0) (bj xL) Ln (by rfl) (by rfl) RU) xL
end Go.Proofs.Tryz
namespace Go.Proofs.Tryz
open Go Go.RowKit Go.Eng Go.Sy
set_option maxRecDepth 100000
def dl (f:Nat) (x:XF):Prop:=bE Tryz.prog f x=true∧plain (fD x)=true
def tq9:XF:=.mk 13 (.one 2) (.seq (g_ 2 [e_ 0 1 (.box 37 (.t 0)),p_ 1 2 (.mv (.c (.bool false)))]) (.seq (g_ 11 [p_ 0 3 (f_ 8 1),r_ 1 4 (l_ 3),c_ 2 5 28 [(.t 4),(i_ 60)],p_ 3 6 (m_ 5),aj 4 7 6 true (f_ 0 1),aj 5 8 6 true (f_ 0 7),aT 6 9 6 true (l_ 8),aj 7 10 6 true (k_ 9),aj 8 11 6 true (.bin 3 1 (.t 10) (i_ 10)),p_ 9 12 (.pick (.t 6) (.t 11) (.c (.bool false))),p_ 10 2 (m_ 12)]) .ret))
theorem abI:dl 9 tq9:=⟨by kernel_rfl,by kernel_rfl⟩
def XY:XF:=.mk 4 (.one 2) (.seq (g_ 1 [p_ 0 2 (.mv (i_ 0))]) (.seq (g_ 2 [p_ 0 3 (m_ 0),p_ 1 2 (m_ 3)]) .ret))
theorem XX:dl 12 XY:=⟨by kernel_rfl,by kernel_rfl⟩
def XW:XF:=.mk 7 (.cell 2 true 8) (.seq (g_ 1 [e_ 0 2 (.al 34 [.nilS,(o_ 0),(o_ 0),(o_ 0),(o_ 0),(o_ 0),(o_ 0),(.int 4 (.ofNat 0))])]) (.seq (g_ 5 [p_ 0 3 (m_ 0),p_ 1 4 (.bld [(o_ 0),(o_ 0),(.bool false)] [(0,1)] [.t 3]),e_ 2 5 (.bsl 69 3 1 [(o_ 0),(o_ 0),(.bool false)] [(0,3)] [.t 4]),p_ 3 6 (.bld [.nilS,(o_ 0),(o_ 0),(o_ 0),(o_ 0),(o_ 0),(o_ 0),(.int 4 (.ofNat 0))] [(0,1),(1,1),(2,1),(3,1),(4,1),(5,1),(6,1),(7,1)] [(.t 5),(i_ 1),(i_ 4),(i_ 200),(i_ 1),(i_ 5),(i_ 500),(.c (.int 4 (.ofNat 1)))]),bl 4 (.st 8 (.t 2) (.t 6))]) .ret))
theorem XV:dl 15 XW:=⟨by kernel_rfl,by kernel_rfl⟩
def XU:XF:=.mk 23 (.cell 2 true 9) (.seq (g_ 2 [e_ 0 1 (.box 79 (.t 0)),e_ 1 2 (.al 54 [(o_ 0),(o_ 0),(o_ 0),(o_ 0),(o_ 0),(o_ 0),(.int 3 (.ofNat 0)),(.int 1 (.ofNat 0)),.nilS])]) (.seq (h_ 21 [p_ 0 3 (f_ 0 1),r_ 1 4 (l_ 3),p_ 2 5 (f_ 1 1),r_ 3 6 (l_ 5),p_ 4 7 (f_ 2 1),r_ 5 8 (l_ 7),p_ 6 9 (f_ 3 1),r_ 7 10 (l_ 9),p_ 8 11 (f_ 4 1),r_ 9 12 (l_ 11),p_ 10 13 (f_ 5 1),r_ 11 14 (l_ 13),p_ 12 15 (f_ 6 1),r_ 13 16 (l_ 15),p_ 14 17 (f_ 7 1),r_ 15 18 (l_ 17),p_ 16 19 (f_ 8 1),r_ 17 20 (l_ 19),c_ 18 21 58 [.t 20],a_ 1 4 (l_ 3),a_ 3 6 (l_ 5),a_ 5 8 (l_ 7),a_ 7 10 (l_ 9),a_ 9 12 (l_ 11),a_ 11 14 (l_ 13),a_ 13 16 (l_ 15),a_ 15 18 (l_ 17),p_ 19 22 (.bld [(o_ 0),(o_ 0),(o_ 0),(o_ 0),(o_ 0),(o_ 0),(.int 3 (.ofNat 0)),(.int 1 (.ofNat 0)),.nilS] [(0,1),(1,1),(2,1),(3,1),(4,1),(5,1),(6,1),(7,1),(8,1)] [(.t 4),(.t 6),(.t 8),(.t 10),(.t 12),(.t 14),(.t 16),(.t 18),(.t 21)]),bl 20 (.st 9 (.t 2) (.t 22))]) .ret))
theorem XT:dl 30 XU:=⟨by kernel_rfl,by kernel_rfl⟩
def XS:XF:=.mk 8 (.one 2) (.seq (g_ 1 [p_ 0 2 (.mv (i_ 0))]) (.seq (g_ 6 [p_ 0 3 (m_ 0),p_ 1 4 (n_ 3),p_ 2 5 (f_ 1 4),r_ 3 6 (l_ 5),p_ 4 7 (k_ 6),p_ 5 2 (m_ 7)]) .ret))
theorem XR:dl 34 XS:=⟨by kernel_rfl,by kernel_rfl⟩
def XQ:XF:=.mk 9 (.one 2) (.seq (g_ 1 [p_ 0 2 (.mv (.c (.bool false)))]) (.seq (g_ 7 [p_ 0 3 (m_ 0),p_ 1 4 (.bin 3 3 (.t 3) (i_ 0)),p_ 2 5 (m_ 4),aj 3 6 5 true (m_ 0),aj 4 7 5 true (.bin 3 1 (.t 6) (i_ 1099511627776)),p_ 5 8 (.pick (.t 5) (.t 7) (.c (.bool false))),p_ 6 2 (m_ 8)]) .ret))
theorem XN:dl 36 XQ:=⟨by kernel_rfl,by kernel_rfl⟩
def XM:XF:=.mk 28 (.one 2) (.seq (g_ 1 [p_ 0 2 (.mv (.c .nilS))]) (.seq (h_ 26 [p_ 0 3 (m_ 0),p_ 1 4 (n_ 3),p_ 2 5 (f_ 1 4),p_ 3 6 (.bld [(.str []),.nilP] [(0,1),(1,1)] [(.c (.str [99,108,105,101,110,116,115])),(.t 5)]),p_ 4 7 (m_ 0),p_ 5 8 (n_ 7),p_ 6 9 (f_ 2 8),p_ 7 10 (.bld [(.str []),.nilP] [(0,1),(1,1)] [(.c (.str [119,105,110,100,111,119])),(.t 9)]),p_ 8 11 (m_ 0),p_ 9 12 (n_ 11),p_ 10 13 (f_ 3 12),p_ 11 14 (.bld [(.str []),.nilP] [(0,1),(1,1)] [(.c (.str [100,101,97,100,108,105,110,101])),(.t 13)]),p_ 12 15 (m_ 0),p_ 13 16 (n_ 15),p_ 14 17 (f_ 4 16),p_ 15 18 (.bld [(.str []),.nilP] [(0,1),(1,1)] [(.c (.str [112,97,99,101])),(.t 17)]),p_ 16 19 (m_ 0),p_ 17 20 (n_ 19),p_ 18 21 (f_ 5 20),p_ 19 22 (.bld [(.str []),.nilP] [(0,1),(1,1)] [(.c (.str [97,103,97,105,110])),(.t 21)]),p_ 20 23 (m_ 0),p_ 21 24 (n_ 23),p_ 22 25 (f_ 6 24),p_ 23 26 (.bld [(.str []),.nilP] [(0,1),(1,1)] [(.c (.str [98,97,103])),(.t 25)]),e_ 24 27 (.bsl 106 2 6 [(.str []),.nilP,(.str []),.nilP,(.str []),.nilP,(.str []),.nilP,(.str []),.nilP,(.str []),.nilP] [(0,2),(2,2),(4,2),(6,2),(8,2),(10,2)] [(.t 6),(.t 10),(.t 14),(.t 18),(.t 22),(.t 26)]),p_ 25 2 (m_ 27)]) .ret))
theorem XL:dl 37 XM:=⟨by kernel_rfl,by kernel_rfl⟩
def XK:XF:=.mk 9 (.one 4) (.seq (g_ 1 [p_ 0 4 (.mv (.c (.bool false)))]) (.seq (g_ 5 [p_ 0 5 (m_ 0),p_ 1 6 (m_ 1),c_ 2 7 66 [(.t 5),(.t 6)],p_ 3 8 (.bin 3 3 (.t 7) (i_ 0)),p_ 4 4 (m_ 8)]) .ret))
theorem XJ:dl 38 XK:=⟨by kernel_rfl,by kernel_rfl⟩
def XI:XF:=.mk 6 (.one 2) (.seq (g_ 2 [e_ 0 1 (.box 54 (.t 0)),p_ 1 2 (.mv (.c (.bool false)))]) (.seq (g_ 4 [r_ 0 3 (.ld true 9 (.t 1)),c_ 1 4 40 [.t 3],p_ 2 5 (.un 0 (.t 4)),p_ 3 2 (m_ 5)]) .ret))
theorem XH:dl 39 XI:=⟨by kernel_rfl,by kernel_rfl⟩
def XG:XF:=.mk 59 (.one 4) (.seq (g_ 3 [e_ 0 2 (.box 26 (.t 0)),e_ 1 3 (.box 26 (.t 1)),p_ 2 4 (.mv (.c (.bool false)))]) (.seq (g_ 55 [p_ 0 5 (f_ 0 2),r_ 1 6 (l_ 5),p_ 2 7 (f_ 0 3),r_ 3 8 (l_ 7),c_ 4 9 72 [(.t 6),(.t 8)],p_ 5 10 (m_ 9),aj 6 11 10 true (f_ 1 2),aT 7 12 10 true (l_ 11),aj 8 13 10 true (f_ 1 3),aT 9 14 10 true (l_ 13),aj 10 15 10 true (.bin 3 4 (.t 12) (.t 14)),p_ 11 16 (.pick (.t 10) (.t 15) (.c (.bool false))),p_ 12 17 (m_ 16),aj 13 18 17 true (f_ 2 2),aT 14 19 17 true (l_ 18),aj 15 20 17 true (f_ 2 3),aT 16 21 17 true (l_ 20),aj 17 22 17 true (.bin 3 4 (.t 19) (.t 21)),p_ 18 23 (.pick (.t 17) (.t 22) (.c (.bool false))),p_ 19 24 (m_ 23),aj 20 25 24 true (f_ 3 2),aT 21 26 24 true (l_ 25),aj 22 27 24 true (f_ 3 3),aT 23 28 24 true (l_ 27),aj 24 29 24 true (.bin 3 4 (.t 26) (.t 28)),p_ 25 30 (.pick (.t 24) (.t 29) (.c (.bool false))),p_ 26 31 (m_ 30),aj 27 32 31 true (f_ 4 2),aT 28 33 31 true (l_ 32),aj 29 34 31 true (f_ 4 3),aT 30 35 31 true (l_ 34),aj 31 36 31 true (.bin 3 4 (.t 33) (.t 35)),p_ 32 37 (.pick (.t 31) (.t 36) (.c (.bool false))),p_ 33 38 (m_ 37),aj 34 39 38 true (f_ 5 2),aT 35 40 38 true (l_ 39),aj 36 41 38 true (f_ 5 3),aT 37 42 38 true (l_ 41),aj 38 43 38 true (.bin 3 4 (.t 40) (.t 42)),p_ 39 44 (.pick (.t 38) (.t 43) (.c (.bool false))),p_ 40 45 (m_ 44),aj 41 46 45 true (f_ 6 2),aT 42 47 45 true (l_ 46),aj 43 48 45 true (f_ 6 3),aT 44 49 45 true (l_ 48),aj 45 50 45 true (.bin 3 4 (.t 47) (.t 49)),p_ 46 51 (.pick (.t 45) (.t 50) (.c (.bool false))),p_ 47 52 (m_ 51),aj 48 53 52 true (f_ 7 2),aT 49 54 52 true (l_ 53),aj 50 55 52 true (f_ 7 3),aT 51 56 52 true (l_ 55),aj 52 57 52 true (.bin 3 4 (.t 54) (.t 56)),p_ 53 58 (.pick (.t 52) (.t 57) (.c (.bool false))),p_ 54 4 (m_ 58)]) .ret))
theorem XE:dl 41 XG:=⟨by kernel_rfl,by kernel_rfl⟩
def XD:XF:=.mk 32 (.one 6) (.seq (g_ 1 [p_ 0 6 (.mv (.c (.bool false)))]) (.seq (.seq (g_ 5 [p_ 0 10 (m_ 0),p_ 1 11 (k_ 10),p_ 2 12 (m_ 1),p_ 3 13 (k_ 12),p_ 4 14 (.bin 3 5 (.t 11) (.t 13))]) (.cond (.t 14) (.seq (g_ 1 [p_ 0 6 (.mv (.c (.bool false)))]) .ret) .skip)) (.seq (.seq (g_ 3 [p_ 0 15 (m_ 0),p_ 1 16 (k_ 15),p_ 2 17 (.mv (i_ 0))]) (.block 2 (.loop [1,2,6,7,8,9,15,16,17,18,19,20,21,22,23,24,25,26,27,28,29,30,31] (.seq (g_ 1 [p_ 0 18 (.bin 3 0 (.t 17) (.t 16))]) (.seq (.cond (.t 18) .skip (.exit 2)) (.seq (.block 3 (.seq (g_ 6 [p_ 0 19 (m_ 17),p_ 1 20 (.ixs 9 (.t 15) (.t 17)),r_ 2 21 (.ld true 9 (.t 20)),e_ 3 8 (.al 54 [(o_ 0),(o_ 0),(o_ 0),(o_ 0),(o_ 0),(o_ 0),(.int 3 (.ofNat 0)),(.int 1 (.ofNat 0)),.nilS]),p_ 4 7 (m_ 19),bl 5 (.st 9 (.t 8) (.t 21))]) (.seq (g_ 6 [p_ 0 22 (m_ 1),p_ 1 23 (m_ 7),p_ 2 24 (.ixs 9 (.t 22) (.t 23)),r_ 3 25 (.ld true 9 (.t 24)),e_ 4 9 (.al 54 [(o_ 0),(o_ 0),(o_ 0),(o_ 0),(o_ 0),(o_ 0),(.int 3 (.ofNat 0)),(.int 1 (.ofNat 0)),.nilS]),bl 5 (.st 9 (.t 9) (.t 25))]) (.seq (g_ 5 [p_ 0 26 (m_ 2),r_ 1 27 (.ld true 9 (.t 8)),r_ 2 28 (.ld true 9 (.t 9)),.k 3 (some 29) none 26 [43] [(.t 27),(.t 28)],p_ 4 30 (.un 0 (.t 29))]) (.cond (.t 30) (.seq (g_ 1 [p_ 0 6 (.mv (.c (.bool false)))]) .ret) .skip))))) (g_ 2 [p_ 0 31 (.bin 0 0 (.t 17) (i_ 1)),p_ 1 17 (m_ 31)]))))))) (.seq (g_ 1 [p_ 0 6 (.mv (.c (.bool true)))]) .ret))))
theorem XB:dl 42 XD:=⟨by kernel_rfl,by kernel_rfl⟩
def XA:XF:=.mk 8 (.one 4) (.seq (g_ 1 [p_ 0 4 (.mv (.c (.str [])))]) (.seq (g_ 4 [p_ 0 5 (m_ 0),p_ 1 6 (m_ 1),c_ 2 7 90 [(.t 5),(.t 6)],p_ 3 4 (m_ 7)]) .ret))
theorem Xz:dl 61 XA:=⟨by kernel_rfl,by kernel_rfl⟩
def Xy:XF:=.mk 14 (.one 2) (.seq (g_ 1 [p_ 0 2 (.mv (.c (.str [])))]) (.seq (g_ 3 [p_ 0 4 (.bld [(.str []),(.str []),(.str []),(.str []),(.str []),(.str []),(.str []),(.str []),(.str []),(.str []),(.str []),(.str [])] [(0,1),(1,1),(2,1),(3,1),(4,1),(5,1),(6,1),(7,1),(8,1),(9,1),(10,1),(11,1)] [(.c (.str [105,110,118,111,107,101])),(.c (.str [115,108,97,121])),(.c (.str [100,101,108,105,118,101,114])),(.c (.str [100,114,111,112])),(.c (.str [116,119,105,99,101])),(.c (.str [115,112,111,105,108])),(.c (.str [116,105,99,107])),(.c (.str [115,117,115,112,101,99,116])),(.c (.str [99,114,97,115,104])),(.c (.str [114,101,115,116,97,114,116])),(.c (.str [106,111,105,110])),(.c (.str [108,101,97,118,101]))]),e_ 1 3 (.al 154 [(.str []),(.str []),(.str []),(.str []),(.str []),(.str []),(.str []),(.str []),(.str []),(.str []),(.str []),(.str [])]),bl 2 (.st 12 (.t 3) (.t 4))]) (.seq (.seq (g_ 6 [p_ 0 5 (m_ 0),p_ 1 6 (.bin 3 0 (.t 5) (i_ 0)),p_ 2 7 (m_ 6),aj 3 8 7 false (m_ 0),aj 4 9 7 false (.bin 3 3 (.t 8) (i_ 12)),p_ 5 10 (.pick (.t 7) (.c (.bool true)) (.t 9))]) (.cond (.t 10) (.seq (g_ 1 [p_ 0 2 (.mv (.c (.str [])))]) .ret) .skip)) (.seq (g_ 4 [p_ 0 11 (m_ 0),p_ 1 12 (.ixa 12 1 (.t 3) (.t 11)),r_ 2 13 (l_ 12),p_ 3 2 (m_ 13)]) .ret))))
theorem Xx:dl 62 Xy:=⟨by kernel_rfl,by kernel_rfl⟩
def Xw:XF:=.mk 47 (.one 2) (.seq (g_ 1 [p_ 0 2 (.mv (.c .nilS))]) (.seq (.seq (g_ 4 [p_ 0 3 (m_ 0),p_ 1 4 (n_ 3),p_ 2 5 (f_ 0 4),r_ 3 6 (l_ 5)]) (.block 2 (.seq (g_ 2 [p_ 0 8 (.bin 3 4 (.t 6) (i_ 0)),p_ 1 7 (m_ 8)]) (.cond (.t 7) (.seq (h_ 8 [p_ 0 9 (m_ 0),p_ 1 10 (n_ 9),p_ 2 11 (f_ 1 10),p_ 3 12 (m_ 0),p_ 4 13 (n_ 12),p_ 5 14 (f_ 5 13),e_ 6 15 (.bsl 104 1 2 [.nilP,.nilP] [(0,1),(1,1)] [(.t 11),(.t 14)]),p_ 7 2 (m_ 15)]) .ret) (.seq (.seq (g_ 2 [p_ 0 17 (.bin 3 4 (.t 6) (i_ 1)),p_ 1 16 (m_ 17)]) (.cond (.t 16) .skip (g_ 2 [p_ 0 18 (.bin 3 4 (.t 6) (i_ 7)),p_ 1 16 (m_ 18)]))) (.cond (.t 16) (.seq (h_ 8 [p_ 0 19 (m_ 0),p_ 1 20 (n_ 19),p_ 2 21 (f_ 1 20),p_ 3 22 (m_ 0),p_ 4 23 (n_ 22),p_ 5 24 (f_ 2 23),e_ 6 25 (.bsl 104 1 2 [.nilP,.nilP] [(0,1),(1,1)] [(.t 21),(.t 24)]),p_ 7 2 (m_ 25)]) .ret) (.seq (.seq (g_ 2 [p_ 0 27 (.bin 3 4 (.t 6) (i_ 2)),p_ 1 26 (m_ 27)]) (.cond (.t 26) .skip (.seq (g_ 2 [p_ 0 28 (.bin 3 4 (.t 6) (i_ 3)),p_ 1 26 (m_ 28)]) (.cond (.t 26) .skip (g_ 2 [p_ 0 29 (.bin 3 4 (.t 6) (i_ 4)),p_ 1 26 (m_ 29)]))))) (.cond (.t 26) (.seq (g_ 5 [p_ 0 30 (m_ 0),p_ 1 31 (n_ 30),p_ 2 32 (f_ 3 31),e_ 3 33 (.bsl 104 1 1 [.nilP] [(0,1)] [.t 32]),p_ 4 2 (m_ 33)]) .ret) (.seq (g_ 2 [p_ 0 35 (.bin 3 4 (.t 6) (i_ 5)),p_ 1 34 (m_ 35)]) (.cond (.t 34) (.seq (h_ 8 [p_ 0 36 (m_ 0),p_ 1 37 (n_ 36),p_ 2 38 (f_ 3 37),p_ 3 39 (m_ 0),p_ 4 40 (n_ 39),p_ 5 41 (f_ 4 40),e_ 6 42 (.bsl 104 1 2 [.nilP,.nilP] [(0,1),(1,1)] [(.t 38),(.t 41)]),p_ 7 2 (m_ 42)]) .ret) .skip)))))))))) (.seq (g_ 5 [p_ 0 43 (m_ 0),p_ 1 44 (n_ 43),p_ 2 45 (f_ 1 44),e_ 3 46 (.bsl 104 1 1 [.nilP] [(0,1)] [.t 45]),p_ 4 2 (m_ 46)]) .ret)))
theorem Xv:dl 63 Xw:=⟨by kernel_rfl,by kernel_rfl⟩
def Xu:XF:=.mk 26 (.one 4) (.seq (g_ 1 [p_ 0 4 (.mv (.c (.bool false)))]) (.seq (.seq (g_ 5 [p_ 0 6 (m_ 0),p_ 1 7 (k_ 6),p_ 2 8 (m_ 1),p_ 3 9 (k_ 8),p_ 4 10 (.bin 3 5 (.t 7) (.t 9))]) (.cond (.t 10) (.seq (g_ 1 [p_ 0 4 (.mv (.c (.bool false)))]) .ret) .skip)) (.seq (.seq (g_ 3 [p_ 0 11 (m_ 0),p_ 1 12 (k_ 11),p_ 2 13 (.mv (i_ 0))]) (.block 2 (.loop [0,1,4,5,12,13,14,15,16,17,18,19,20,21,22,23,24,25] (.seq (g_ 1 [p_ 0 14 (.bin 3 0 (.t 13) (.t 12))]) (.seq (.cond (.t 14) .skip (.exit 2)) (.seq (.block 3 (.seq (g_ 2 [p_ 0 15 (m_ 13),p_ 1 5 (m_ 15)]) (.seq (h_ 9 [p_ 0 16 (m_ 0),p_ 1 17 (m_ 5),p_ 2 18 (.ixs 3 (.t 16) (.t 17)),r_ 3 19 (.ld true 3 (.t 18)),p_ 4 20 (m_ 1),p_ 5 21 (m_ 5),p_ 6 22 (.ixs 3 (.t 20) (.t 21)),r_ 7 23 (.ld true 3 (.t 22)),p_ 8 24 (.eqs true 2 (.st [(0,1,false,.int),(1,1,false,.int),(2,1,false,.bool)]) (.t 19) (.t 23))]) (.cond (.t 24) (.seq (g_ 1 [p_ 0 4 (.mv (.c (.bool false)))]) .ret) .skip)))) (g_ 2 [p_ 0 25 (.bin 0 0 (.t 13) (i_ 1)),p_ 1 13 (m_ 25)]))))))) (.seq (g_ 1 [p_ 0 4 (.mv (.c (.bool true)))]) .ret))))
theorem Xt:dl 72 Xu:=⟨by kernel_rfl,by kernel_rfl⟩
def Xs:XF:=.mk 8 (.one 4) (.seq (g_ 1 [p_ 0 4 (.mv (.c (.bool false)))]) (.seq (g_ 4 [p_ 0 5 (m_ 0),p_ 1 6 (m_ 1),c_ 2 7 98 [(.t 5),(.t 6)],p_ 3 4 (m_ 7)]) .ret))
theorem Xr:dl 73 Xs:=⟨by kernel_rfl,by kernel_rfl⟩
def Xq:XF:=.mk 14 (.cell 2 true 5) (.seq (g_ 2 [e_ 0 1 (.box 118 (.t 0)),e_ 1 2 (.al 124 [(.int 1 (.ofNat 0)),(.int 1 (.ofNat 0)),(.str []),(.str []),(o_ 0)])]) (.seq (g_ 12 [p_ 0 3 (f_ 0 1),r_ 1 4 (l_ 3),p_ 2 5 (f_ 1 1),r_ 3 6 (l_ 5),p_ 4 7 (f_ 2 1),r_ 5 8 (l_ 7),p_ 6 9 (f_ 3 1),r_ 7 10 (l_ 9),p_ 8 11 (f_ 4 1),r_ 9 12 (l_ 11),p_ 10 13 (.bld [(.int 1 (.ofNat 0)),(.int 1 (.ofNat 0)),(.str []),(.str []),(o_ 0)] [(0,1),(1,1),(2,1),(3,1),(4,1)] [(.t 4),(.t 6),(.t 8),(.t 10),(.t 12)]),bl 11 (.st 5 (.t 2) (.t 13))]) .ret))
theorem Xp:dl 87 Xq:=⟨by kernel_rfl,by kernel_rfl⟩
noncomputable def PK (f:Nat):Option XF:=(Bool.rec (Bool.rec (Bool.rec (Bool.rec (Bool.rec (Bool.rec none (some Xq) (Nat.beq f 87)) (Bool.rec none (some Xs) (Nat.beq f 73)) (Nat.blt f 87)) (Bool.rec none (some Xu) (Nat.beq f 72)) (Nat.blt f 73)) (Bool.rec (Bool.rec none (some Xw) (Nat.beq f 63)) (Bool.rec none (some Xy) (Nat.beq f 62)) (Nat.blt f 63)) (Nat.blt f 72)) (Bool.rec (Bool.rec (Bool.rec none (some XA) (Nat.beq f 61)) (Bool.rec none (some XD) (Nat.beq f 42)) (Nat.blt f 61)) (Bool.rec (Bool.rec none (some XG) (Nat.beq f 41)) (Bool.rec none (some XI) (Nat.beq f 39)) (Nat.blt f 41)) (Nat.blt f 42)) (Nat.blt f 62)) (Bool.rec (Bool.rec (Bool.rec (Bool.rec none (some XK) (Nat.beq f 38)) (Bool.rec none (some XM) (Nat.beq f 37)) (Nat.blt f 38)) (Bool.rec (Bool.rec none (some XQ) (Nat.beq f 36)) (Bool.rec none (some XS) (Nat.beq f 34)) (Nat.blt f 36)) (Nat.blt f 37)) (Bool.rec (Bool.rec (Bool.rec none (some XU) (Nat.beq f 30)) (Bool.rec none (some XW) (Nat.beq f 15)) (Nat.blt f 30)) (Bool.rec (Bool.rec none (some XY) (Nat.beq f 12)) (Bool.rec none (some tq9) (Nat.beq f 9)) (Nat.blt f 12)) (Nat.blt f 15)) (Nat.blt f 34)) (Nat.blt f 39))
theorem ej {f n:Nat} {x y:XF} (hy:dl n y) (h:(Bool.rec (motive:=fun _=>Option XF) none (some y) (Nat.beq f n))=some x):dl f x:=by
 cases hb:Nat.beq f n with
 |false=>rw[hb]at h;cases h
 |true=>rw[hb]at h;cases h;rw[Nat.eq_of_beq_eq_true hb];exact hy
theorem eV {f n:Nat} {a b:Option XF} {x:XF} (ha:a=some x→dl f x) (hb:b=some x→dl f x) (h:(Bool.rec (motive:=fun _=>Option XF) a b (Nat.blt f n))=some x):dl f x:=by
 cases hc:Nat.blt f n with
 |false=>rw[hc]at h;exact ha h
 |true=>rw[hc]at h;exact hb h
theorem Xo (f:Nat) (x:XF) (h:PK f=some x):bE Tryz.prog f x=true∧plain (fD x)=true:=(eV (eV (eV (eV (eV (ej Xp) (ej Xr)) (ej Xt)) (eV (ej Xv) (ej Xx))) (eV (eV (ej Xz) (ej XB)) (eV (ej XE) (ej XH)))) (eV (eV (eV (ej XJ) (ej XL)) (eV (ej XN) (ej XR))) (eV (eV (ej XT) (ej XV)) (eV (ej XX) (ej abI))))) h
theorem Hy:Tryz.prog.follows .mixedOrders=true:=by kernel_rfl
noncomputable abbrev fC (nat:Nat→List AV→Option ES):iy:=He PK nat cL 600 40
theorem cK {nat:Nat→List AV→Option ES} (h:aV Tryz.prog nat):gQ Tryz.prog (fC nat):=BJ (lp:=cL) (lf:=600) Hy Xo h 40
theorem vK {nat:Nat→List AV→Option ES} (hcf:gQ Tryz.prog (fC nat)) {f k:Nat} {xf:XF} {α:Type} {I:α→IE} {pre:α→Prop} {out:α→KE→Bool} (hf:bE Tryz.prog f xf=true) (hkp:fu k (fD xf)=true) (hlp:eL (fD xf)=[])
  (h:∀p K,pre p→out p K=true→bW k (fC nat) cL 600 xf (I p).1 (I p).2.1 (I p).2.2 K=true):bR Tryz.prog f k (bJ I (dr pre out)):=
 bU (lp:=cL) (lf:=600) Hy hcf hf hkp (fun b j x h=>by rw[hlp]at h;cases h) fun p K hk=>h p K (aa hk).1 (aa hk).2
theorem Tc {nat:Nat→List AV→Option ES} (hcf:gQ Tryz.prog (fC nat)) {f k:Nat} {xf:XF} {α:Type} {I:α→IE} {out:α→KE→Bool} (hf:bE Tryz.prog f xf=true) (hkp:fu k (fD xf)=true) (hlp:eL (fD xf)=[])
  (h:∀p K,out p K=true→bW k (fC nat) cL 600 xf (I p).1 (I p).2.1 (I p).2.2 K=true):bR Tryz.prog f k (bJ I out):=
 bU (lp:=cL) (lf:=600) Hy hcf hf hkp (fun b j x h=>by rw[hlp]at h;cases h) h
end Go.Proofs.Tryz
namespace Go.Proofs.Tryz
open Go Go.RowKit Go.Sy
open Go.Eng hiding am
set_option maxRecDepth 1000000
set_option linter.unusedVariables false
set_option maxHeartbeats 4000000
def tE:XC:=(.aft (.seq (g_ 1 [p_ 0 14 (.bin 3 0 (.t 13) (.t 12))]) (.seq (.cond (.t 14) .skip (.exit 2)) (.seq (.block 3 (.seq (g_ 2 [p_ 0 15 (m_ 13),p_ 1 5 (m_ 15)]) (.seq (h_ 9 [p_ 0 16 (m_ 0),p_ 1 17 (m_ 5),p_ 2 18 (.ixs 5 (.t 16) (.t 17)),r_ 3 19 (.ld true 5 (.t 18)),p_ 4 20 (m_ 1),p_ 5 21 (m_ 5),p_ 6 22 (.ixs 5 (.t 20) (.t 21)),r_ 7 23 (.ld true 5 (.t 22)),p_ 8 24 (.eqs true 2 (.st [(0,1,false,.int),(1,1,false,.int),(2,1,false,.str),(3,1,false,.str),(4,1,false,.int)]) (.t 19) (.t 23))]) (.cond (.t 24) (.seq (g_ 1 [p_ 0 4 (.mv (.c (.bool false)))]) .ret) .skip)))) (g_ 2 [p_ 0 25 (.bin 0 0 (.t 13) (i_ 1)),p_ 1 13 (m_ 25)])))) [(0,[.can 0 [0,1,12,13]]),(1,[.can 0 [4]]),(2,[.can 0 []])])
def Gh:XF:=.mk 26 (.one 4) (.aft (.seq (g_ 1 [p_ 0 4 (.mv (.c (.bool false)))]) (.seq (.seq (g_ 5 [p_ 0 6 (m_ 0),p_ 1 7 (k_ 6),p_ 2 8 (m_ 1),p_ 3 9 (k_ 8),p_ 4 10 (.bin 3 5 (.t 7) (.t 9))]) (.cond (.t 10) (.seq (g_ 1 [p_ 0 4 (.mv (.c (.bool false)))]) .ret) .skip)) (.seq (.seq (g_ 3 [p_ 0 11 (m_ 0),p_ 1 12 (k_ 11),p_ 2 13 (.mv (i_ 0))]) (.block 2 (.pre [.can 0 [0,1,12,13],.up 12,.up 13,.can 0 [0,1,12,13]] (.inv 0 tE)))) (.seq (g_ 1 [p_ 0 4 (.mv (.c (.bool true)))]) .ret)))) [(0,[.up 4]),(1,[.up 4])])
theorem JF:bE Tryz.prog 98 Gh=true:=by kernel_rfl
structure dT where
 h1:Value
 l1:List aB
 h2:Value
 l2:List aB
 i:Int
def zX (p:dT):Prop:=p.l1=p.l2
def wS (p:dT):Prop:=¬p.l1=p.l2
noncomputable def gq (p:dT):IL:=((.cons 13 (.sy (.int 0 p.i)) (.cons 12 (.sy (.int 0 (p.l1.length:Int))) (.cons 1 (.sy (.imm p.h2 5 aB p.l2 encP)) (.cons 0 (.sy (.imm p.h1 5 aB p.l1 encP)) .nil)))),.leaf,0)
noncomputable def qy (p:dT) (K:KC):Bool:=ac (iP (zX p) (K 2 .nil .leaf 0) true) (iP (wS p) (K 1 (.cons 4 (.bool false) .nil) .leaf 0) true)
def gK (p:dT):Prop:=p.l1.length=p.l2.length∧0≤p.i∧p.i≤(p.l1.length:Int)∧p.l1.length≤1000000∧(p.l1.take p.i.toNat).map id=(p.l2.take p.i.toNat).map id
noncomputable def oe (p:dT) (K:KC):Bool:=ac (aC (gK p)) (qy p K)
noncomputable def sr:fE:=fun j S M nx K=>(Bool.rec (false) (aF fun p:dT=>ac (aC ((S,M,nx)=gq p)) (oe p K)) (Nat.beq j 0))
def ft (p:dT):Nat:=((p.l1.length:Int) - p.i).toNat
noncomputable def Au (s:IL) (n:Nat) (K:KC):Bool:=aF fun q=>mP (s=gq q∧ft q<n) (oe q K)
theorem Lx {p q:dT} {K:KC} {s:IL} (hm:ft q<ft p:=by dsimp only[ft]<;>(omega)) (hp:gK q:=by dsimp only[gK]<;>(refine⟨g0,by omega,by omega,g3,lS (by omega) g4 hi2 hi3 ?_⟩;show x1=x2;obtain⟨⟩:=x1;obtain⟨⟩:=x2;simp_all)) (hK:qy q K=true:=by exact hK) (e:s=gq q:=by rfl):Au s (ft p) K=true:=aK q (ba ⟨e,hm⟩ (ba hp hK))
theorem KR (p:dT) (K:KC) (hpre:gK p) (hK:qy p K=true):(cO (di si) sr 600 tE (gq p).1 (gq p).2.1 (gq p).2.2 (fun e S M nx=>Nat.casesOn e (aF fun q:dT=>ac (aC ((S,M,nx)=gq q∧ft q<ft p)) (oe q K)) (fun e2=>K (Nat.succ e2) S M nx)))=true:=by
 refine Eq.trans (b:=(let z0:Bool:=(K 1 (.cons 4 (.bool false) .nil) .leaf 0);iP (p.i<(p.l1.length:Int)) (mP (0≤p.i∧p.i<(p.l1.length:Int)) (am fun x1:aB=>iP (p.l1[p.i.toNat]?=some x1) (mP (0≤p.i∧p.i<(p.l2.length:Int)) (am fun x2:aB=>iP (p.l2[p.i.toNat]?=some x2) (iP (x1.g=x2.g) (iP (x1.k=x2.k) (iP (x1.key=x2.key) (iP (x1.val=x2.val) (iP (x1.n=x2.n) (mP (bp 0 (p.i+(1:Int))) (Au ((.cons 13 (.sy (.int 0 (p.i+(1:Int)))) (.cons 12 (.sy (.int 0 (p.l1.length:Int))) (.cons 1 (.sy (.imm p.h2 5 aB p.l2 encP)) (.cons 0 (.sy (.imm p.h1 5 aB p.l1 encP)) .nil)))),.leaf,0) (ft p) K)) z0) z0) z0) z0) z0) true)) true)) (K 2 .nil .leaf 0))) (by kernel_rfl) ?_
 obtain⟨hK0,hKr0⟩:=ai hK
 have hK1:=hKr0
 dsimp only[gK]at hpre
 obtain⟨g0,g1,g2,g3,g4⟩:=hpre
 refine iI (fun hc1=> ?_) (fun hc1=> ?_)
 refine er ?_
 refine az (fun x1=> ?_)
 refine iI (fun hi2=> ?_) (fun _=>rfl)
 refine er ?_
 refine az (fun x2=> ?_)
 refine iI (fun hi3=> ?_) (fun _=>rfl)
 refine iI (fun hc4=> ?_) (fun hc4=> ?_)
 refine iI (fun hc5=> ?_) (fun hc5=> ?_)
 refine iI (fun hc6=> ?_) (fun hc6=> ?_)
 refine iI (fun hc7=> ?_) (fun hc7=> ?_)
 refine iI (fun hc8=> ?_) (fun hc8=> ?_)
 refine bG ?_
 exact Lx (q:=⟨p.h1,p.l1,p.h2,p.l2,p.i+(1:Int)⟩)
 exact au (show¬p.l1=p.l2 from(by intro e;rw[e]at hi2;have e2:=acY (hi2.symm.trans hi3);subst e2;first|contradiction|omega|simp_all)) hK1
 exact au (show¬p.l1=p.l2 from(by intro e;rw[e]at hi2;have e2:=acY (hi2.symm.trans hi3);subst e2;first|contradiction|omega|simp_all)) hK1
 exact au (show¬p.l1=p.l2 from(by intro e;rw[e]at hi2;have e2:=acY (hi2.symm.trans hi3);subst e2;first|contradiction|omega|simp_all)) hK1
 exact au (show¬p.l1=p.l2 from(by intro e;rw[e]at hi2;have e2:=acY (hi2.symm.trans hi3);subst e2;first|contradiction|omega|simp_all)) hK1
 exact au (show¬p.l1=p.l2 from(by intro e;rw[e]at hi2;have e2:=acY (hi2.symm.trans hi3);subst e2;first|contradiction|omega|simp_all)) hK1
 exact au (show p.l1=p.l2 from(by have e:=nn g4 (by omega) (by omega);simpa using e)) hK0
theorem KZ:dI Tryz.prog 26 0 sr true 0 tE:=by
 exact eM (lf:=600) bm (bj qU) (by rfl) gq ft oe (fun b j x h=>by cases h) (fun S M nx K h=>by obtain⟨p,h⟩:=bL h;exact⟨p,(aa h).1,(aa h).2⟩) (fun p K h=>KR p K (aa h).1 (aa h).2)
structure kH where
 h1:Value
 l1:List aB
 h2:Value
 l2:List aB
structure Cd where
 q:Prop
def ib (p:kH) (r:Cd):Prop:=r.q↔p.l1=p.l2
noncomputable def nR (p:kH):IE:=([.sy (.imm p.h1 5 aB p.l1 encP),.sy (.imm p.h2 5 aB p.l2 encP)],.leaf,0)
noncomputable def vi (p:kH) (K:KE):Bool:=am fun r:Cd=>iP (ib p r) (K (.sy (.bool r.q)) .leaf 0) true
def jj (p:kH):Prop:=p.l1.length≤1000000∧p.l2.length≤1000000
theorem wa {p:kH} {K:KE} (hK:vi p K=true) (r:Cd) (h:ib p r):K (.sy (.bool r.q)) .leaf 0=true:=au h (aG hK r)
theorem Px (p:kH) (K:KE) (hpre:jj p) (hK:vi p K=true):(bW 0 (di si) sr 600 Gh (nR p).1 (nR p).2.1 (nR p).2.2 K)=true:=by
 refine Eq.trans (b:=(iP (¬(p.l1.length:Int)=(p.l2.length:Int)) (K (.sy (.bool (false=true))) .leaf 0) (aF fun p1:dT=>mP (((.cons 13 (.sy (.int 0 0)) (.cons 12 (.sy (.int 0 (p.l1.length:Int))) (.cons 1 (.sy (.imm p.h2 5 aB p.l2 encP)) (.cons 0 (.sy (.imm p.h1 5 aB p.l1 encP)) .nil)))),.leaf,0)=gq p1) (mP (gK p1) (ac (iP (zX p1) (K (.sy (.bool (true=true))) .leaf 0) true) (iP (wS p1) (K (.sy (.bool (false=true))) .leaf 0) true)))))) (by kernel_rfl) ?_
 dsimp only[jj]at hpre
 obtain⟨u1,u2⟩:=hpre
 refine iI (fun hc1=> ?_) (fun hc1=> ?_)
 exact wa hK ⟨false=true⟩ (by dsimp only[ib]<;>(first|(simp;done)|(simp;assumption)|(simp;intro e;exact hc1 (by rw[e]))|simp_all))
 refine dx (⟨p.h1,p.l1,p.h2,p.l2,(0:Int)⟩:dT) rfl (by(try dsimp only[gK]);refine⟨by omega,by omega,by omega,by omega,rfl⟩) ?_
 refine aE ?_ ?_
 refine iI (p:=p.l1=p.l2) (fun hi2=> ?_) (fun _=>rfl)
 exact wa hK ⟨true=true⟩ (by dsimp only[ib]<;>(first|(simp;done)|(simp;assumption)|(simp;intro e;exact hc1 (by rw[e]))|simp_all))
 refine iI (p:=¬p.l1=p.l2) (fun hi3=> ?_) (fun _=>rfl)
 exact wa hK ⟨false=true⟩ (by dsimp only[ib]<;>(first|(simp;done)|(simp;assumption)|(simp;intro e;exact hc1 (by rw[e]))|simp_all))
noncomputable def py:=bt si 0 (bJ nR (dr jj vi)) 98 [(0,23),(1,23)]
theorem oZ:aV Tryz.prog py:=aR (bU (f:=98) (k:=0) (lp:=sr) (lf:=600) bm (bj qU) JF (by rfl) (fun b j x h=>(cy KZ (fun h=>(by cases h)) h)) fun p K h=>Px p K (aa h).1 (aa h).2) qU
def wg:XC:=(.aft (.seq (.seq (g_ 4 [p_ 0 11 (m_ 5),p_ 1 12 (m_ 0),p_ 2 13 (k_ 12),p_ 3 14 (.bin 3 0 (.t 11) (.t 13))]) (.cond (.t 14) .skip (.exit 2))) (.seq (.block 3 (.seq (h_ 9 [p_ 0 17 (m_ 0),p_ 1 18 (m_ 5),p_ 2 19 (.ixs 5 (.t 17) (.t 18)),r_ 3 20 (.ld true 5 (.t 19)),p_ 4 21 (m_ 1),p_ 5 22 (m_ 5),p_ 6 23 (.ixs 5 (.t 21) (.t 22)),r_ 7 24 (.ld true 5 (.t 23)),p_ 8 25 (.eqs true 2 (.st [(0,1,false,.int),(1,1,false,.int),(2,1,false,.str),(3,1,false,.str),(4,1,false,.int)]) (.t 20) (.t 24))]) (.cond (.t 25) (.seq (g_ 1 [p_ 0 4 (.mv (.c (.bool false)))]) .ret) .skip))) (g_ 3 [p_ 0 15 (m_ 5),p_ 1 16 (.bin 0 0 (.t 15) (i_ 1)),p_ 2 5 (m_ 16)]))) [(0,[.can 0 [0,1,5]]),(1,[.can 0 [4]]),(2,[.can 0 []])])
def Jn:XF:=.mk 26 (.one 4) (.aft (.seq (g_ 1 [p_ 0 4 (.mv (.c (.bool false)))]) (.seq (.seq (g_ 5 [p_ 0 6 (m_ 0),p_ 1 7 (k_ 6),p_ 2 8 (m_ 1),p_ 3 9 (k_ 8),p_ 4 10 (.bin 3 5 (.t 7) (.t 9))]) (.cond (.t 10) (.seq (g_ 1 [p_ 0 4 (.mv (.c (.bool false)))]) .ret) .skip)) (.seq (.seq (g_ 1 [p_ 0 5 (.mv (i_ 0))]) (.block 2 (.pre [.can 0 [0,1,5],.up 5,.can 0 [0,1,5]] (.inv 0 wg)))) (.seq (g_ 1 [p_ 0 4 (.mv (.c (.bool true)))]) .ret)))) [(0,[.up 4]),(1,[.up 4])])
theorem Ld:bE Tryz.prog 55 Jn=true:=by kernel_rfl
structure ez where
 h1:Value
 l1:List aB
 h2:Value
 l2:List aB
 i:Int
def Cr (p:ez):Prop:=p.l1=p.l2
def zS (p:ez):Prop:=¬p.l1=p.l2
noncomputable def ir (p:ez):IL:=((.cons 5 (.sy (.int 0 p.i)) (.cons 1 (.sy (.imm p.h2 5 aB p.l2 encP)) (.cons 0 (.sy (.imm p.h1 5 aB p.l1 encP)) .nil))),.leaf,0)
noncomputable def sZ (p:ez) (K:KC):Bool:=ac (iP (Cr p) (K 2 .nil .leaf 0) true) (iP (zS p) (K 1 (.cons 4 (.bool false) .nil) .leaf 0) true)
def iA (p:ez):Prop:=p.l1.length=p.l2.length∧0≤p.i∧p.i≤(p.l1.length:Int)∧p.l1.length≤1000000∧(p.l1.take p.i.toNat).map id=(p.l2.take p.i.toNat).map id
noncomputable def pm (p:ez) (K:KC):Bool:=ac (aC (iA p)) (sZ p K)
noncomputable def vM:fE:=fun j S M nx K=>(Bool.rec (false) (aF fun p:ez=>ac (aC ((S,M,nx)=ir p)) (pm p K)) (Nat.beq j 0))
def gb (p:ez):Nat:=((p.l1.length:Int) - p.i).toNat
noncomputable def Dk (s:IL) (n:Nat) (K:KC):Bool:=aF fun q=>mP (s=ir q∧gb q<n) (pm q K)
theorem OQ {p q:ez} {K:KC} {s:IL} (hm:gb q<gb p:=by dsimp only[gb]<;>(omega)) (hp:iA q:=by dsimp only[iA]<;>(refine⟨g0,by omega,by omega,g3,lS (by omega) g4 hi2 hi3 ?_⟩;show x1=x2;obtain⟨⟩:=x1;obtain⟨⟩:=x2;simp_all)) (hK:sZ q K=true:=by exact hK) (e:s=ir q:=by rfl):Dk s (gb p) K=true:=aK q (ba ⟨e,hm⟩ (ba hp hK))
theorem Nh (p:ez) (K:KC) (hpre:iA p) (hK:sZ p K=true):(cO (di py) vM 600 wg (ir p).1 (ir p).2.1 (ir p).2.2 (fun e S M nx=>Nat.casesOn e (aF fun q:ez=>ac (aC ((S,M,nx)=ir q∧gb q<gb p)) (pm q K)) (fun e2=>K (Nat.succ e2) S M nx)))=true:=by
 refine Eq.trans (b:=(let z0:Bool:=(K 1 (.cons 4 (.bool false) .nil) .leaf 0);iP (p.i<(p.l1.length:Int)) (mP (0≤p.i∧p.i<(p.l1.length:Int)) (am fun x1:aB=>iP (p.l1[p.i.toNat]?=some x1) (mP (0≤p.i∧p.i<(p.l2.length:Int)) (am fun x2:aB=>iP (p.l2[p.i.toNat]?=some x2) (iP (x1.g=x2.g) (iP (x1.k=x2.k) (iP (x1.key=x2.key) (iP (x1.val=x2.val) (iP (x1.n=x2.n) (mP (bp 0 (p.i+(1:Int))) (Dk ((.cons 5 (.sy (.int 0 (p.i+(1:Int)))) (.cons 1 (.sy (.imm p.h2 5 aB p.l2 encP)) (.cons 0 (.sy (.imm p.h1 5 aB p.l1 encP)) .nil))),.leaf,0) (gb p) K)) z0) z0) z0) z0) z0) true)) true)) (K 2 .nil .leaf 0))) (by kernel_rfl) ?_
 obtain⟨hK0,hKr0⟩:=ai hK
 have hK1:=hKr0
 dsimp only[iA]at hpre
 obtain⟨g0,g1,g2,g3,g4⟩:=hpre
 refine iI (fun hc1=> ?_) (fun hc1=> ?_)
 refine er ?_
 refine az (fun x1=> ?_)
 refine iI (fun hi2=> ?_) (fun _=>rfl)
 refine er ?_
 refine az (fun x2=> ?_)
 refine iI (fun hi3=> ?_) (fun _=>rfl)
 refine iI (fun hc4=> ?_) (fun hc4=> ?_)
 refine iI (fun hc5=> ?_) (fun hc5=> ?_)
 refine iI (fun hc6=> ?_) (fun hc6=> ?_)
 refine iI (fun hc7=> ?_) (fun hc7=> ?_)
 refine iI (fun hc8=> ?_) (fun hc8=> ?_)
 refine bG ?_
 exact OQ (q:=⟨p.h1,p.l1,p.h2,p.l2,p.i+(1:Int)⟩)
 exact au (show¬p.l1=p.l2 from(by intro e;rw[e]at hi2;have e2:=acY (hi2.symm.trans hi3);subst e2;first|contradiction|omega|simp_all)) hK1
 exact au (show¬p.l1=p.l2 from(by intro e;rw[e]at hi2;have e2:=acY (hi2.symm.trans hi3);subst e2;first|contradiction|omega|simp_all)) hK1
 exact au (show¬p.l1=p.l2 from(by intro e;rw[e]at hi2;have e2:=acY (hi2.symm.trans hi3);subst e2;first|contradiction|omega|simp_all)) hK1
 exact au (show¬p.l1=p.l2 from(by intro e;rw[e]at hi2;have e2:=acY (hi2.symm.trans hi3);subst e2;first|contradiction|omega|simp_all)) hK1
 exact au (show¬p.l1=p.l2 from(by intro e;rw[e]at hi2;have e2:=acY (hi2.symm.trans hi3);subst e2;first|contradiction|omega|simp_all)) hK1
 exact au (show p.l1=p.l2 from(by have e:=nn g4 (by omega) (by omega);simpa using e)) hK0
theorem On:dI Tryz.prog 26 0 vM true 0 wg:=by
 exact eM (lf:=600) bm (bj oZ) (by rfl) ir gb pm (fun b j x h=>by cases h) (fun S M nx K h=>by obtain⟨p,h⟩:=bL h;exact⟨p,(aa h).1,(aa h).2⟩) (fun p K h=>Nh p K (aa h).1 (aa h).2)
structure mz where
 h1:Value
 l1:List aB
 h2:Value
 l2:List aB
structure EW where
 q:Prop
def jl (p:mz) (r:EW):Prop:=r.q↔p.l1=p.l2
noncomputable def pY (p:mz):IE:=([.sy (.imm p.h1 5 aB p.l1 encP),.sy (.imm p.h2 5 aB p.l2 encP)],.leaf,0)
noncomputable def wY (p:mz) (K:KE):Bool:=am fun r:EW=>iP (jl p r) (K (.sy (.bool r.q)) .leaf 0) true
def jW (p:mz):Prop:=p.l1.length≤1000000∧p.l2.length≤1000000
theorem yb {p:mz} {K:KE} (hK:wY p K=true) (r:EW) (h:jl p r):K (.sy (.bool r.q)) .leaf 0=true:=au h (aG hK r)
theorem RJ (p:mz) (K:KE) (hpre:jW p) (hK:wY p K=true):(bW 0 (di py) vM 600 Jn (pY p).1 (pY p).2.1 (pY p).2.2 K)=true:=by
 refine Eq.trans (b:=(iP (¬(p.l1.length:Int)=(p.l2.length:Int)) (K (.sy (.bool (false=true))) .leaf 0) (aF fun p1:ez=>mP (((.cons 5 (.sy (.int 0 0)) (.cons 1 (.sy (.imm p.h2 5 aB p.l2 encP)) (.cons 0 (.sy (.imm p.h1 5 aB p.l1 encP)) .nil))),.leaf,0)=ir p1) (mP (iA p1) (ac (iP (Cr p1) (K (.sy (.bool (true=true))) .leaf 0) true) (iP (zS p1) (K (.sy (.bool (false=true))) .leaf 0) true)))))) (by kernel_rfl) ?_
 dsimp only[jW]at hpre
 obtain⟨u1,u2⟩:=hpre
 refine iI (fun hc1=> ?_) (fun hc1=> ?_)
 exact yb hK ⟨false=true⟩ (by dsimp only[jl]<;>(first|(simp;done)|(simp;assumption)|(simp;intro e;exact hc1 (by rw[e]))|simp_all))
 refine dx (⟨p.h1,p.l1,p.h2,p.l2,(0:Int)⟩:ez) rfl (by(try dsimp only[iA]);refine⟨by omega,by omega,by omega,by omega,rfl⟩) ?_
 refine aE ?_ ?_
 refine iI (p:=p.l1=p.l2) (fun hi2=> ?_) (fun _=>rfl)
 exact yb hK ⟨true=true⟩ (by dsimp only[jl]<;>(first|(simp;done)|(simp;assumption)|(simp;intro e;exact hc1 (by rw[e]))|simp_all))
 refine iI (p:=¬p.l1=p.l2) (fun hi3=> ?_) (fun _=>rfl)
 exact yb hK ⟨false=true⟩ (by dsimp only[jl]<;>(first|(simp;done)|(simp;assumption)|(simp;intro e;exact hc1 (by rw[e]))|simp_all))
noncomputable def FL:=bt py 0 (bJ pY (dr jW wY)) 55 [(0,23),(1,23)]
theorem It:aV Tryz.prog FL:=aR (bU (f:=55) (k:=0) (lp:=vM) (lf:=600) bm (bj oZ) Ld (by rfl) (fun b j x h=>(cy On (fun h=>(by cases h)) h)) fun p K h=>RJ p K (aa h).1 (aa h).2) oZ
end Go.Proofs.Tryz
namespace Go.Proofs.Tryz
open Go.Proofs.YtacomabmhnodlaaGreatDoor (qX nE pt)
open Go Go.RowKit Go.Sy
open Go.Eng hiding am
set_option maxRecDepth 1000000
set_option linter.unusedVariables false
set_option maxHeartbeats 4000000
def mN (s:List UInt8):Prop:=s≠[]∧∀b∈s,Lib.okc b.toNat=true
def xx (x:Nat):Prop:=(97≤x∧x≤122)∨(48≤x∧x≤57)
theorem Eh (x:Nat):Lib.okc x=true↔xx x:=by
 have h:=Go.Proofs.YtacomabmhnodlaaGreatDoor.odd_iff x
 unfold Lib.oddB at h
 unfold xx
 cases hc:Lib.okc x
 ·rw[hc]at h;simp at h ⊢;omega
 ·rw[hc]at h;simp at h ⊢;omega
def GU (s:List UInt8) (i:Int):Prop:=∀j:Nat,(j:Int)<i→j<s.length→xx (s.getD j 0).toNat
theorem Oc {s:List UInt8} {i:Int} (h:GU s i) (h0:0≤i) (h1:xx (s.getD i.toNat 0).toNat):GU s (i+1):=fun j hj hl=>by
 by_cases e:(j:Int)=i
 ·have:j=i.toNat:=by omega
  subst this;exact h1
 ·exact h j (by omega) hl
theorem Qi {s:List UInt8} {i:Int} (h:GU s i) (h1:(s.length:Int)≤i):∀b∈s,Lib.okc b.toNat=true:=fun b hb=>by
 obtain⟨j,hj⟩:=List.mem_iff_getElem?.1 hb
 obtain⟨h2,h3⟩:=List.getElem?_eq_some_iff.1 hj
 rw[Eh]
 have:=h j (by omega) h2
 simpa[List.getD,hj] using this
theorem GT {s:List UInt8} {i:Nat} (h:∀b∈s,Lib.okc b.toNat=true) (h1:i<s.length):xx (s.getD i 0).toNat:=by
 have:=(Eh _).1 (h s[i] (List.getElem_mem h1))
 simpa[List.getD,h1] using this
def bo (p:aB):Prop:=p.g<4∧p.key≠[]∧p.key.length≤16∧((p.k=1∧p.val.length≤64∧p.n=0)∨((p.k=2∨p.k=3)∧p.val=[]∧0≤p.n)∨((p.k=0∨p.k=4)∧p.val=[]∧p.n=0))
theorem rS {p:aB} (h:bo p):p.key.length≤16∧p.val.length≤64:=by
 obtain⟨_,_,h1,h2⟩:=h
 refine⟨h1,?_⟩
 rcases h2 with⟨_,h2,_⟩|⟨_,h2,_⟩|⟨_,h2,_⟩
 ·exact h2
 ·rw[h2];simp
 ·rw[h2];simp
def ca (p:aB):Prop:=bo p∧mN p.key∧(p.k=1→mN p.val)
def lV (p:aB):Prop:=(0≤p.g∧p.g≤255)∧(0≤p.k∧p.k≤255)∧ -9223372036854775808≤p.n∧p.n≤9223372036854775807
theorem nL {α:Type} {R:α→Prop} {l:List α} {i:Int} {x:α} (h:∀(j:Nat) y,(j:Int)<i→l[j]?=some y→R y) (h0:0≤i) (hx:l[i.toNat]?=some x) (h1:R x):∀(j:Nat) y,(j:Int)<i+1→l[j]?=some y→R y:=fun j y hj hy=>by
 by_cases e:(j:Int)=i
 ·have:j=i.toNat:=by omega
  subst this
  rw[hx]at hy;cases hy;exact h1
 ·exact h j y (by omega) hy
theorem nM {α:Type} {R:α→Prop} {l:List α} {i:Int} (h:∀(j:Nat) y,(j:Int)<i→l[j]?=some y→R y) (h1:(l.length:Int)≤i):∀x∈l,R x:=fun x hx=>by
 obtain⟨j,hj⟩:=List.mem_iff_getElem?.1 hx
 exact h j x (by have:=(List.getElem?_eq_some_iff.1 hj).1;omega) hj
theorem mY {α:Type} {R:α→Prop} {l:List α} {i:Nat} {x:α} (hx:l[i]?=some x) (h:¬R x):¬∀x∈l,R x:=fun q=>h (q x (acF hx))
noncomputable def fnB (us:List AV) (i f:Nat):Bool:=match eC us i with
 |some (.fn g [])=>Nat.beq g f
 |_=>false
noncomputable def FN:=bt FL 0 (pt 113) 114 []
theorem Iw:aV Tryz.prog FN:=aR qX It
noncomputable def vD:=bt FN 0 (DN 4 10 Lib.itoa) 90 []
theorem wC:aV Tryz.prog vD:=aR nE Iw
def Ju:XF:=.mk 12 (.one 2) (.aft (.seq (g_ 1 [p_ 0 2 (.mv (.c (.bool false)))]) (.seq (g_ 1 [p_ 0 3 (.mv (.f 113))]) (.seq (g_ 9 [p_ 0 4 (m_ 0),p_ 1 5 (.bin 5 1 (.t 4) (.c (.str []))),p_ 2 6 (m_ 5),aj 3 7 6 true (m_ 0),aj 4 8 6 true (m_ 3),fX 5 9 6 true 114 [.t 7,.t 8],aj 6 10 6 true (.bin 3 0 (.t 9) (i_ 0)),p_ 7 11 (.pick (.t 6) (.t 10) (.c (.bool false))),p_ 8 2 (m_ 11)]) .ret))) [(0,[.up 2]),(1,[.up 2])])
theorem Li:bE Tryz.prog 97 Ju=true:=by kernel_rfl
structure lg where
 s:List UInt8
structure ut where
 q:Prop
def kq (p:lg) (r:ut):Prop:=r.q↔mN p.s
noncomputable def pZ (p:lg):IE:=([.sy (.str p.s)],.leaf,0)
noncomputable def xd (p:lg) (K:KE):Bool:=am fun r:ut=>iP (kq p r) (K (.sy (.bool r.q)) .leaf 0) true
theorem Gk {p:lg} {K:KE} (hK:xd p K=true) (r:ut) (h:kq p r):K (.sy (.bool r.q)) .leaf 0=true:=au h (aG hK r)
theorem RN (p:lg) (K:KE) (hK:xd p K=true):(bW 0 (di vD) cL 600 Ju (pZ p).1 (pZ p).2.1 (pZ p).2.2 K)=true:=by
 refine Eq.trans (b:=(iP (¬p.s=bF) (K (.sy (.bool ((Lib.idxFunc Lib.oddB true ⟨p.s.toArray⟩)<(0:Int)))) .leaf 0) (K (.sy (.bool (false=true))) .leaf 0))) (by kernel_rfl) ?_
 refine iI (fun hc1=> ?_) (fun hc1=> ?_)
 exact Gk hK ⟨(Lib.idxFunc Lib.oddB true ⟨p.s.toArray⟩)<(0:Int)⟩ (by dsimp only[kq]<;>(unfold mN;first|(rw[Lib.idx_neg];simp_all;done)|simp_all))
 exact Gk hK ⟨false=true⟩ (by dsimp only[kq]<;>(unfold mN;first|(rw[Lib.idx_neg];simp_all;done)|simp_all))
noncomputable def xE:=bt vD 0 (bJ pZ xd) 97 [(0,22)]
theorem xD:aV Tryz.prog xE:=aR (pU (f:=97) (k:=0) (bj wC) Li (by rfl) (by rfl) RN) wC
def xV:XF:=.mk 21 (.one 2) (.aft (.seq (g_ 2 [e_ 0 1 (.box 124 (.t 0)),p_ 1 2 (.mv (.c (.bool false)))]) (.seq (g_ 19 [p_ 0 3 (f_ 0 1),r_ 1 4 (l_ 3),p_ 2 5 (.bin 3 0 (.t 4) (.c (.int 1 (.ofNat 4)))),p_ 3 6 (m_ 5),aj 4 7 6 true (f_ 2 1),aT 5 8 6 true (l_ 7),aj 6 9 6 true (.bin 5 1 (.t 8) (.c (.str []))),p_ 7 10 (.pick (.t 6) (.t 9) (.c (.bool false))),p_ 8 11 (m_ 10),aj 9 12 11 true (f_ 2 1),aT 10 13 11 true (l_ 12),aj 11 14 11 true (.len 0 (.t 13)),aj 12 15 11 true (.bin 3 1 (.t 14) (i_ 16)),p_ 13 16 (.pick (.t 11) (.t 15) (.c (.bool false))),p_ 14 17 (m_ 16),aT 15 18 17 true (.ld true 5 (.t 1)),fX 16 19 17 true 112 [.t 18],p_ 17 20 (.pick (.t 17) (.t 19) (.c (.bool false))),p_ 18 2 (m_ 20)]) .ret)) [(0,[.up 2]),(1,[.up 2])])
theorem CV:bE Tryz.prog 95 xV=true:=by kernel_rfl
structure fx where
 p:aB
structure ly where
 q:Prop
def bO (p:fx) (r:ly):Prop:=r.q↔bo p.p
noncomputable def jL (p:fx):IE:=([.agg [.sy (.int 1 p.p.g),.sy (.int 1 p.p.k),.sy (.str p.p.key),.sy (.str p.p.val),.sy (.int 0 p.p.n)]],.leaf,0)
noncomputable def oT (p:fx) (K:KE):Bool:=am fun r:ly=>iP (bO p r) (K (.sy (.bool r.q)) .leaf 0) true
theorem cD {p:fx} {K:KE} (hK:oT p K=true) (r:ly) (h:bO p r):K (.sy (.bool r.q)) .leaf 0=true:=au h (aG hK r)
theorem Hv (p:fx) (K:KE) (hK:oT p K=true):(bW 0 (di xE) cL 600 xV (jL p).1 (jL p).2.1 (jL p).2.2 K)=true:=by
 refine Eq.trans (b:=(let z0:Bool:=(K (.sy (.bool (false=true))) .leaf 0);let z1:Bool:=(K (.sy (.bool (p.p.n=(0:Int)))) .leaf 0);iP (p.p.g<(4:Int)) (iP (¬p.p.key=bF) (iP ((p.p.key.length:Int)≤(16:Int)) (iP (p.p.k=(1:Int)) (iP ((p.p.val.length:Int)≤(64:Int)) z1 z0) (iP (p.p.k=(2:Int)) (iP (p.p.val=bF) (K (.sy (.bool ((0:Int)≤p.p.n))) .leaf 0) z0) (iP (p.p.k=(3:Int)) (iP (p.p.val=bF) (K (.sy (.bool ((0:Int)≤p.p.n))) .leaf 0) z0) (iP (p.p.k=(0:Int)) (iP (p.p.val=bF) z1 z0) (iP (p.p.k=(4:Int)) (iP (p.p.val=bF) z1 z0) z0))))) z0) z0) z0)) (by kernel_rfl) ?_
 refine iI (fun hc1=> ?_) (fun hc1=> ?_)
 refine iI (fun hc2=> ?_) (fun hc2=> ?_)
 refine iI (fun hc3=> ?_) (fun hc3=> ?_)
 refine iI (fun hc4=> ?_) (fun hc4=> ?_)
 refine iI (fun hc5=> ?_) (fun hc5=> ?_)
 exact cD hK ⟨p.p.n=(0:Int)⟩ (by dsimp only[bO]<;>(unfold bo;first|(simp_all;done)|(simp_all;omega)|(constructor<;>intro h<;>simp_all<;>omega)|(cases hk:p.p.key<;>cases hv:p.p.val<;>simp_all<;>omega)))
 exact cD hK ⟨false=true⟩ (by dsimp only[bO]<;>(unfold bo;first|(simp_all;done)|(simp_all;omega)|(constructor<;>intro h<;>simp_all<;>omega)|(cases hk:p.p.key<;>cases hv:p.p.val<;>simp_all<;>omega)))
 refine iI (fun hc6=> ?_) (fun hc6=> ?_)
 refine iI (fun hc7=> ?_) (fun hc7=> ?_)
 exact cD hK ⟨(0:Int)≤p.p.n⟩ (by dsimp only[bO]<;>(unfold bo;first|(simp_all;done)|(simp_all;omega)|(constructor<;>intro h<;>simp_all<;>omega)|(cases hk:p.p.key<;>cases hv:p.p.val<;>simp_all<;>omega)))
 exact cD hK ⟨false=true⟩ (by dsimp only[bO]<;>(unfold bo;first|(simp_all;done)|(simp_all;omega)|(constructor<;>intro h<;>simp_all<;>omega)|(cases hk:p.p.key<;>cases hv:p.p.val<;>simp_all<;>omega)))
 refine iI (fun hc8=> ?_) (fun hc8=> ?_)
 refine iI (fun hc9=> ?_) (fun hc9=> ?_)
 exact cD hK ⟨(0:Int)≤p.p.n⟩ (by dsimp only[bO]<;>(unfold bo;first|(simp_all;done)|(simp_all;omega)|(constructor<;>intro h<;>simp_all<;>omega)|(cases hk:p.p.key<;>cases hv:p.p.val<;>simp_all<;>omega)))
 exact cD hK ⟨false=true⟩ (by dsimp only[bO]<;>(unfold bo;first|(simp_all;done)|(simp_all;omega)|(constructor<;>intro h<;>simp_all<;>omega)|(cases hk:p.p.key<;>cases hv:p.p.val<;>simp_all<;>omega)))
 refine iI (fun hc10=> ?_) (fun hc10=> ?_)
 refine iI (fun hc11=> ?_) (fun hc11=> ?_)
 exact cD hK ⟨p.p.n=(0:Int)⟩ (by dsimp only[bO]<;>(unfold bo;first|(simp_all;done)|(simp_all;omega)|(constructor<;>intro h<;>simp_all<;>omega)|(cases hk:p.p.key<;>cases hv:p.p.val<;>simp_all<;>omega)))
 exact cD hK ⟨false=true⟩ (by dsimp only[bO]<;>(unfold bo;first|(simp_all;done)|(simp_all;omega)|(constructor<;>intro h<;>simp_all<;>omega)|(cases hk:p.p.key<;>cases hv:p.p.val<;>simp_all<;>omega)))
 refine iI (fun hc12=> ?_) (fun hc12=> ?_)
 refine iI (fun hc13=> ?_) (fun hc13=> ?_)
 exact cD hK ⟨p.p.n=(0:Int)⟩ (by dsimp only[bO]<;>(unfold bo;first|(simp_all;done)|(simp_all;omega)|(constructor<;>intro h<;>simp_all<;>omega)|(cases hk:p.p.key<;>cases hv:p.p.val<;>simp_all<;>omega)))
 exact cD hK ⟨false=true⟩ (by dsimp only[bO]<;>(unfold bo;first|(simp_all;done)|(simp_all;omega)|(constructor<;>intro h<;>simp_all<;>omega)|(cases hk:p.p.key<;>cases hv:p.p.val<;>simp_all<;>omega)))
 exact cD hK ⟨false=true⟩ (by dsimp only[bO]<;>(unfold bo;first|(simp_all;done)|(simp_all;omega)|(constructor<;>intro h<;>simp_all<;>omega)|(cases hk:p.p.key<;>cases hv:p.p.val<;>simp_all<;>omega)))
 exact cD hK ⟨false=true⟩ (by dsimp only[bO]<;>(unfold bo;first|(simp_all;done)|(simp_all;omega)|(constructor<;>intro h<;>simp_all<;>omega)|(cases hk:p.p.key<;>cases hv:p.p.val<;>simp_all<;>omega)))
 exact cD hK ⟨false=true⟩ (by dsimp only[bO]<;>(unfold bo;first|(simp_all;done)|(simp_all;omega)|(constructor<;>intro h<;>simp_all<;>omega)|(cases hk:p.p.key<;>cases hv:p.p.val<;>simp_all<;>omega)))
 exact cD hK ⟨false=true⟩ (by dsimp only[bO]<;>(unfold bo;first|(simp_all;done)|(simp_all;omega)|(constructor<;>intro h<;>simp_all<;>omega)|(cases hk:p.p.key<;>cases hv:p.p.val<;>simp_all<;>omega)))
noncomputable def oY:=bt xE 0 (bJ jL oT) 95 [(0,15)]
theorem qQ:aV Tryz.prog oY:=aR (pU (f:=95) (k:=0) (bj xD) CV (by rfl) (by rfl) Hv) xD
def QT:XF:=.mk 59 (.one 2) (.aft (.seq (g_ 2 [e_ 0 1 (.box 118 (.t 0)),p_ 1 2 (.mv (.c (.bool false)))]) (.seq (g_ 57 [p_ 0 3 (f_ 0 1),r_ 1 4 (l_ 3),p_ 2 5 (.bin 3 0 (.t 4) (.c (.int 1 (.ofNat 4)))),p_ 3 6 (m_ 5),aj 4 7 6 true (f_ 1 1),aT 5 8 6 true (l_ 7),aj 6 9 6 true (.bin 3 1 (.t 8) (.c (.int 1 (.ofNat 4)))),p_ 7 10 (.pick (.t 6) (.t 9) (.c (.bool false))),p_ 8 11 (m_ 10),aj 9 12 11 true (f_ 2 1),aT 10 13 11 true (l_ 12),aj 11 14 11 true (.len 0 (.t 13)),aj 12 15 11 true (.bin 3 3 (.t 14) (i_ 1)),p_ 13 16 (.pick (.t 11) (.t 15) (.c (.bool false))),p_ 14 17 (m_ 16),aj 15 18 17 true (f_ 2 1),aT 16 19 17 true (l_ 18),aj 17 20 17 true (.len 0 (.t 19)),aj 18 21 17 true (.bin 3 1 (.t 20) (i_ 16)),p_ 19 22 (.pick (.t 17) (.t 21) (.c (.bool false))),p_ 20 23 (m_ 22),aj 21 24 23 true (f_ 3 1),aT 22 25 23 true (l_ 24),aj 23 26 23 true (.len 0 (.t 25)),aj 24 27 23 true (.bin 3 1 (.t 26) (i_ 64)),p_ 25 28 (.pick (.t 23) (.t 27) (.c (.bool false))),p_ 26 29 (m_ 28),aj 27 30 29 true (f_ 1 1),aT 28 31 29 true (l_ 30),aj 29 32 29 true (.bin 3 4 (.t 31) (.c (.int 1 (.ofNat 1)))),aj 30 33 29 true (m_ 32),aj 31 34 33 false (f_ 3 1),aT 32 35 33 false (l_ 34),aj 33 36 33 false (.bin 5 0 (.t 35) (.c (.str []))),aj 34 37 29 true (.pick (.t 33) (.c (.bool true)) (.t 36)),p_ 35 38 (.pick (.t 29) (.t 37) (.c (.bool false))),p_ 36 39 (m_ 38),aj 37 40 39 true (f_ 4 1),aT 38 41 39 true (l_ 40),aj 39 42 39 true (.bin 3 3 (.t 41) (i_ 0)),p_ 40 43 (.pick (.t 39) (.t 42) (.c (.bool false))),p_ 41 44 (m_ 43),aj 42 45 44 true (f_ 1 1),aT 43 46 44 true (l_ 45),aj 44 47 44 true (.bin 3 4 (.t 46) (.c (.int 1 (.ofNat 2)))),aj 45 48 44 true (m_ 47),aj 46 49 48 false (f_ 1 1),aT 47 50 48 false (l_ 49),aj 48 51 48 false (.bin 3 4 (.t 50) (.c (.int 1 (.ofNat 3)))),aj 49 52 44 true (.pick (.t 48) (.c (.bool true)) (.t 51)),aj 50 53 44 true (m_ 52),aj 51 54 53 false (f_ 4 1),aT 52 55 53 false (l_ 54),aj 53 56 53 false (.bin 3 4 (.t 55) (i_ 0)),aj 54 57 44 true (.pick (.t 53) (.c (.bool true)) (.t 56)),p_ 55 58 (.pick (.t 44) (.t 57) (.c (.bool false))),p_ 56 2 (m_ 58)]) .ret)) [(0,[.up 2]),(1,[.up 2])])
theorem QS:bE Tryz.prog 104 QT=true:=by kernel_rfl
structure sP where
 p:aB
structure Pa where
 q:Prop
def ep (p:sP) (r:Pa):Prop:=r.q↔bo p.p
noncomputable def zJ (p:sP):IE:=([.agg [.sy (.int 1 p.p.g),.sy (.int 1 p.p.k),.sy (.str p.p.key),.sy (.str p.p.val),.sy (.int 0 p.p.n)]],.leaf,0)
noncomputable def Ea (p:sP) (K:KE):Bool:=am fun r:Pa=>iP (ep p r) (K (.sy (.bool r.q)) .leaf 0) true
def nw (p:sP):Prop:=lV p.p
theorem fJ {p:sP} {K:KE} (hK:Ea p K=true) (r:Pa) (h:ep p r):K (.sy (.bool r.q)) .leaf 0=true:=au h (aG hK r)
theorem Xa (p:sP) (K:KE) (hpre:nw p) (hK:Ea p K=true):(bW 0 (di oY) cL 600 QT (zJ p).1 (zJ p).2.1 (zJ p).2.2 K)=true:=by
 refine Eq.trans (b:=(let z0:Bool:=(K (.sy (.bool (false=true))) .leaf 0);let z1:Bool:=(K (.sy (.bool (true=true))) .leaf 0);iP (p.p.g<(4:Int)) (iP (p.p.k≤(4:Int)) (iP ((1:Int)≤(p.p.key.length:Int)) (iP ((p.p.key.length:Int)≤(16:Int)) (iP ((p.p.val.length:Int)≤(64:Int)) (iP (p.p.k=(1:Int)) (iP ((0:Int)≤p.p.n) (iP (p.p.k=(2:Int)) z1 (iP (p.p.k=(3:Int)) z1 (K (.sy (.bool (p.p.n=(0:Int)))) .leaf 0))) z0) (iP (p.p.val=bF) (iP ((0:Int)≤p.p.n) (iP (p.p.k=(2:Int)) z1 (iP (p.p.k=(3:Int)) z1 (K (.sy (.bool (p.p.n=(0:Int)))) .leaf 0))) z0) z0)) z0) z0) z0) z0) z0)) (by kernel_rfl) ?_
 dsimp only[nw]at hpre
 unfold lV at hpre
 refine iI (fun hc1=> ?_) (fun hc1=> ?_)
 refine iI (fun hc2=> ?_) (fun hc2=> ?_)
 refine iI (fun hc3=> ?_) (fun hc3=> ?_)
 refine iI (fun hc4=> ?_) (fun hc4=> ?_)
 refine iI (fun hc5=> ?_) (fun hc5=> ?_)
 refine iI (fun hc6=> ?_) (fun hc6=> ?_)
 refine iI (fun hc7=> ?_) (fun hc7=> ?_)
 refine iI (fun hc8=> ?_) (fun hc8=> ?_)
 exact fJ hK ⟨true=true⟩ (by dsimp only[ep]<;>(unfold bo;first|(simp_all;done)|(simp_all;omega)|(constructor<;>intro h<;>simp_all<;>omega)|(cases hk:p.p.key<;>cases hv:p.p.val<;>simp_all<;>omega)))
 refine iI (fun hc9=> ?_) (fun hc9=> ?_)
 exact fJ hK ⟨true=true⟩ (by dsimp only[ep]<;>(unfold bo;first|(simp_all;done)|(simp_all;omega)|(constructor<;>intro h<;>simp_all<;>omega)|(cases hk:p.p.key<;>cases hv:p.p.val<;>simp_all<;>omega)))
 exact fJ hK ⟨p.p.n=(0:Int)⟩ (by dsimp only[ep]<;>(unfold bo;first|(simp_all;done)|(simp_all;omega)|(constructor<;>intro h<;>simp_all<;>omega)|(cases hk:p.p.key<;>cases hv:p.p.val<;>simp_all<;>omega)))
 exact fJ hK ⟨false=true⟩ (by dsimp only[ep]<;>(unfold bo;first|(simp_all;done)|(simp_all;omega)|(constructor<;>intro h<;>simp_all<;>omega)|(cases hk:p.p.key<;>cases hv:p.p.val<;>simp_all<;>omega)))
 refine iI (fun hc10=> ?_) (fun hc10=> ?_)
 refine iI (fun hc11=> ?_) (fun hc11=> ?_)
 refine iI (fun hc12=> ?_) (fun hc12=> ?_)
 exact fJ hK ⟨true=true⟩ (by dsimp only[ep]<;>(unfold bo;first|(simp_all;done)|(simp_all;omega)|(constructor<;>intro h<;>simp_all<;>omega)|(cases hk:p.p.key<;>cases hv:p.p.val<;>simp_all<;>omega)))
 refine iI (fun hc13=> ?_) (fun hc13=> ?_)
 exact fJ hK ⟨true=true⟩ (by dsimp only[ep]<;>(unfold bo;first|(simp_all;done)|(simp_all;omega)|(constructor<;>intro h<;>simp_all<;>omega)|(cases hk:p.p.key<;>cases hv:p.p.val<;>simp_all<;>omega)))
 exact fJ hK ⟨p.p.n=(0:Int)⟩ (by dsimp only[ep]<;>(unfold bo;first|(simp_all;done)|(simp_all;omega)|(constructor<;>intro h<;>simp_all<;>omega)|(cases hk:p.p.key<;>cases hv:p.p.val<;>simp_all<;>omega)))
 exact fJ hK ⟨false=true⟩ (by dsimp only[ep]<;>(unfold bo;first|(simp_all;done)|(simp_all;omega)|(constructor<;>intro h<;>simp_all<;>omega)|(cases hk:p.p.key<;>cases hv:p.p.val<;>simp_all<;>omega)))
 exact fJ hK ⟨false=true⟩ (by dsimp only[ep]<;>(unfold bo;first|(simp_all;done)|(simp_all;omega)|(constructor<;>intro h<;>simp_all<;>omega)|(cases hk:p.p.key<;>cases hv:p.p.val<;>simp_all<;>omega)))
 exact fJ hK ⟨false=true⟩ (by dsimp only[ep]<;>(unfold bo;first|(simp_all;done)|(simp_all;omega)|(constructor<;>intro h<;>simp_all<;>omega)|(cases hk:p.p.key<;>cases hv:p.p.val<;>simp_all<;>omega)))
 exact fJ hK ⟨false=true⟩ (by dsimp only[ep]<;>(unfold bo;first|(simp_all;done)|(simp_all;omega)|(constructor<;>intro h<;>simp_all<;>omega)|(cases hk:p.p.key<;>cases hv:p.p.val<;>simp_all<;>omega)))
 exact fJ hK ⟨false=true⟩ (by dsimp only[ep]<;>(unfold bo;first|(simp_all;done)|(simp_all;omega)|(constructor<;>intro h<;>simp_all<;>omega)|(cases hk:p.p.key<;>cases hv:p.p.val<;>simp_all<;>omega)))
 exact fJ hK ⟨false=true⟩ (by dsimp only[ep]<;>(unfold bo;first|(simp_all;done)|(simp_all;omega)|(constructor<;>intro h<;>simp_all<;>omega)|(cases hk:p.p.key<;>cases hv:p.p.val<;>simp_all<;>omega)))
 exact fJ hK ⟨false=true⟩ (by dsimp only[ep]<;>(unfold bo;first|(simp_all;done)|(simp_all;omega)|(constructor<;>intro h<;>simp_all<;>omega)|(cases hk:p.p.key<;>cases hv:p.p.val<;>simp_all<;>omega)))
noncomputable def yZ:=bt oY 0 (bJ zJ (dr nw Ea)) 104 [(0,15)]
theorem vw:aV Tryz.prog yZ:=aR (cY (f:=104) (k:=0) (bj qQ) QS (by rfl) (by rfl) Xa) qQ
def tC:XC:=(.aft (.seq (.seq (g_ 4 [p_ 0 4 (m_ 3),p_ 1 5 (m_ 0),p_ 2 6 (.len 0 (.t 5)),p_ 3 7 (.bin 3 0 (.t 4) (.t 6))]) (.cond (.t 7) .skip (.exit 2))) (.seq (.block 3 (.seq (g_ 23 [p_ 0 10 (m_ 0),p_ 1 11 (m_ 3),p_ 2 12 (.six (.t 10) (.t 11)),p_ 3 13 (.bin 3 3 (.t 12) (.c (.int 1 (.ofNat 97)))),p_ 4 14 (m_ 13),aj 5 15 14 true (m_ 0),aj 6 16 14 true (m_ 3),aj 7 17 14 true (.six (.t 15) (.t 16)),aj 8 18 14 true (.bin 3 1 (.t 17) (.c (.int 1 (.ofNat 122)))),p_ 9 19 (.pick (.t 14) (.t 18) (.c (.bool false))),p_ 10 20 (m_ 19),aj 11 21 20 false (m_ 0),aj 12 22 20 false (m_ 3),aj 13 23 20 false (.six (.t 21) (.t 22)),aj 14 24 20 false (.bin 3 3 (.t 23) (.c (.int 1 (.ofNat 48)))),aj 15 25 20 false (m_ 24),aj 16 26 25 true (m_ 0),aj 17 27 25 true (m_ 3),aj 18 28 25 true (.six (.t 26) (.t 27)),aj 19 29 25 true (.bin 3 1 (.t 28) (.c (.int 1 (.ofNat 57)))),aj 20 30 20 false (.pick (.t 25) (.t 29) (.c (.bool false))),p_ 21 31 (.pick (.t 20) (.c (.bool true)) (.t 30)),p_ 22 32 (.un 0 (.t 31))]) (.cond (.t 32) (.seq (g_ 1 [p_ 0 2 (.mv (.c (.bool false)))]) .ret) .skip))) (g_ 3 [p_ 0 8 (m_ 3),p_ 1 9 (.bin 0 0 (.t 8) (i_ 1)),p_ 2 3 (m_ 9)]))) [(0,[.can 0 [0,3]]),(1,[.can 0 [2]]),(2,[.can 0 [0]])])
def Gd:XF:=.mk 35 (.one 2) (.aft (.seq (g_ 1 [p_ 0 2 (.mv (.c (.bool false)))]) (.seq (.seq (g_ 1 [p_ 0 3 (.mv (i_ 0))]) (.block 2 (.pre [.can 0 [0,3],.up 3,.can 0 [0,3]] (.inv 0 tC)))) (.seq (g_ 3 [p_ 0 33 (m_ 0),p_ 1 34 (.bin 5 1 (.t 33) (.c (.str []))),p_ 2 2 (m_ 34)]) .ret))) [(0,[.up 2]),(1,[.up 2])])
theorem Jo:bE Tryz.prog 105 Gd=true:=by kernel_rfl
structure dS where
 s:List UInt8
 i:Int
def zT (p:dS):Prop:=∀b∈p.s,Lib.okc b.toNat=true
def wR (p:dS):Prop:=¬∀b∈p.s,Lib.okc b.toNat=true
noncomputable def gn (p:dS):IL:=((.cons 3 (.sy (.int 0 p.i)) (.cons 0 (.sy (.str p.s)) .nil)),.leaf,0)
noncomputable def qx (p:dS) (K:KC):Bool:=ac (iP (zT p) (K 2 (.cons 0 (.sy (.str p.s)) .nil) .leaf 0) true) (iP (wR p) (K 1 (.cons 2 (.bool false) .nil) .leaf 0) true)
def gI (p:dS):Prop:=p.s.length≤1000000∧0≤p.i∧p.i≤(p.s.length:Int)∧GU p.s p.i
noncomputable def oc (p:dS) (K:KC):Bool:=ac (aC (gI p)) (qx p K)
noncomputable def so:fE:=fun j S M nx K=>(Bool.rec (false) (aF fun p:dS=>ac (aC ((S,M,nx)=gn p)) (oc p K)) (Nat.beq j 0))
def ed (p:dS):Nat:=((p.s.length:Int) - p.i).toNat
noncomputable def ow (s:IL) (n:Nat) (K:KC):Bool:=aF fun q=>mP (s=gn q∧ed q<n) (oc q K)
theorem tA {p q:dS} {K:KC} {s:IL} (hm:ed q<ed p:=by dsimp only[ed]<;>(omega)) (hp:gI q:=by dsimp only[gI]<;>(exact⟨g0,by omega,by omega,Oc g3 (by omega) (by unfold xx;omega)⟩)) (hK:qx q K=true:=by exact(by first|exact hK|exact aE hK0 hK1)) (e:s=gn q:=by rfl):ow s (ed p) K=true:=aK q (ba ⟨e,hm⟩ (ba hp hK))
theorem KP (p:dS) (K:KC) (hpre:gI p) (hK:qx p K=true):(cO (di yZ) so 600 tC (gn p).1 (gn p).2.1 (gn p).2.2 (fun e S M nx=>Nat.casesOn e (aF fun q:dS=>ac (aC ((S,M,nx)=gn q∧ed q<ed p)) (oc q K)) (fun e2=>K (Nat.succ e2) S M nx)))=true:=by
 refine Eq.trans (b:=(let z0:Bool:=(K 1 (.cons 2 (.bool false) .nil) .leaf 0);iP (p.i<(p.s.length:Int)) (mP (0≤p.i∧p.i<(p.s.length:Int)) (iP ((97:Int)≤((p.s.getD p.i.toNat 0).toNat:Int)) (mP (0≤p.i∧p.i<(p.s.length:Int)) (iP (((p.s.getD p.i.toNat 0).toNat:Int)≤(122:Int)) (mP (bp 0 (p.i+(1:Int))) (ow ((.cons 3 (.sy (.int 0 (p.i+(1:Int)))) (.cons 0 (.sy (.str p.s)) .nil)),.leaf,0) (ed p) K)) (mP (0≤p.i∧p.i<(p.s.length:Int)) (iP ((48:Int)≤((p.s.getD p.i.toNat 0).toNat:Int)) (mP (0≤p.i∧p.i<(p.s.length:Int)) (iP (¬(((p.s.getD p.i.toNat 0).toNat:Int)≤(57:Int))) z0 (mP (bp 0 (p.i+(1:Int))) (ow ((.cons 3 (.sy (.int 0 (p.i+(1:Int)))) (.cons 0 (.sy (.str p.s)) .nil)),.leaf,0) (ed p) K)))) z0)))) (mP (0≤p.i∧p.i<(p.s.length:Int)) (iP ((48:Int)≤((p.s.getD p.i.toNat 0).toNat:Int)) (mP (0≤p.i∧p.i<(p.s.length:Int)) (iP (¬(((p.s.getD p.i.toNat 0).toNat:Int)≤(57:Int))) z0 (mP (bp 0 (p.i+(1:Int))) (ow ((.cons 3 (.sy (.int 0 (p.i+(1:Int)))) (.cons 0 (.sy (.str p.s)) .nil)),.leaf,0) (ed p) K)))) z0)))) (K 2 (.cons 0 (.sy (.str p.s)) .nil) .leaf 0))) (by kernel_rfl) ?_
 obtain⟨hK0,hKr0⟩:=ai hK
 have hK1:=hKr0
 dsimp only[gI]at hpre
 obtain⟨g0,g1,g2,g3⟩:=hpre
 refine iI (fun hc1=> ?_) (fun hc1=> ?_)
 refine er ?_
 refine iI (fun hc2=> ?_) (fun hc2=> ?_)
 refine er ?_
 refine iI (fun hc3=> ?_) (fun hc3=> ?_)
 refine bG ?_
 exact tA (q:=⟨p.s,p.i+(1:Int)⟩)
 refine er ?_
 refine iI (fun hc4=> ?_) (fun hc4=> ?_)
 refine er ?_
 refine iI (fun hc5=> ?_) (fun hc5=> ?_)
 exact au (show¬∀b∈p.s,Lib.okc b.toNat=true from(by intro h;have h9:=GT h (show p.i.toNat<p.s.length by omega);unfold xx at h9;omega)) hK1
 refine bG ?_
 exact tA (q:=⟨p.s,p.i+(1:Int)⟩)
 exact au (show¬∀b∈p.s,Lib.okc b.toNat=true from(by intro h;have h9:=GT h (show p.i.toNat<p.s.length by omega);unfold xx at h9;omega)) hK1
 refine er ?_
 refine iI (fun hc6=> ?_) (fun hc6=> ?_)
 refine er ?_
 refine iI (fun hc7=> ?_) (fun hc7=> ?_)
 exact au (show¬∀b∈p.s,Lib.okc b.toNat=true from(by intro h;have h9:=GT h (show p.i.toNat<p.s.length by omega);unfold xx at h9;omega)) hK1
 refine bG ?_
 exact tA (q:=⟨p.s,p.i+(1:Int)⟩)
 exact au (show¬∀b∈p.s,Lib.okc b.toNat=true from(by intro h;have h9:=GT h (show p.i.toNat<p.s.length by omega);unfold xx at h9;omega)) hK1
 exact au (show∀b∈p.s,Lib.okc b.toNat=true from(by exact Qi g3 (by omega))) hK0
theorem KX:dI Tryz.prog 35 0 so true 0 tC:=by
 exact eM (lf:=600) bm (bj vw) (by rfl) gn ed oc (fun b j x h=>by cases h) (fun S M nx K h=>by obtain⟨p,h⟩:=bL h;exact⟨p,(aa h).1,(aa h).2⟩) (fun p K h=>KP p K (aa h).1 (aa h).2)
structure kG where
 s:List UInt8
structure BX where
 q:Prop
def iZ (p:kG) (r:BX):Prop:=r.q↔mN p.s
noncomputable def nP (p:kG):IE:=([.sy (.str p.s)],.leaf,0)
noncomputable def uZ (p:kG) (K:KE):Bool:=am fun r:BX=>iP (iZ p r) (K (.sy (.bool r.q)) .leaf 0) true
def je (p:kG):Prop:=p.s.length≤1000000
theorem Da {p:kG} {K:KE} (hK:uZ p K=true) (r:BX) (h:iZ p r):K (.sy (.bool r.q)) .leaf 0=true:=au h (aG hK r)
theorem Pt (p:kG) (K:KE) (hpre:je p) (hK:uZ p K=true):(bW 0 (di yZ) so 600 Gd (nP p).1 (nP p).2.1 (nP p).2.2 K)=true:=by
 refine Eq.trans (b:=(aF fun p1:dS=>mP (((.cons 3 (.sy (.int 0 0)) (.cons 0 (.sy (.str p.s)) .nil)),.leaf,0)=gn p1) (mP (gI p1) (ac (iP (zT p1) (K (.sy (.bool (¬p1.s=bF))) .leaf 0) true) (iP (wR p1) (K (.sy (.bool (false=true))) .leaf 0) true))))) (by kernel_rfl) ?_
 dsimp only[je]at hpre
 refine dx (⟨p.s,(0:Int)⟩:dS) rfl (by(try dsimp only[gI]);exact⟨hpre,by omega,by omega,fun j h1 h2=>by omega⟩) ?_
 refine aE ?_ ?_
 refine iI (p:=∀b∈p.s,Lib.okc b.toNat=true) (fun hi1=> ?_) (fun _=>rfl)
 exact Da hK ⟨¬p.s=bF⟩ (by dsimp only[iZ]<;>(unfold mN;simp_all))
 refine iI (p:=¬∀b∈p.s,Lib.okc b.toNat=true) (fun hi2=> ?_) (fun _=>rfl)
 exact Da hK ⟨false=true⟩ (by dsimp only[iZ]<;>(unfold mN;simp_all))
noncomputable def vu:=bt yZ 0 (bJ nP (dr je uZ)) 105 [(0,22)]
theorem wx:aV Tryz.prog vu:=aR (bU (f:=105) (k:=0) (lp:=so) (lf:=600) bm (bj vw) Jo (by rfl) (fun b j x h=>(cy KX (fun h=>(by cases h)) h)) fun p K h=>Pt p K (aa h).1 (aa h).2) vw
def FZ:XF:=.mk 20 (.one 2) (.aft (.seq (g_ 2 [e_ 0 1 (.box 124 (.t 0)),p_ 1 2 (.mv (.c (.bool false)))]) (.seq (g_ 18 [r_ 0 3 (.ld true 5 (.t 1)),c_ 1 4 95 [.t 3],p_ 2 5 (m_ 4),aj 3 6 5 true (f_ 2 1),aT 4 7 5 true (l_ 6),fX 5 8 5 true 97 [.t 7],p_ 6 9 (.pick (.t 5) (.t 8) (.c (.bool false))),p_ 7 10 (m_ 9),aj 8 11 10 true (f_ 1 1),aT 9 12 10 true (l_ 11),aj 10 13 10 true (.bin 3 5 (.t 12) (.c (.int 1 (.ofNat 1)))),aj 11 14 10 true (m_ 13),aj 12 15 14 false (f_ 3 1),aT 13 16 14 false (l_ 15),fX 14 17 14 false 97 [.t 16],aj 15 18 10 true (.pick (.t 14) (.c (.bool true)) (.t 17)),p_ 16 19 (.pick (.t 10) (.t 18) (.c (.bool false))),p_ 17 2 (m_ 19)]) .ret)) [(0,[.up 2]),(1,[.up 2])])
theorem Ji:bE Tryz.prog 71 FZ=true:=by kernel_rfl
structure dL where
 p:aB
structure jw where
 q:Prop
def cR (p:dL) (r:jw):Prop:=r.q↔ca p.p
noncomputable def iH (p:dL):IE:=([.agg [.sy (.int 1 p.p.g),.sy (.int 1 p.p.k),.sy (.str p.p.key),.sy (.str p.p.val),.sy (.int 0 p.p.n)]],.leaf,0)
noncomputable def uW (p:dL) (K:KE):Bool:=am fun r:jw=>iP (cR p r) (K (.sy (.bool r.q)) .leaf 0) true
theorem pF {p:dL} {K:KE} (hK:uW p K=true) (r:jw) (h:cR p r):K (.sy (.bool r.q)) .leaf 0=true:=au h (aG hK r)
theorem Pp (p:dL) (K:KE) (hK:uW p K=true):(bW 0 (di vu) cL 600 FZ (iH p).1 (iH p).2.1 (iH p).2.2 K)=true:=by
 refine Eq.trans (b:=(aF fun p1:fx=>mP (([.agg [.sy (.int 1 p.p.g),.sy (.int 1 p.p.k),.sy (.str p.p.key),.sy (.str p.p.val),.sy (.int 0 p.p.n)]],.leaf,0)=jL p1) (am fun r1:ly=>iP (bO p1 r1) (iP (r1.q) (aF fun p2:lg=>mP (([.sy (.str p.p.key)],.leaf,0)=pZ p2) (am fun r2:ut=>iP (kq p2 r2) (iP (r2.q) (iP (¬p.p.k=(1:Int)) (K (.sy (.bool (true=true))) .leaf 0) (aF fun p3:lg=>mP (([.sy (.str p.p.val)],.leaf,0)=pZ p3) (am fun r3:ut=>iP (kq p3 r3) (K (.sy (.bool r3.q)) .leaf 0) true))) (K (.sy (.bool (false=true))) .leaf 0)) true)) (K (.sy (.bool (false=true))) .leaf 0)) true))) (by kernel_rfl) ?_
 refine cU (⟨p.p⟩:fx) rfl fun r1 hi1=> ?_
 dsimp only[bO]at hi1
 refine iI (fun hc2=> ?_) (fun hc2=> ?_)
 refine cU (⟨p.p.key⟩:lg) rfl fun r2 hi3=> ?_
 dsimp only[kq]at hi3
 refine iI (fun hc4=> ?_) (fun hc4=> ?_)
 refine iI (fun hc5=> ?_) (fun hc5=> ?_)
 exact pF hK ⟨true=true⟩ (by dsimp only[cR]<;>(unfold ca;simp_all))
 refine cU (⟨p.p.val⟩:lg) rfl fun r3 hi6=> ?_
 dsimp only[kq]at hi6
 exact pF hK ⟨r3.q⟩ (by dsimp only[cR]<;>(unfold ca;simp_all))
 exact pF hK ⟨false=true⟩ (by dsimp only[cR]<;>(unfold ca;simp_all))
 exact pF hK ⟨false=true⟩ (by dsimp only[cR]<;>(unfold ca;simp_all))
noncomputable def vp:=bt vu 0 (bJ iH uW) 71 [(0,15)]
theorem wv:aV Tryz.prog vp:=aR (pU (f:=71) (k:=0) (bj wx) Ji (by rfl) (by rfl) Pp) wx
def Jq:XF:=.mk 20 (.one 2) (.aft (.seq (g_ 2 [e_ 0 1 (.box 118 (.t 0)),p_ 1 2 (.mv (.c (.bool false)))]) (.seq (g_ 18 [r_ 0 3 (.ld true 5 (.t 1)),c_ 1 4 104 [.t 3],p_ 2 5 (m_ 4),aj 3 6 5 true (f_ 2 1),aT 4 7 5 true (l_ 6),fX 5 8 5 true 105 [.t 7],p_ 6 9 (.pick (.t 5) (.t 8) (.c (.bool false))),p_ 7 10 (m_ 9),aj 8 11 10 true (f_ 1 1),aT 9 12 10 true (l_ 11),aj 10 13 10 true (.bin 3 5 (.t 12) (.c (.int 1 (.ofNat 1)))),aj 11 14 10 true (m_ 13),aj 12 15 14 false (f_ 3 1),aT 13 16 14 false (l_ 15),fX 14 17 14 false 105 [.t 16],aj 15 18 10 true (.pick (.t 14) (.c (.bool true)) (.t 17)),p_ 16 19 (.pick (.t 10) (.t 18) (.c (.bool false))),p_ 17 2 (m_ 19)]) .ret)) [(0,[.up 2]),(1,[.up 2])])
theorem Lf:bE Tryz.prog 84 Jq=true:=by kernel_rfl
structure nS where
 p:aB
structure EX where
 q:Prop
def ko (p:nS) (r:EX):Prop:=r.q↔ca p.p
noncomputable def uv (p:nS):IE:=([.agg [.sy (.int 1 p.p.g),.sy (.int 1 p.p.k),.sy (.str p.p.key),.sy (.str p.p.val),.sy (.int 0 p.p.n)]],.leaf,0)
noncomputable def wZ (p:nS) (K:KE):Bool:=am fun r:EX=>iP (ko p r) (K (.sy (.bool r.q)) .leaf 0) true
def oz (p:nS):Prop:=lV p.p
theorem sE {p:nS} {K:KE} (hK:wZ p K=true) (r:EX) (h:ko p r):K (.sy (.bool r.q)) .leaf 0=true:=au h (aG hK r)
theorem RK (p:nS) (K:KE) (hpre:oz p) (hK:wZ p K=true):(bW 0 (di vp) cL 600 Jq (uv p).1 (uv p).2.1 (uv p).2.2 K)=true:=by
 refine Eq.trans (b:=(aM (([.agg [.sy (.int 1 p.p.g),.sy (.int 1 p.p.k),.sy (.str p.p.key),.sy (.str p.p.val),.sy (.int 0 p.p.n)]],.leaf,0)) zJ nw ep fun p1 r1=>iP (r1.q) (aM (([.sy (.str p.p.key)],.leaf,0)) nP je iZ fun p2 r2=>iP (r2.q) (iP (¬p.p.k=(1:Int)) (K (.sy (.bool (true=true))) .leaf 0) (aM (([.sy (.str p.p.val)],.leaf,0)) nP je iZ fun p3 r3=>K (.sy (.bool r3.q)) .leaf 0)) (K (.sy (.bool (false=true))) .leaf 0)) (K (.sy (.bool (false=true))) .leaf 0))) (by kernel_rfl) ?_
 dsimp only[oz]at hpre
 refine ay (⟨p.p⟩:sP) rfl (by(try dsimp only[nw]);assumption) fun r1 hi1=> ?_
 dsimp only[ep]at hi1
 refine iI (fun hc2=> ?_) (fun hc2=> ?_)
 refine ay (⟨p.p.key⟩:kG) rfl (by(try dsimp only[je]);have e:=rS ((by assumption:_↔bo _).1 (by assumption));omega) fun r2 hi3=> ?_
 dsimp only[iZ]at hi3
 refine iI (fun hc4=> ?_) (fun hc4=> ?_)
 refine iI (fun hc5=> ?_) (fun hc5=> ?_)
 exact sE hK ⟨true=true⟩ (by dsimp only[ko]<;>(unfold ca;simp_all))
 refine ay (⟨p.p.val⟩:kG) rfl (by(try dsimp only[je]);have e:=rS ((by assumption:_↔bo _).1 (by assumption));omega) fun r3 hi6=> ?_
 dsimp only[iZ]at hi6
 exact sE hK ⟨r3.q⟩ (by dsimp only[ko]<;>(unfold ca;simp_all))
 exact sE hK ⟨false=true⟩ (by dsimp only[ko]<;>(unfold ca;simp_all))
 exact sE hK ⟨false=true⟩ (by dsimp only[ko]<;>(unfold ca;simp_all))
noncomputable def sc:=bt vp 0 (bJ uv (dr oz wZ)) 84 [(0,15)]
theorem qM:aV Tryz.prog sc:=aR (cY (f:=84) (k:=0) (bj wv) Lf (by rfl) (by rfl) RK) wv
def pJ:XC:=(.aft (.seq (g_ 1 [p_ 0 9 (.bin 3 0 (.t 8) (.t 7))]) (.seq (.cond (.t 9) .skip (.exit 2)) (.seq (.block 3 (.seq (g_ 2 [p_ 0 10 (m_ 8),p_ 1 5 (m_ 10)]) (.seq (g_ 6 [p_ 0 11 (m_ 1),p_ 1 12 (m_ 0),p_ 2 13 (m_ 5),p_ 3 14 (.ixs 5 (.t 12) (.t 13)),r_ 4 15 (.ld true 5 (.t 14)),.k 5 (some 16) none 11 [94,70] [.t 15]]) (.cond (.t 16) (.seq (g_ 2 [p_ 0 17 (m_ 5),p_ 1 4 (m_ 17)]) .ret) .skip)))) (g_ 2 [p_ 0 18 (.bin 0 0 (.t 8) (i_ 1)),p_ 1 8 (m_ 18)])))) [(0,[.can 0 [0,1,7,8]]),(1,[.can 0 [4]]),(2,[.can 0 []])])
def JD:XF:=.mk 19 (.one 4) (.aft (.seq (g_ 1 [p_ 0 4 (.mv (i_ 0))]) (.seq (.seq (g_ 3 [p_ 0 6 (m_ 0),p_ 1 7 (k_ 6),p_ 2 8 (.mv (i_ 0))]) (.block 2 (.pre [.can 0 [0,1,7,8],.up 7,.up 8,.can 0 [0,1,7,8]] (.inv 0 pJ)))) (.seq (g_ 1 [p_ 0 4 (.mv (.c (.int 0 (.negSucc 0))))]) .ret))) [(0,[.up 4]),(1,[.up 4])])
theorem Lo:bE Tryz.prog 96 JD=true:=by kernel_rfl
structure eA where
 h:Value
 l:List aB
 i:Int
structure pK where
 z:Int
def Cu (p:eA):Prop:=∀x∈p.l,bo x
def zU (p:eA) (r:pK):Prop:=0≤r.z∧¬∀x∈p.l,bo x
noncomputable def iw (p:eA):IL:=((.cons 8 (.sy (.int 0 p.i)) (.cons 7 (.sy (.int 0 (p.l.length:Int))) (.cons 1 (.fn 94 []) (.cons 0 (.sy (.imm p.h 5 aB p.l encP)) .nil)))),.leaf,0)
noncomputable def tb (p:eA) (K:KC):Bool:=ac (iP (Cu p) (K 2 .nil .leaf 0) true) (am fun r:pK=>iP (zU p r) (K 1 (.cons 4 (.sy (.int 0 r.z)) .nil) .leaf 0) true)
def iC (p:eA):Prop:=p.l.length≤1000000∧0≤p.i∧p.i≤(p.l.length:Int)∧(∀(j:Nat) y,(j:Int)<p.i→p.l[j]?=some y→bo y)
noncomputable def pp (p:eA) (K:KC):Bool:=ac (aC (iC p)) (tb p K)
noncomputable def vP:fE:=fun j S M nx K=>(Bool.rec (false) (aF fun p:eA=>ac (aC ((S,M,nx)=iw p)) (pp p K)) (Nat.beq j 0))
def gh (p:eA):Nat:=((p.l.length:Int) - p.i).toNat
noncomputable def Dm (s:IL) (n:Nat) (K:KC):Bool:=aF fun q=>mP (s=iw q∧gh q<n) (pp q K)
theorem OS {p q:eA} {K:KC} {s:IL} (hm:gh q<gh p:=by dsimp only[gh]<;>(omega)) (hp:iC q:=by dsimp only[iC]<;>(exact⟨g0,by omega,by omega,nL g3 (by omega) hi2 (by simp_all)⟩)) (hK:tb q K=true:=by exact hK) (e:s=iw q:=by rfl):Dm s (gh p) K=true:=aK q (ba ⟨e,hm⟩ (ba hp hK))
theorem Nj (p:eA) (K:KC) (hpre:iC p) (hK:tb p K=true):(cO (di sc) vP 600 pJ (iw p).1 (iw p).2.1 (iw p).2.2 (fun e S M nx=>Nat.casesOn e (aF fun q:eA=>ac (aC ((S,M,nx)=iw q∧gh q<gh p)) (pp q K)) (fun e2=>K (Nat.succ e2) S M nx)))=true:=by
 refine Eq.trans (b:=(iP (p.i<(p.l.length:Int)) (mP (0≤p.i∧p.i<(p.l.length:Int)) (am fun x1:aB=>iP (p.l[p.i.toNat]?=some x1) (aF fun p1:fx=>mP (([.agg [.sy (.int 1 x1.g),.sy (.int 1 x1.k),.sy (.str x1.key),.sy (.str x1.val),.sy (.int 0 x1.n)]],.leaf,0)=jL p1) (am fun r1:ly=>iP (bO p1 r1) (iP (¬r1.q) (K 1 (.cons 4 (.sy (.int 0 p.i)) .nil) .leaf 0) (mP (bp 0 (p.i+(1:Int))) (Dm ((.cons 8 (.sy (.int 0 (p.i+(1:Int)))) (.cons 7 (.sy (.int 0 (p.l.length:Int))) (.cons 1 (.fn 94 []) (.cons 0 (.sy (.imm p.h 5 aB p.l encP)) .nil)))),.leaf,0) (gh p) K))) true)) true)) (K 2 .nil .leaf 0))) (by kernel_rfl) ?_
 obtain⟨hK0,hKr0⟩:=ai hK
 have hK1:=hKr0
 dsimp only[iC]at hpre
 obtain⟨g0,g1,g2,g3⟩:=hpre
 refine iI (fun hc1=> ?_) (fun hc1=> ?_)
 refine er ?_
 refine az (fun x1=> ?_)
 refine iI (fun hi2=> ?_) (fun _=>rfl)
 refine cU (⟨x1⟩:fx) rfl fun r1 hi3=> ?_
 dsimp only[bO]at hi3
 refine iI (fun hc4=> ?_) (fun hc4=> ?_)
 exact au (show 0≤p.i∧¬∀x∈p.l,bo x from(by exact⟨by omega,mY hi2 (by simp_all)⟩)) (aG hK1 (⟨p.i⟩:pK))
 refine bG ?_
 exact OS (q:=⟨p.h,p.l,p.i+(1:Int)⟩)
 exact au (show∀x∈p.l,bo x from(by exact nM g3 (by omega))) hK0
theorem Oq:dI Tryz.prog 19 0 vP true 0 pJ:=by
 exact eM (lf:=600) bm (bj qM) (by rfl) iw gh pp (fun b j x h=>by cases h) (fun S M nx K h=>by obtain⟨p,h⟩:=bL h;exact⟨p,(aa h).1,(aa h).2⟩) (fun p K h=>Nj p K (aa h).1 (aa h).2)
structure nW where
 h:Value
 l:List aB
structure Fi where
 z:Int
def nz (p:nW) (r:Fi):Prop:=(0≤r.z↔¬∀x∈p.l,bo x)∧(r.z<0↔∀x∈p.l,bo x)
noncomputable def uy (p:nW):IE:=([.sy (.imm p.h 5 aB p.l encP),.fn 94 []],.leaf,0)
noncomputable def xv (p:nW) (K:KE):Bool:=am fun r:Fi=>iP (nz p r) (K (.sy (.int 0 r.z)) .leaf 0) true
def oC (p:nW):Prop:=p.l.length≤1000000
theorem Gr {p:nW} {K:KE} (hK:xv p K=true) (r:Fi) (h:nz p r):K (.sy (.int 0 r.z)) .leaf 0=true:=au h (aG hK r)
theorem RW (p:nW) (K:KE) (hpre:oC p) (hK:xv p K=true):(bW 0 (di sc) vP 600 JD (uy p).1 (uy p).2.1 (uy p).2.2 K)=true:=by
 refine Eq.trans (b:=(aF fun p1:eA=>mP (((.cons 8 (.sy (.int 0 0)) (.cons 7 (.sy (.int 0 (p.l.length:Int))) (.cons 1 (.fn 94 []) (.cons 0 (.sy (.imm p.h 5 aB p.l encP)) .nil)))),.leaf,0)=iw p1) (mP (iC p1) (ac (iP (Cu p1) (K (.sy (.int 0 (-1))) .leaf 0) true) (am fun r1:pK=>iP (zU p1 r1) (K (.sy (.int 0 r1.z)) .leaf 0) true))))) (by kernel_rfl) ?_
 dsimp only[oC]at hpre
 refine dx (⟨p.h,p.l,(0:Int)⟩:eA) rfl (by(try dsimp only[iC]);exact⟨hpre,by omega,by omega,fun j y h1 h2=>by omega⟩) ?_
 refine aE ?_ ?_
 refine iI (p:=∀x∈p.l,bo x) (fun hi1=> ?_) (fun _=>rfl)
 exact Gr hK ⟨((-1):Int)⟩ (by dsimp only[nz]<;>(first|(simp_all;done)|(obtain⟨a,b⟩:=hi1;exact⟨⟨fun _=>b,fun _=>a⟩,⟨fun c=>absurd c (by omega),fun c=>absurd c b⟩⟩)))
 refine az (fun r1=> ?_)
 refine iI (p:=0≤r1.z∧¬∀x∈p.l,bo x) (fun hi2=> ?_) (fun _=>rfl)
 exact Gr hK ⟨r1.z⟩ (by dsimp only[nz]<;>(first|(simp_all;done)|(obtain⟨a,b⟩:=hi2;exact⟨⟨fun _=>b,fun _=>a⟩,⟨fun c=>absurd c (by omega),fun c=>absurd c b⟩⟩)))
noncomputable def BB:cq:=jR (fun us M=>fnB us 1 94) (bJ uy (dr oC xv)) (fun _ _ _ _=>false)
theorem Iq:bR Tryz.prog 96 0 BB:=eU (bU (f:=96) (k:=0) (lp:=vP) (lf:=600) bm (bj qM) Lo (by rfl) (fun b j x h=>(cy Oq (fun h=>(by cases h)) h)) fun p K h=>RW p K (aa h).1 (aa h).2) ua
noncomputable def sj:=bt sc 0 BB 96 [(0,23)]
theorem qV:aV Tryz.prog sj:=aR Iq qM
def wi:XC:=pJ
def JE:XF:=.mk 19 (.one 4) (.aft (.seq (g_ 1 [p_ 0 4 (.mv (i_ 0))]) (.seq (.seq (g_ 3 [p_ 0 6 (m_ 0),p_ 1 7 (k_ 6),p_ 2 8 (.mv (i_ 0))]) (.block 2 (.pre [.can 0 [0,1,7,8],.up 7,.up 8,.can 0 [0,1,7,8]] (.inv 0 wi)))) (.seq (g_ 1 [p_ 0 4 (.mv (.c (.int 0 (.negSucc 0))))]) .ret))) [(0,[.up 4]),(1,[.up 4])])
theorem Lp:bE Tryz.prog 96 JE=true:=by kernel_rfl
structure eB where
 h:Value
 l:List aB
 i:Int
structure pL where
 z:Int
def Cv (p:eB):Prop:=∀x∈p.l,ca x
def zW (p:eB) (r:pL):Prop:=0≤r.z∧¬∀x∈p.l,ca x
noncomputable def ix (p:eB):IL:=((.cons 8 (.sy (.int 0 p.i)) (.cons 7 (.sy (.int 0 (p.l.length:Int))) (.cons 1 (.fn 70 []) (.cons 0 (.sy (.imm p.h 5 aB p.l encP)) .nil)))),.leaf,0)
noncomputable def tc (p:eB) (K:KC):Bool:=ac (iP (Cv p) (K 2 .nil .leaf 0) true) (am fun r:pL=>iP (zW p r) (K 1 (.cons 4 (.sy (.int 0 r.z)) .nil) .leaf 0) true)
def iD (p:eB):Prop:=p.l.length≤1000000∧0≤p.i∧p.i≤(p.l.length:Int)∧(∀(j:Nat) y,(j:Int)<p.i→p.l[j]?=some y→ca y)
noncomputable def pq (p:eB) (K:KC):Bool:=ac (aC (iD p)) (tc p K)
noncomputable def vQ:fE:=fun j S M nx K=>(Bool.rec (false) (aF fun p:eB=>ac (aC ((S,M,nx)=ix p)) (pq p K)) (Nat.beq j 0))
def gi (p:eB):Nat:=((p.l.length:Int) - p.i).toNat
noncomputable def Dn (s:IL) (n:Nat) (K:KC):Bool:=aF fun q=>mP (s=ix q∧gi q<n) (pq q K)
theorem OT {p q:eB} {K:KC} {s:IL} (hm:gi q<gi p:=by dsimp only[gi]<;>(omega)) (hp:iD q:=by dsimp only[iD]<;>(exact⟨g0,by omega,by omega,nL g3 (by omega) hi2 (by simp_all)⟩)) (hK:tc q K=true:=by exact hK) (e:s=ix q:=by rfl):Dn s (gi p) K=true:=aK q (ba ⟨e,hm⟩ (ba hp hK))
theorem Nk (p:eB) (K:KC) (hpre:iD p) (hK:tc p K=true):(cO (di sj) vQ 600 wi (ix p).1 (ix p).2.1 (ix p).2.2 (fun e S M nx=>Nat.casesOn e (aF fun q:eB=>ac (aC ((S,M,nx)=ix q∧gi q<gi p)) (pq q K)) (fun e2=>K (Nat.succ e2) S M nx)))=true:=by
 refine Eq.trans (b:=(iP (p.i<(p.l.length:Int)) (mP (0≤p.i∧p.i<(p.l.length:Int)) (am fun x1:aB=>iP (p.l[p.i.toNat]?=some x1) (aF fun p1:dL=>mP (([.agg [.sy (.int 1 x1.g),.sy (.int 1 x1.k),.sy (.str x1.key),.sy (.str x1.val),.sy (.int 0 x1.n)]],.leaf,0)=iH p1) (am fun r1:jw=>iP (cR p1 r1) (iP (¬r1.q) (K 1 (.cons 4 (.sy (.int 0 p.i)) .nil) .leaf 0) (mP (bp 0 (p.i+(1:Int))) (Dn ((.cons 8 (.sy (.int 0 (p.i+(1:Int)))) (.cons 7 (.sy (.int 0 (p.l.length:Int))) (.cons 1 (.fn 70 []) (.cons 0 (.sy (.imm p.h 5 aB p.l encP)) .nil)))),.leaf,0) (gi p) K))) true)) true)) (K 2 .nil .leaf 0))) (by kernel_rfl) ?_
 obtain⟨hK0,hKr0⟩:=ai hK
 have hK1:=hKr0
 dsimp only[iD]at hpre
 obtain⟨g0,g1,g2,g3⟩:=hpre
 refine iI (fun hc1=> ?_) (fun hc1=> ?_)
 refine er ?_
 refine az (fun x1=> ?_)
 refine iI (fun hi2=> ?_) (fun _=>rfl)
 refine cU (⟨x1⟩:dL) rfl fun r1 hi3=> ?_
 dsimp only[cR]at hi3
 refine iI (fun hc4=> ?_) (fun hc4=> ?_)
 exact au (show 0≤p.i∧¬∀x∈p.l,ca x from(by exact⟨by omega,mY hi2 (by simp_all)⟩)) (aG hK1 (⟨p.i⟩:pL))
 refine bG ?_
 exact OT (q:=⟨p.h,p.l,p.i+(1:Int)⟩)
 exact au (show∀x∈p.l,ca x from(by exact nM g3 (by omega))) hK0
theorem Ot:dI Tryz.prog 19 0 vQ true 0 wi:=by
 exact eM (lf:=600) bm (bj qV) (by rfl) ix gi pq (fun b j x h=>by cases h) (fun S M nx K h=>by obtain⟨p,h⟩:=bL h;exact⟨p,(aa h).1,(aa h).2⟩) (fun p K h=>Nk p K (aa h).1 (aa h).2)
structure nX where
 h:Value
 l:List aB
structure Fj where
 z:Int
def nA (p:nX) (r:Fj):Prop:=(0≤r.z↔¬∀x∈p.l,ca x)∧(r.z<0↔∀x∈p.l,ca x)
noncomputable def uz (p:nX):IE:=([.sy (.imm p.h 5 aB p.l encP),.fn 70 []],.leaf,0)
noncomputable def xw (p:nX) (K:KE):Bool:=am fun r:Fj=>iP (nA p r) (K (.sy (.int 0 r.z)) .leaf 0) true
def oD (p:nX):Prop:=p.l.length≤1000000
theorem Gs {p:nX} {K:KE} (hK:xw p K=true) (r:Fj) (h:nA p r):K (.sy (.int 0 r.z)) .leaf 0=true:=au h (aG hK r)
theorem RX (p:nX) (K:KE) (hpre:oD p) (hK:xw p K=true):(bW 0 (di sj) vQ 600 JE (uz p).1 (uz p).2.1 (uz p).2.2 K)=true:=by
 refine Eq.trans (b:=(aF fun p1:eB=>mP (((.cons 8 (.sy (.int 0 0)) (.cons 7 (.sy (.int 0 (p.l.length:Int))) (.cons 1 (.fn 70 []) (.cons 0 (.sy (.imm p.h 5 aB p.l encP)) .nil)))),.leaf,0)=ix p1) (mP (iD p1) (ac (iP (Cv p1) (K (.sy (.int 0 (-1))) .leaf 0) true) (am fun r1:pL=>iP (zW p1 r1) (K (.sy (.int 0 r1.z)) .leaf 0) true))))) (by kernel_rfl) ?_
 dsimp only[oD]at hpre
 refine dx (⟨p.h,p.l,(0:Int)⟩:eB) rfl (by(try dsimp only[iD]);exact⟨hpre,by omega,by omega,fun j y h1 h2=>by omega⟩) ?_
 refine aE ?_ ?_
 refine iI (p:=∀x∈p.l,ca x) (fun hi1=> ?_) (fun _=>rfl)
 exact Gs hK ⟨((-1):Int)⟩ (by dsimp only[nA]<;>(first|(simp_all;done)|(obtain⟨a,b⟩:=hi1;exact⟨⟨fun _=>b,fun _=>a⟩,⟨fun c=>absurd c (by omega),fun c=>absurd c b⟩⟩)))
 refine az (fun r1=> ?_)
 refine iI (p:=0≤r1.z∧¬∀x∈p.l,ca x) (fun hi2=> ?_) (fun _=>rfl)
 exact Gs hK ⟨r1.z⟩ (by dsimp only[nA]<;>(first|(simp_all;done)|(obtain⟨a,b⟩:=hi2;exact⟨⟨fun _=>b,fun _=>a⟩,⟨fun c=>absurd c (by omega),fun c=>absurd c b⟩⟩)))
noncomputable def Ka:cq:=jR (fun us M=>fnB us 1 70) (bJ uz (dr oD xw)) BB
theorem Ta:bR Tryz.prog 96 0 Ka:=eU (bU (f:=96) (k:=0) (lp:=vQ) (lf:=600) bm (bj qV) Lp (by rfl) (fun b j x h=>(cy Ot (fun h=>(by cases h)) h)) fun p K h=>RX p K (aa h).1 (aa h).2) Iq
noncomputable def sk:=bt sj 0 Ka 96 [(0,23)]
theorem qW:aV Tryz.prog sk:=aR Ta qV
def fV (l:List aB):Prop:=1≤l.length∧l.length≤4∧∀x∈l,bo x
def cn (o:ax):Prop:=(o.kind=0∧o.y=0∧o.i=0∧o.at_=0∧o.mask=0∧(0≤o.x∧o.x≤1099511627776)∧(0≤o.mode∧o.mode≤1099511627776)∧fV o.ps∧(∃p,o.ps[0]?=some p∧p.g=o.grp)∧∀p∈o.ps,ca p)∨(o.kind=1∧o.i=0∧o.at_=0∧o.mode=0∧o.mask=0∧o.grp=0∧o.ps=[]∧(0≤o.x∧o.x≤1099511627776)∧(0≤o.y∧o.y≤1099511627776))∨(o.kind=2∧o.x=0∧o.y=0∧o.at_=0∧o.mode=0∧o.mask=0∧o.grp=0∧o.ps=[]∧(0≤o.i∧o.i≤1099511627776))∨(o.kind=3∧o.x=0∧o.y=0∧o.at_=0∧o.mode=0∧o.mask=0∧o.grp=0∧o.ps=[]∧(0≤o.i∧o.i≤1099511627776))∨(o.kind=4∧o.x=0∧o.y=0∧o.at_=0∧o.mode=0∧o.mask=0∧o.grp=0∧o.ps=[]∧(0≤o.i∧o.i≤1099511627776))∨(o.kind=5∧o.x=0∧o.y=0∧o.mode=0∧o.grp=0∧o.ps=[]∧(0≤o.i∧o.i≤1099511627776)∧(0≤o.at_∧o.at_≤1099511627776))∨(o.kind=6∧o.y=0∧o.i=0∧o.at_=0∧o.mode=0∧o.mask=0∧o.grp=0∧o.ps=[]∧(0≤o.x∧o.x≤1099511627776))∨(o.kind=7∧o.i=0∧o.at_=0∧o.mode=0∧o.mask=0∧o.grp=0∧o.ps=[]∧(0≤o.x∧o.x≤1099511627776)∧(0≤o.y∧o.y≤1099511627776))∨(o.kind=8∧o.y=0∧o.i=0∧o.at_=0∧o.mode=0∧o.mask=0∧o.grp=0∧o.ps=[]∧(0≤o.x∧o.x≤1099511627776))∨(o.kind=9∧o.y=0∧o.i=0∧o.at_=0∧o.mode=0∧o.mask=0∧o.grp=0∧o.ps=[]∧(0≤o.x∧o.x≤1099511627776))∨(o.kind=10∧o.y=0∧o.i=0∧o.at_=0∧o.mode=0∧o.mask=0∧o.grp=0∧o.ps=[]∧(0≤o.x∧o.x≤1099511627776))∨(o.kind=11∧o.y=0∧o.i=0∧o.at_=0∧o.mode=0∧o.mask=0∧o.grp=0∧o.ps=[]∧(0≤o.x∧o.x≤1099511627776))
theorem GR {o:ax} (h:o.kind=0):cn o↔o.y=0∧o.i=0∧o.at_=0∧o.mask=0∧(0≤o.x∧o.x≤1099511627776)∧(0≤o.mode∧o.mode≤1099511627776)∧fV o.ps∧(∃p,o.ps[0]?=some p∧p.g=o.grp)∧∀p∈o.ps,ca p:=by
 unfold cn
 rw[h]
 simp
theorem Ob {o:ax} (h:o.kind=1):cn o↔o.i=0∧o.at_=0∧o.mode=0∧o.mask=0∧o.grp=0∧o.ps=[]∧(0≤o.x∧o.x≤1099511627776)∧(0≤o.y∧o.y≤1099511627776):=by
 unfold cn
 rw[h]
 simp
theorem Oa {o:ax} (h:o.kind=2):cn o↔o.x=0∧o.y=0∧o.at_=0∧o.mode=0∧o.mask=0∧o.grp=0∧o.ps=[]∧(0≤o.i∧o.i≤1099511627776):=by
 unfold cn
 rw[h]
 simp
theorem NZ {o:ax} (h:o.kind=3):cn o↔o.x=0∧o.y=0∧o.at_=0∧o.mode=0∧o.mask=0∧o.grp=0∧o.ps=[]∧(0≤o.i∧o.i≤1099511627776):=by
 unfold cn
 rw[h]
 simp
theorem NY {o:ax} (h:o.kind=4):cn o↔o.x=0∧o.y=0∧o.at_=0∧o.mode=0∧o.mask=0∧o.grp=0∧o.ps=[]∧(0≤o.i∧o.i≤1099511627776):=by
 unfold cn
 rw[h]
 simp
theorem NX {o:ax} (h:o.kind=5):cn o↔o.x=0∧o.y=0∧o.mode=0∧o.grp=0∧o.ps=[]∧(0≤o.i∧o.i≤1099511627776)∧(0≤o.at_∧o.at_≤1099511627776):=by
 unfold cn
 rw[h]
 simp
theorem NW {o:ax} (h:o.kind=6):cn o↔o.y=0∧o.i=0∧o.at_=0∧o.mode=0∧o.mask=0∧o.grp=0∧o.ps=[]∧(0≤o.x∧o.x≤1099511627776):=by
 unfold cn
 rw[h]
 simp
theorem NV {o:ax} (h:o.kind=7):cn o↔o.i=0∧o.at_=0∧o.mode=0∧o.mask=0∧o.grp=0∧o.ps=[]∧(0≤o.x∧o.x≤1099511627776)∧(0≤o.y∧o.y≤1099511627776):=by
 unfold cn
 rw[h]
 simp
theorem NU {o:ax} (h:o.kind=8):cn o↔o.y=0∧o.i=0∧o.at_=0∧o.mode=0∧o.mask=0∧o.grp=0∧o.ps=[]∧(0≤o.x∧o.x≤1099511627776):=by
 unfold cn
 rw[h]
 simp
theorem NT {o:ax} (h:o.kind=9):cn o↔o.y=0∧o.i=0∧o.at_=0∧o.mode=0∧o.mask=0∧o.grp=0∧o.ps=[]∧(0≤o.x∧o.x≤1099511627776):=by
 unfold cn
 rw[h]
 simp
theorem HX {o:ax} (h:o.kind=10):cn o↔o.y=0∧o.i=0∧o.at_=0∧o.mode=0∧o.mask=0∧o.grp=0∧o.ps=[]∧(0≤o.x∧o.x≤1099511627776):=by
 unfold cn
 rw[h]
 simp
theorem HW {o:ax} (h:o.kind=11):cn o↔o.y=0∧o.i=0∧o.at_=0∧o.mode=0∧o.mask=0∧o.grp=0∧o.ps=[]∧(0≤o.x∧o.x≤1099511627776):=by
 unfold cn
 rw[h]
 simp
theorem HV {o:ax} (h:¬(0≤o.kind∧o.kind≤11)):¬cn o:=by
 unfold cn
 intro q
 rcases q with⟨q,_⟩|⟨q,_⟩|⟨q,_⟩|⟨q,_⟩|⟨q,_⟩|⟨q,_⟩|⟨q,_⟩|⟨q,_⟩|⟨q,_⟩|⟨q,_⟩|⟨q,_⟩|⟨q,_⟩<;>omega
def yp:XC:=(.aft (.seq (.seq (g_ 8 [p_ 0 4 (m_ 3),p_ 1 5 (m_ 0),p_ 2 6 (k_ 5),p_ 3 7 (.bin 3 0 (.t 4) (.t 6)),p_ 4 8 (m_ 7),aj 5 9 8 true (m_ 3),aj 6 10 8 true (.bin 3 0 (.t 9) (i_ 10)),p_ 7 11 (.pick (.t 8) (.t 10) (.c (.bool false)))]) (.cond (.t 11) .skip (.exit 2))) (.seq (.block 3 (.seq (g_ 6 [p_ 0 14 (m_ 0),p_ 1 15 (m_ 3),p_ 2 16 (.ixs 5 (.t 14) (.t 15)),r_ 3 17 (.ld true 5 (.t 16)),c_ 4 18 104 [.t 17],p_ 5 19 (.un 0 (.t 18))]) (.cond (.t 19) (.seq (g_ 1 [p_ 0 2 (.mv (.c (.bool false)))]) .ret) .skip))) (g_ 3 [p_ 0 12 (m_ 3),p_ 1 13 (.bin 0 0 (.t 12) (i_ 1)),p_ 2 3 (m_ 13)]))) [(0,[.can 0 [0,3]]),(1,[.can 0 [2]]),(2,[.can 0 [0]])])
def Mt:XF:=.mk 28 (.one 2) (.aft (.seq (g_ 1 [p_ 0 2 (.mv (.c (.bool false)))]) (.seq (.seq (g_ 1 [p_ 0 3 (.mv (i_ 0))]) (.block 2 (.pre [.can 0 [0,3],.up 3,.can 0 [0,3]] (.inv 0 yp)))) (.seq (g_ 9 [p_ 0 20 (m_ 0),p_ 1 21 (k_ 20),p_ 2 22 (.bin 3 3 (.t 21) (i_ 1)),p_ 3 23 (m_ 22),aj 4 24 23 true (m_ 0),aj 5 25 23 true (k_ 24),aj 6 26 23 true (.bin 3 1 (.t 25) (i_ 4)),p_ 7 27 (.pick (.t 23) (.t 26) (.c (.bool false))),p_ 8 2 (m_ 27)]) .ret))) [(0,[.up 2]),(1,[.up 2])])
theorem Oz:bE Tryz.prog 86 Mt=true:=by kernel_rfl
structure fo where
 h:Value
 l:List aB
 i:Int
def Ft (p:fo):Prop:=p.l.length≤10→∀x∈p.l,bo x
def Cs (p:fo):Prop:=¬∀x∈p.l,bo x
noncomputable def jx (p:fo):IL:=((.cons 3 (.sy (.int 0 p.i)) (.cons 0 (.sy (.imm p.h 5 aB p.l encP)) .nil)),.leaf,0)
noncomputable def ve (p:fo) (K:KC):Bool:=ac (iP (Ft p) (K 2 (.cons 0 (.sy (.imm p.h 5 aB p.l encP)) .nil) .leaf 0) true) (iP (Cs p) (K 1 (.cons 2 (.bool false) .nil) .leaf 0) true)
def jf (p:fo):Prop:=p.l.length≤1000000∧0≤p.i∧p.i≤(p.l.length:Int)∧p.i≤10∧(∀x∈p.l,lV x)∧(∀(j:Nat) y,(j:Int)<p.i→p.l[j]?=some y→bo y)
noncomputable def rK (p:fo) (K:KC):Bool:=ac (aC (jf p)) (ve p K)
noncomputable def zg:fE:=fun j S M nx K=>(Bool.rec (false) (aF fun p:fo=>ac (aC ((S,M,nx)=jx p)) (rK p K)) (Nat.beq j 0))
def ii (p:fo):Nat:=((p.l.length:Int) - p.i).toNat
noncomputable def Gy (s:IL) (n:Nat) (K:KC):Bool:=aF fun q=>mP (s=jx q∧ii q<n) (rK q K)
theorem Ru {p q:fo} {K:KC} {s:IL} (hm:ii q<ii p:=by dsimp only[ii]<;>(omega)) (hp:jf q:=by dsimp only[jf]<;>(exact⟨g0,by omega,by omega,by omega,g4,nL g5 (by omega) hi3 (by simp_all)⟩)) (hK:ve q K=true:=by exact hK) (e:s=jx q:=by rfl):Gy s (ii p) K=true:=aK q (ba ⟨e,hm⟩ (ba hp hK))
theorem PB (p:fo) (K:KC) (hpre:jf p) (hK:ve p K=true):(cO (di sk) zg 600 yp (jx p).1 (jx p).2.1 (jx p).2.2 (fun e S M nx=>Nat.casesOn e (aF fun q:fo=>ac (aC ((S,M,nx)=jx q∧ii q<ii p)) (rK q K)) (fun e2=>K (Nat.succ e2) S M nx)))=true:=by
 refine Eq.trans (b:=(iP (p.i<(p.l.length:Int)) (iP (p.i<(10:Int)) (mP (0≤p.i∧p.i<(p.l.length:Int)) (am fun x1:aB=>iP (p.l[p.i.toNat]?=some x1) (aM (([.agg [.sy (.int 1 x1.g),.sy (.int 1 x1.k),.sy (.str x1.key),.sy (.str x1.val),.sy (.int 0 x1.n)]],.leaf,0)) zJ nw ep fun p1 r1=>iP (¬r1.q) (K 1 (.cons 2 (.bool false) .nil) .leaf 0) (mP (bp 0 (p.i+(1:Int))) (Gy ((.cons 3 (.sy (.int 0 (p.i+(1:Int)))) (.cons 0 (.sy (.imm p.h 5 aB p.l encP)) .nil)),.leaf,0) (ii p) K))) true)) (K 2 (.cons 0 (.sy (.imm p.h 5 aB p.l encP)) .nil) .leaf 0)) (K 2 (.cons 0 (.sy (.imm p.h 5 aB p.l encP)) .nil) .leaf 0))) (by kernel_rfl) ?_
 obtain⟨hK0,hKr0⟩:=ai hK
 have hK1:=hKr0
 dsimp only[jf]at hpre
 obtain⟨g0,g1,g2,g3,g4,g5⟩:=hpre
 refine iI (fun hc1=> ?_) (fun hc1=> ?_)
 refine iI (fun hc2=> ?_) (fun hc2=> ?_)
 refine er ?_
 refine az (fun x1=> ?_)
 refine iI (fun hi3=> ?_) (fun _=>rfl)
 have hg_x1:=g4 _ (acF (by assumption:p.l[p.i.toNat]?=some x1))
 refine ay (⟨x1⟩:sP) rfl (by(try dsimp only[nw]);assumption) fun r1 hi4=> ?_
 dsimp only[ep]at hi4
 refine iI (fun hc5=> ?_) (fun hc5=> ?_)
 exact au (show¬∀x∈p.l,bo x from(by exact mY hi3 (by simp_all))) hK1
 refine bG ?_
 exact Ru (q:=⟨p.h,p.l,p.i+(1:Int)⟩)
 exact au (show p.l.length≤10→∀x∈p.l,bo x from(by intro z;exact nM g5 (by omega))) hK0
 exact au (show p.l.length≤10→∀x∈p.l,bo x from(by intro z;exact nM g5 (by omega))) hK0
theorem Qx:dI Tryz.prog 28 0 zg true 0 yp:=by
 exact eM (lf:=600) bm (bj qW) (by rfl) jx ii rK (fun b j x h=>by cases h) (fun S M nx K h=>by obtain⟨p,h⟩:=bL h;exact⟨p,(aa h).1,(aa h).2⟩) (fun p K h=>PB p K (aa h).1 (aa h).2)
structure rA where
 h:Value
 l:List aB
structure KD where
 q:Prop
def ny (p:rA) (r:KD):Prop:=r.q↔fV p.l
noncomputable def yE (p:rA):IE:=([.sy (.imm p.h 5 aB p.l encP)],.leaf,0)
noncomputable def AP (p:rA) (K:KE):Bool:=am fun r:KD=>iP (ny p r) (K (.sy (.bool r.q)) .leaf 0) true
def qk (p:rA):Prop:=p.l.length≤1000000∧∀x∈p.l,lV x
theorem Br {p:rA} {K:KE} (hK:AP p K=true) (r:KD) (h:ny p r):K (.sy (.bool r.q)) .leaf 0=true:=au h (aG hK r)
theorem UW (p:rA) (K:KE) (hpre:qk p) (hK:AP p K=true):(bW 0 (di sk) zg 600 Mt (yE p).1 (yE p).2.1 (yE p).2.2 K)=true:=by
 refine Eq.trans (b:=(aF fun p1:fo=>mP (((.cons 3 (.sy (.int 0 0)) (.cons 0 (.sy (.imm p.h 5 aB p.l encP)) .nil)),.leaf,0)=jx p1) (mP (jf p1) (ac (iP (Ft p1) (iP ((1:Int)≤(p1.l.length:Int)) (K (.sy (.bool ((p1.l.length:Int)≤(4:Int)))) .leaf 0) (K (.sy (.bool (false=true))) .leaf 0)) true) (iP (Cs p1) (K (.sy (.bool (false=true))) .leaf 0) true))))) (by kernel_rfl) ?_
 dsimp only[qk]at hpre
 refine dx (⟨p.h,p.l,(0:Int)⟩:fo) rfl (by(try dsimp only[jf]);exact⟨hpre.1,by omega,by omega,by omega,hpre.2,fun j y h1 h2=>by omega⟩) ?_
 refine aE ?_ ?_
 refine iI (p:=p.l.length≤10→∀x∈p.l,bo x) (fun hi1=> ?_) (fun _=>rfl)
 refine iI (p:=(1:Int)≤(p.l.length:Int)) (fun hc2=> ?_) (fun hc2=> ?_)
 exact Br hK ⟨(p.l.length:Int)≤(4:Int)⟩ (by dsimp only[ny]<;>(unfold fV;first|(refine⟨fun h=>⟨by omega,by omega,hi1 (by omega)⟩,fun h=> ?_⟩;omega)|(have e:=hi1 (by omega);simp_all;done)|(have e:=hi1 (by omega);constructor<;>intro h<;>simp_all<;>omega)|(constructor<;>intro h<;>simp_all<;>omega)|(simp_all;done)|(simp_all;omega)))
 exact Br hK ⟨false=true⟩ (by dsimp only[ny]<;>(unfold fV;first|(refine⟨fun h=>⟨by omega,by omega,hi1 (by omega)⟩,fun h=> ?_⟩;omega)|(have e:=hi1 (by omega);simp_all;done)|(have e:=hi1 (by omega);constructor<;>intro h<;>simp_all<;>omega)|(constructor<;>intro h<;>simp_all<;>omega)|(simp_all;done)|(simp_all;omega)))
 refine iI (p:=¬∀x∈p.l,bo x) (fun hi3=> ?_) (fun _=>rfl)
 exact Br hK ⟨false=true⟩ (by dsimp only[ny]<;>(unfold fV;first|(refine⟨fun h=>⟨by omega,by omega,hi3 (by omega)⟩,fun h=> ?_⟩;omega)|(have e:=hi3 (by omega);simp_all;done)|(have e:=hi3 (by omega);constructor<;>intro h<;>simp_all<;>omega)|(constructor<;>intro h<;>simp_all<;>omega)|(simp_all;done)|(simp_all;omega)))
noncomputable def Bd:=bt sk 0 (bJ yE (dr qk AP)) 86 [(0,23)]
theorem Ac:aV Tryz.prog Bd:=aR (bU (f:=86) (k:=0) (lp:=zg) (lf:=600) bm (bj qW) Oz (by rfl) (fun b j x h=>(cy Qx (fun h=>(by cases h)) h)) fun p K h=>UW p K (aa h).1 (aa h).2) qW
def CX:XF:=.mk 26 (.one 4) (.aft (.seq (g_ 1 [p_ 0 4 (.mv (.c (.bool false)))]) (.seq (.seq (g_ 5 [p_ 0 6 (m_ 0),p_ 1 7 (k_ 6),p_ 2 8 (m_ 1),p_ 3 9 (k_ 8),p_ 4 10 (.bin 3 5 (.t 7) (.t 9))]) (.cond (.t 10) (.seq (g_ 1 [p_ 0 4 (.mv (.c (.bool false)))]) .ret) .skip)) (.seq (.seq (g_ 3 [p_ 0 11 (m_ 0),p_ 1 12 (k_ 11),p_ 2 13 (.mv (i_ 0))]) (.block 2 (.loop [0,1,4,5,12,13,14,15,16,17,18,19,20,21,22,23,24,25] (.seq (g_ 1 [p_ 0 14 (.bin 3 0 (.t 13) (.t 12))]) (.seq (.cond (.t 14) .skip (.exit 2)) (.seq (.block 3 (.seq (g_ 2 [p_ 0 15 (m_ 13),p_ 1 5 (m_ 15)]) (.seq (h_ 9 [p_ 0 16 (m_ 0),p_ 1 17 (m_ 5),p_ 2 18 (.ixs 5 (.t 16) (.t 17)),r_ 3 19 (.ld true 5 (.t 18)),p_ 4 20 (m_ 1),p_ 5 21 (m_ 5),p_ 6 22 (.ixs 5 (.t 20) (.t 21)),r_ 7 23 (.ld true 5 (.t 22)),p_ 8 24 (.eqs true 2 (.st [(0,1,false,.int),(1,1,false,.int),(2,1,false,.str),(3,1,false,.str),(4,1,false,.int)]) (.t 19) (.t 23))]) (.cond (.t 24) (.seq (g_ 1 [p_ 0 4 (.mv (.c (.bool false)))]) .ret) .skip)))) (g_ 2 [p_ 0 25 (.bin 0 0 (.t 13) (i_ 1)),p_ 1 13 (m_ 25)]))))))) (.seq (g_ 1 [p_ 0 4 (.mv (.c (.bool true)))]) .ret)))) [(0,[.up 4]),(1,[.up 4])])
theorem GL:bE Tryz.prog 98 CX=true:=by kernel_rfl
structure bQ where
 h:Value
 l:List aB
structure dZ where
 q:Prop
def bC (p:bQ) (r:dZ):Prop:=r.q↔p.l=[]
noncomputable def dK (p:bQ):IE:=([.sy (.imm p.h 5 aB p.l encP),.nilS],.leaf,0)
noncomputable def td (p:bQ) (K:KE):Bool:=am fun r:dZ=>iP (bC p r) (K (.sy (.bool r.q)) .leaf 0) true
theorem Ap {p:bQ} {K:KE} (hK:td p K=true) (r:dZ) (h:bC p r):K (.sy (.bool r.q)) .leaf 0=true:=au h (aG hK r)
theorem Nd (p:bQ) (K:KE) (hK:td p K=true):(bW 0 (di Bd) cL 600 CX (dK p).1 (dK p).2.1 (dK p).2.2 K)=true:=by
 refine Eq.trans (b:=(iP (¬(p.l.length:Int)=(0:Int)) (K (.sy (.bool (false=true))) .leaf 0) (iP ((0:Int)<(p.l.length:Int)) (mP (0≤(0:Int)∧(0:Int)<(p.l.length:Int)) (am fun x1:aB=>iP (p.l[0]?=some x1) (false) true)) (K (.sy (.bool (true=true))) .leaf 0)))) (by kernel_rfl) ?_
 refine iI (fun hc1=> ?_) (fun hc1=> ?_)
 exact Ap hK ⟨false=true⟩ (by dsimp only[bC]<;>(first|(simp_all;done)|(simp;intro e;simp[e]at*;done)|(simp;exact acW (by omega))))
 refine iI (fun hc2=> ?_) (fun hc2=> ?_)
 refine er ?_
 refine az (fun x1=> ?_)
 refine iI (fun hi3=> ?_) (fun _=>rfl)
 exfalso;omega
 exact Ap hK ⟨true=true⟩ (by dsimp only[bC]<;>(first|(simp_all;done)|(simp;intro e;simp[e]at*;done)|(simp;exact acW (by omega))))
noncomputable def tv:=bt Bd 0 (bJ dK td) 98 [(0,23),(1,8)]
theorem tZ:aV Tryz.prog tv:=aR (pU (f:=98) (k:=0) (bj Ac) GL (by rfl) (by rfl) Nd) Ac
def Gc:XF:=.mk 26 (.one 4) (.aft (.seq (g_ 1 [p_ 0 4 (.mv (.c (.bool false)))]) (.seq (.seq (g_ 5 [p_ 0 6 (m_ 0),p_ 1 7 (k_ 6),p_ 2 8 (m_ 1),p_ 3 9 (k_ 8),p_ 4 10 (.bin 3 5 (.t 7) (.t 9))]) (.cond (.t 10) (.seq (g_ 1 [p_ 0 4 (.mv (.c (.bool false)))]) .ret) .skip)) (.seq (.seq (g_ 1 [p_ 0 5 (.mv (i_ 0))]) (.block 2 (.loop [0,1,4,5,11,12,13,14,15,16,17,18,19,20,21,22,23,24,25] (.seq (.seq (g_ 4 [p_ 0 11 (m_ 5),p_ 1 12 (m_ 0),p_ 2 13 (k_ 12),p_ 3 14 (.bin 3 0 (.t 11) (.t 13))]) (.cond (.t 14) .skip (.exit 2))) (.seq (.block 3 (.seq (h_ 9 [p_ 0 17 (m_ 0),p_ 1 18 (m_ 5),p_ 2 19 (.ixs 5 (.t 17) (.t 18)),r_ 3 20 (.ld true 5 (.t 19)),p_ 4 21 (m_ 1),p_ 5 22 (m_ 5),p_ 6 23 (.ixs 5 (.t 21) (.t 22)),r_ 7 24 (.ld true 5 (.t 23)),p_ 8 25 (.eqs true 2 (.st [(0,1,false,.int),(1,1,false,.int),(2,1,false,.str),(3,1,false,.str),(4,1,false,.int)]) (.t 20) (.t 24))]) (.cond (.t 25) (.seq (g_ 1 [p_ 0 4 (.mv (.c (.bool false)))]) .ret) .skip))) (g_ 3 [p_ 0 15 (m_ 5),p_ 1 16 (.bin 0 0 (.t 15) (i_ 1)),p_ 2 5 (m_ 16)])))))) (.seq (g_ 1 [p_ 0 4 (.mv (.c (.bool true)))]) .ret)))) [(0,[.up 4]),(1,[.up 4])])
theorem Jm:bE Tryz.prog 55 Gc=true:=by kernel_rfl
structure ci where
 h:Value
 l:List aB
structure eR where
 q:Prop
def bT (p:ci) (r:eR):Prop:=r.q↔p.l=[]
noncomputable def ei (p:ci):IE:=([.nilS,.sy (.imm p.h 5 aB p.l encP)],.leaf,0)
noncomputable def uY (p:ci) (K:KE):Bool:=am fun r:eR=>iP (bT p r) (K (.sy (.bool r.q)) .leaf 0) true
theorem CZ {p:ci} {K:KE} (hK:uY p K=true) (r:eR) (h:bT p r):K (.sy (.bool r.q)) .leaf 0=true:=au h (aG hK r)
theorem Ps (p:ci) (K:KE) (hK:uY p K=true):(bW 0 (di tv) cL 600 Gc (ei p).1 (ei p).2.1 (ei p).2.2 K)=true:=by
 refine Eq.trans (b:=(iP (¬(0:Int)=(p.l.length:Int)) (K (.sy (.bool (false=true))) .leaf 0) (K (.sy (.bool (true=true))) .leaf 0))) (by kernel_rfl) ?_
 refine iI (fun hc1=> ?_) (fun hc1=> ?_)
 exact CZ hK ⟨false=true⟩ (by dsimp only[bT]<;>(first|(simp_all;done)|(simp;intro e;simp[e]at*;done)|(simp;exact acW (by omega))))
 exact CZ hK ⟨true=true⟩ (by dsimp only[bT]<;>(first|(simp_all;done)|(simp;intro e;simp[e]at*;done)|(simp;exact acW (by omega))))
noncomputable def vr:=bt tv 0 (bJ ei uY) 55 [(0,8),(1,23)]
theorem ww:aV Tryz.prog vr:=aR (pU (f:=55) (k:=0) (bj tZ) Jm (by rfl) (by rfl) Ps) tZ
def CS:XF:=.mk 14 (.one 2) (.seq (g_ 1 [p_ 0 2 (.mv (.c (.str [])))]) (.seq (g_ 3 [p_ 0 4 (.bld [.str [],.str [],.str [],.str [],.str [],.str [],.str [],.str [],.str [],.str [],.str [],.str []] [(0,1),(1,1),(2,1),(3,1),(4,1),(5,1),(6,1),(7,1),(8,1),(9,1),(10,1),(11,1)] [.c (.str [105,110,118,111,107,101]),.c (.str [115,108,97,121]),.c (.str [100,101,108,105,118,101,114]),.c (.str [100,114,111,112]),.c (.str [116,119,105,99,101]),.c (.str [115,112,111,105,108]),.c (.str [116,105,99,107]),.c (.str [115,117,115,112,101,99,116]),.c (.str [99,114,97,115,104]),.c (.str [114,101,115,116,97,114,116]),.c (.str [106,111,105,110]),.c (.str [108,101,97,118,101])]),e_ 1 3 (.al 154 [.str [],.str [],.str [],.str [],.str [],.str [],.str [],.str [],.str [],.str [],.str [],.str []]),bl 2 (.st 12 (.t 3) (.t 4))]) (.seq (.seq (g_ 6 [p_ 0 5 (m_ 0),p_ 1 6 (.bin 3 0 (.t 5) (i_ 0)),p_ 2 7 (m_ 6),aj 3 8 7 false (m_ 0),aj 4 9 7 false (.bin 3 3 (.t 8) (i_ 12)),p_ 5 10 (.pick (.t 7) (.c (.bool true)) (.t 9))]) (.cond (.t 10) (.seq (g_ 1 [p_ 0 2 (.mv (.c (.str [])))]) .ret) .skip)) (.seq (g_ 4 [p_ 0 11 (m_ 0),p_ 1 12 (.ixa 12 1 (.t 3) (.t 11)),r_ 2 13 (l_ 12),p_ 3 2 (m_ 13)]) .ret))))
theorem GJ:bE Tryz.prog 62 CS=true:=by kernel_rfl
structure mw where
 k:Int
noncomputable def oQ (p:mw):IE:=([.sy (.int 0 p.k)],.leaf,0)
noncomputable def Aa (p:mw) (K:KE):Bool:=K (.str []) .leaf 0
def lm (p:mw):Prop:=¬(0≤p.k∧p.k≤11)
theorem Na (p:mw) (K:KE) (hpre:lm p) (hK:Aa p K=true):(bW 0 (di vr) cL 600 CS (oQ p).1 (oQ p).2.1 (oQ p).2.2 K)=true:=by
 refine Eq.trans (b:=(iP (p.k<(0:Int)) (K (.str []) .leaf 0) (iP ((12:Int)≤p.k) (K (.str []) .leaf 0) (iP (p.k=0) (K (.str [105,110,118,111,107,101]) .leaf 0) (iP (p.k=1) (K (.str [115,108,97,121]) .leaf 0) (iP (p.k=2) (K (.str [100,101,108,105,118,101,114]) .leaf 0) (iP (p.k=3) (K (.str [100,114,111,112]) .leaf 0) (iP (p.k=4) (K (.str [116,119,105,99,101]) .leaf 0) (iP (p.k=5) (K (.str [115,112,111,105,108]) .leaf 0) (iP (p.k=6) (K (.str [116,105,99,107]) .leaf 0) (iP (p.k=7) (K (.str [115,117,115,112,101,99,116]) .leaf 0) (iP (p.k=8) (K (.str [99,114,97,115,104]) .leaf 0) (iP (p.k=9) (K (.str [114,101,115,116,97,114,116]) .leaf 0) (iP (p.k=10) (K (.str [106,111,105,110]) .leaf 0) (iP (p.k=11) (K (.str [108,101,97,118,101]) .leaf 0) (mP (False) (true))))))))))))))))) (by kernel_rfl) ?_
 dsimp only[lm]at hpre
 refine iI (fun hc1=> ?_) (fun hc1=> ?_)
 exact hK
 refine iI (fun hc2=> ?_) (fun hc2=> ?_)
 exact hK
 refine iI (fun hc3=> ?_) (fun hc3=> ?_)
 exfalso;omega
 refine iI (fun hc4=> ?_) (fun hc4=> ?_)
 exfalso;omega
 refine iI (fun hc5=> ?_) (fun hc5=> ?_)
 exfalso;omega
 refine iI (fun hc6=> ?_) (fun hc6=> ?_)
 exfalso;omega
 refine iI (fun hc7=> ?_) (fun hc7=> ?_)
 exfalso;omega
 refine iI (fun hc8=> ?_) (fun hc8=> ?_)
 exfalso;omega
 refine iI (fun hc9=> ?_) (fun hc9=> ?_)
 exfalso;omega
 refine iI (fun hc10=> ?_) (fun hc10=> ?_)
 exfalso;omega
 refine iI (fun hc11=> ?_) (fun hc11=> ?_)
 exfalso;omega
 refine iI (fun hc12=> ?_) (fun hc12=> ?_)
 exfalso;omega
 refine iI (fun hc13=> ?_) (fun hc13=> ?_)
 exfalso;omega
 refine iI (fun hc14=> ?_) (fun hc14=> ?_)
 exfalso;omega
 refine jE ?_
 rfl
noncomputable def tf:=bt vr 0 (bJ oQ (dr lm Aa)) 62 [(0,20)]
theorem tV:aV Tryz.prog tf:=aR (cY (f:=62) (k:=0) (bj ww) GJ (by rfl) (by rfl) Na) ww
def Ak:XF:=.mk 24 (.two 2 3) (.seq (g_ 2 [p_ 0 2 (.mv (.c (.str []))),p_ 1 3 (.mv (.c (.str [])))]) (.seq (g_ 2 [e_ 0 6 (.bsl 9 1 12 [.str [],.str [],.str [],.str [],.str [],.str [],.str [],.str [],.str [],.str [],.str [],.str []] [(0,1),(1,1),(2,1),(3,1),(4,1),(5,1),(6,1),(7,1),(8,1),(9,1),(10,1),(11,1)] [.c (.str [105,110,118,111,107,101]),.c (.str [115,108,97,121]),.c (.str [100,101,108,105,118,101,114]),.c (.str [100,114,111,112]),.c (.str [116,119,105,99,101]),.c (.str [115,112,111,105,108]),.c (.str [116,105,99,107]),.c (.str [115,117,115,112,101,99,116]),.c (.str [99,114,97,115,104]),.c (.str [114,101,115,116,97,114,116]),.c (.str [106,111,105,110]),.c (.str [108,101,97,118,101])]),p_ 1 4 (m_ 6)]) (.seq (g_ 2 [e_ 0 7 (.bsl 9 1 12 [.str [],.str [],.str [],.str [],.str [],.str [],.str [],.str [],.str [],.str [],.str [],.str []] [(0,1),(1,1),(2,1),(3,1),(4,1),(5,1),(6,1),(7,1),(8,1),(9,1),(10,1),(11,1)] [.c (.str [120,109]),.c (.str [120,121]),.c (.str [105]),.c (.str [105]),.c (.str [105]),.c (.str [105,97,107]),.c (.str [120]),.c (.str [120,121]),.c (.str [120]),.c (.str [120]),.c (.str [120]),.c (.str [120])]),p_ 1 5 (m_ 7)]) (.seq (.seq (g_ 8 [p_ 0 8 (m_ 0),p_ 1 9 (.bin 3 0 (.t 8) (i_ 0)),p_ 2 10 (m_ 9),aj 3 11 10 false (m_ 0),aj 4 12 10 false (m_ 4),aj 5 13 10 false (k_ 12),aj 6 14 10 false (.bin 3 3 (.t 11) (.t 13)),p_ 7 15 (.pick (.t 10) (.c (.bool true)) (.t 14))]) (.cond (.t 15) (.seq (g_ 2 [p_ 0 2 (.mv (.c (.str []))),p_ 1 3 (.mv (.c (.str [])))]) .ret) .skip)) (.seq (h_ 10 [p_ 0 16 (m_ 4),p_ 1 17 (m_ 0),p_ 2 18 (.ixs 1 (.t 16) (.t 17)),r_ 3 19 (l_ 18),p_ 4 20 (m_ 5),p_ 5 21 (m_ 0),p_ 6 22 (.ixs 1 (.t 20) (.t 21)),r_ 7 23 (l_ 22),p_ 8 2 (m_ 19),p_ 9 3 (m_ 23)]) .ret)))))
theorem EC:bE Tryz.prog 51 Ak=true:=by kernel_rfl
structure kY where
 k:Int
noncomputable def mZ (p:kY):IE:=([.sy (.int 0 p.k)],.leaf,0)
noncomputable def wV (p:kY) (K:KE):Bool:=K (.tup [.str [],.str []]) .leaf 0
def jU (p:kY):Prop:=¬(0≤p.k∧p.k≤11)
theorem KN (p:kY) (K:KE) (hpre:jU p) (hK:wV p K=true):(bW 0 (di tf) cL 600 Ak (mZ p).1 (mZ p).2.1 (mZ p).2.2 K)=true:=by
 refine Eq.trans (b:=(let z0:Bool:=(K (.tup [.str [100,101,108,105,118,101,114],.str [120]]) .leaf 0);let z1:Bool:=(K (.tup [.str [115,117,115,112,101,99,116],.str [120]]) .leaf 0);let z2:Bool:=(K (.tup [.str [114,101,115,116,97,114,116],.str [120]]) .leaf 0);let z3:Bool:=(K (.tup [.str [105,110,118,111,107,101],.str [120]]) .leaf 0);let z4:Bool:=(K (.tup [.str [115,112,111,105,108],.str [120]]) .leaf 0);let z5:Bool:=(K (.tup [.str [116,119,105,99,101],.str [120]]) .leaf 0);let z6:Bool:=(K (.tup [.str [108,101,97,118,101],.str [120]]) .leaf 0);let z7:Bool:=(K (.tup [.str [99,114,97,115,104],.str [120]]) .leaf 0);let z8:Bool:=(K (.tup [.str [100,114,111,112],.str [120]]) .leaf 0);let z9:Bool:=(K (.tup [.str [106,111,105,110],.str [120]]) .leaf 0);let z10:Bool:=(K (.tup [.str [115,108,97,121],.str [120]]) .leaf 0);let z11:Bool:=(K (.tup [.str [116,105,99,107],.str [120]]) .leaf 0);let z12:Bool:=(K (.tup [.str [100,101,108,105,118,101,114],.str [105]]) .leaf 0);let z13:Bool:=(K (.tup [.str [115,117,115,112,101,99,116],.str [105]]) .leaf 0);let z14:Bool:=(K (.tup [.str [114,101,115,116,97,114,116],.str [105]]) .leaf 0);let z15:Bool:=(K (.tup [.str [105,110,118,111,107,101],.str [105]]) .leaf 0);let z16:Bool:=(K (.tup [.str [115,112,111,105,108],.str [105]]) .leaf 0);let z17:Bool:=(K (.tup [.str [116,119,105,99,101],.str [105]]) .leaf 0);let z18:Bool:=(K (.tup [.str [108,101,97,118,101],.str [105]]) .leaf 0);let z19:Bool:=(K (.tup [.str [99,114,97,115,104],.str [105]]) .leaf 0);let z20:Bool:=(K (.tup [.str [100,114,111,112],.str [105]]) .leaf 0);let z21:Bool:=(K (.tup [.str [106,111,105,110],.str [105]]) .leaf 0);let z22:Bool:=(K (.tup [.str [115,108,97,121],.str [105]]) .leaf 0);let z23:Bool:=(K (.tup [.str [116,105,99,107],.str [105]]) .leaf 0);let z24:Bool:=(K (.tup [.str [100,101,108,105,118,101,114],.str [120,121]]) .leaf 0);let z25:Bool:=(K (.tup [.str [115,117,115,112,101,99,116],.str [120,121]]) .leaf 0);let z26:Bool:=(K (.tup [.str [114,101,115,116,97,114,116],.str [120,121]]) .leaf 0);let z27:Bool:=(K (.tup [.str [105,110,118,111,107,101],.str [120,121]]) .leaf 0);let z28:Bool:=(K (.tup [.str [115,112,111,105,108],.str [120,121]]) .leaf 0);let z29:Bool:=(K (.tup [.str [116,119,105,99,101],.str [120,121]]) .leaf 0);let z30:Bool:=(K (.tup [.str [108,101,97,118,101],.str [120,121]]) .leaf 0);let z31:Bool:=(K (.tup [.str [99,114,97,115,104],.str [120,121]]) .leaf 0);let z32:Bool:=(K (.tup [.str [100,114,111,112],.str [120,121]]) .leaf 0);let z33:Bool:=(K (.tup [.str [106,111,105,110],.str [120,121]]) .leaf 0);let z34:Bool:=(K (.tup [.str [115,108,97,121],.str [120,121]]) .leaf 0);let z35:Bool:=(K (.tup [.str [116,105,99,107],.str [120,121]]) .leaf 0);iP (p.k<(0:Int)) (K (.tup [.str [],.str []]) .leaf 0) (iP ((12:Int)≤p.k) (K (.tup [.str [],.str []]) .leaf 0) (iP (p.k=0) (iP (p.k=0) (K (.tup [.str [105,110,118,111,107,101],.str [120,109]]) .leaf 0) (iP (p.k=1) z27 (iP (p.k=2) z15 (iP (p.k=3) z15 (iP (p.k=4) z15 (iP (p.k=5) (K (.tup [.str [105,110,118,111,107,101],.str [105,97,107]]) .leaf 0) (iP (p.k=6) z3 (iP (p.k=7) z27 (iP (p.k=8) z3 (iP (p.k=9) z3 (iP (p.k=10) z3 (iP (p.k=11) z3 (mP (False) (true)))))))))))))) (iP (p.k=1) (iP (p.k=0) (K (.tup [.str [115,108,97,121],.str [120,109]]) .leaf 0) (iP (p.k=1) z34 (iP (p.k=2) z22 (iP (p.k=3) z22 (iP (p.k=4) z22 (iP (p.k=5) (K (.tup [.str [115,108,97,121],.str [105,97,107]]) .leaf 0) (iP (p.k=6) z10 (iP (p.k=7) z34 (iP (p.k=8) z10 (iP (p.k=9) z10 (iP (p.k=10) z10 (iP (p.k=11) z10 (mP (False) (true)))))))))))))) (iP (p.k=2) (iP (p.k=0) (K (.tup [.str [100,101,108,105,118,101,114],.str [120,109]]) .leaf 0) (iP (p.k=1) z24 (iP (p.k=2) z12 (iP (p.k=3) z12 (iP (p.k=4) z12 (iP (p.k=5) (K (.tup [.str [100,101,108,105,118,101,114],.str [105,97,107]]) .leaf 0) (iP (p.k=6) z0 (iP (p.k=7) z24 (iP (p.k=8) z0 (iP (p.k=9) z0 (iP (p.k=10) z0 (iP (p.k=11) z0 (mP (False) (true)))))))))))))) (iP (p.k=3) (iP (p.k=0) (K (.tup [.str [100,114,111,112],.str [120,109]]) .leaf 0) (iP (p.k=1) z32 (iP (p.k=2) z20 (iP (p.k=3) z20 (iP (p.k=4) z20 (iP (p.k=5) (K (.tup [.str [100,114,111,112],.str [105,97,107]]) .leaf 0) (iP (p.k=6) z8 (iP (p.k=7) z32 (iP (p.k=8) z8 (iP (p.k=9) z8 (iP (p.k=10) z8 (iP (p.k=11) z8 (mP (False) (true)))))))))))))) (iP (p.k=4) (iP (p.k=0) (K (.tup [.str [116,119,105,99,101],.str [120,109]]) .leaf 0) (iP (p.k=1) z29 (iP (p.k=2) z17 (iP (p.k=3) z17 (iP (p.k=4) z17 (iP (p.k=5) (K (.tup [.str [116,119,105,99,101],.str [105,97,107]]) .leaf 0) (iP (p.k=6) z5 (iP (p.k=7) z29 (iP (p.k=8) z5 (iP (p.k=9) z5 (iP (p.k=10) z5 (iP (p.k=11) z5 (mP (False) (true)))))))))))))) (iP (p.k=5) (iP (p.k=0) (K (.tup [.str [115,112,111,105,108],.str [120,109]]) .leaf 0) (iP (p.k=1) z28 (iP (p.k=2) z16 (iP (p.k=3) z16 (iP (p.k=4) z16 (iP (p.k=5) (K (.tup [.str [115,112,111,105,108],.str [105,97,107]]) .leaf 0) (iP (p.k=6) z4 (iP (p.k=7) z28 (iP (p.k=8) z4 (iP (p.k=9) z4 (iP (p.k=10) z4 (iP (p.k=11) z4 (mP (False) (true)))))))))))))) (iP (p.k=6) (iP (p.k=0) (K (.tup [.str [116,105,99,107],.str [120,109]]) .leaf 0) (iP (p.k=1) z35 (iP (p.k=2) z23 (iP (p.k=3) z23 (iP (p.k=4) z23 (iP (p.k=5) (K (.tup [.str [116,105,99,107],.str [105,97,107]]) .leaf 0) (iP (p.k=6) z11 (iP (p.k=7) z35 (iP (p.k=8) z11 (iP (p.k=9) z11 (iP (p.k=10) z11 (iP (p.k=11) z11 (mP (False) (true)))))))))))))) (iP (p.k=7) (iP (p.k=0) (K (.tup [.str [115,117,115,112,101,99,116],.str [120,109]]) .leaf 0) (iP (p.k=1) z25 (iP (p.k=2) z13 (iP (p.k=3) z13 (iP (p.k=4) z13 (iP (p.k=5) (K (.tup [.str [115,117,115,112,101,99,116],.str [105,97,107]]) .leaf 0) (iP (p.k=6) z1 (iP (p.k=7) z25 (iP (p.k=8) z1 (iP (p.k=9) z1 (iP (p.k=10) z1 (iP (p.k=11) z1 (mP (False) (true)))))))))))))) (iP (p.k=8) (iP (p.k=0) (K (.tup [.str [99,114,97,115,104],.str [120,109]]) .leaf 0) (iP (p.k=1) z31 (iP (p.k=2) z19 (iP (p.k=3) z19 (iP (p.k=4) z19 (iP (p.k=5) (K (.tup [.str [99,114,97,115,104],.str [105,97,107]]) .leaf 0) (iP (p.k=6) z7 (iP (p.k=7) z31 (iP (p.k=8) z7 (iP (p.k=9) z7 (iP (p.k=10) z7 (iP (p.k=11) z7 (mP (False) (true)))))))))))))) (iP (p.k=9) (iP (p.k=0) (K (.tup [.str [114,101,115,116,97,114,116],.str [120,109]]) .leaf 0) (iP (p.k=1) z26 (iP (p.k=2) z14 (iP (p.k=3) z14 (iP (p.k=4) z14 (iP (p.k=5) (K (.tup [.str [114,101,115,116,97,114,116],.str [105,97,107]]) .leaf 0) (iP (p.k=6) z2 (iP (p.k=7) z26 (iP (p.k=8) z2 (iP (p.k=9) z2 (iP (p.k=10) z2 (iP (p.k=11) z2 (mP (False) (true)))))))))))))) (iP (p.k=10) (iP (p.k=0) (K (.tup [.str [106,111,105,110],.str [120,109]]) .leaf 0) (iP (p.k=1) z33 (iP (p.k=2) z21 (iP (p.k=3) z21 (iP (p.k=4) z21 (iP (p.k=5) (K (.tup [.str [106,111,105,110],.str [105,97,107]]) .leaf 0) (iP (p.k=6) z9 (iP (p.k=7) z33 (iP (p.k=8) z9 (iP (p.k=9) z9 (iP (p.k=10) z9 (iP (p.k=11) z9 (mP (False) (true)))))))))))))) (iP (p.k=11) (iP (p.k=0) (K (.tup [.str [108,101,97,118,101],.str [120,109]]) .leaf 0) (iP (p.k=1) z30 (iP (p.k=2) z18 (iP (p.k=3) z18 (iP (p.k=4) z18 (iP (p.k=5) (K (.tup [.str [108,101,97,118,101],.str [105,97,107]]) .leaf 0) (iP (p.k=6) z6 (iP (p.k=7) z30 (iP (p.k=8) z6 (iP (p.k=9) z6 (iP (p.k=10) z6 (iP (p.k=11) z6 (mP (False) (true)))))))))))))) (mP (False) (true))))))))))))))))) (by kernel_rfl) ?_
 dsimp only[jU]at hpre
 refine iI (fun hc1=> ?_) (fun hc1=> ?_)
 exact hK
 refine iI (fun hc2=> ?_) (fun hc2=> ?_)
 exact hK
 refine iI (fun hc3=> ?_) (fun hc3=> ?_)
 refine iI (fun hc4=> ?_) (fun hc4=> ?_)
 exfalso;omega
 refine iI (fun hc5=> ?_) (fun hc5=> ?_)
 exfalso;omega
 refine iI (fun hc6=> ?_) (fun hc6=> ?_)
 exfalso;omega
 refine iI (fun hc7=> ?_) (fun hc7=> ?_)
 exfalso;omega
 refine iI (fun hc8=> ?_) (fun hc8=> ?_)
 exfalso;omega
 refine iI (fun hc9=> ?_) (fun hc9=> ?_)
 exfalso;omega
 refine iI (fun hc10=> ?_) (fun hc10=> ?_)
 exfalso;omega
 refine iI (fun hc11=> ?_) (fun hc11=> ?_)
 exfalso;omega
 refine iI (fun hc12=> ?_) (fun hc12=> ?_)
 exfalso;omega
 refine iI (fun hc13=> ?_) (fun hc13=> ?_)
 exfalso;omega
 refine iI (fun hc14=> ?_) (fun hc14=> ?_)
 exfalso;omega
 refine iI (fun hc15=> ?_) (fun hc15=> ?_)
 exfalso;omega
 refine jE ?_
 rfl
 refine iI (fun hc16=> ?_) (fun hc16=> ?_)
 refine iI (fun hc17=> ?_) (fun hc17=> ?_)
 exfalso;omega
 refine iI (fun hc18=> ?_) (fun hc18=> ?_)
 exfalso;omega
 refine iI (fun hc19=> ?_) (fun hc19=> ?_)
 exfalso;omega
 refine iI (fun hc20=> ?_) (fun hc20=> ?_)
 exfalso;omega
 refine iI (fun hc21=> ?_) (fun hc21=> ?_)
 exfalso;omega
 refine iI (fun hc22=> ?_) (fun hc22=> ?_)
 exfalso;omega
 refine iI (fun hc23=> ?_) (fun hc23=> ?_)
 exfalso;omega
 refine iI (fun hc24=> ?_) (fun hc24=> ?_)
 exfalso;omega
 refine iI (fun hc25=> ?_) (fun hc25=> ?_)
 exfalso;omega
 refine iI (fun hc26=> ?_) (fun hc26=> ?_)
 exfalso;omega
 refine iI (fun hc27=> ?_) (fun hc27=> ?_)
 exfalso;omega
 refine iI (fun hc28=> ?_) (fun hc28=> ?_)
 exfalso;omega
 refine jE ?_
 rfl
 refine iI (fun hc29=> ?_) (fun hc29=> ?_)
 refine iI (fun hc30=> ?_) (fun hc30=> ?_)
 exfalso;omega
 refine iI (fun hc31=> ?_) (fun hc31=> ?_)
 exfalso;omega
 refine iI (fun hc32=> ?_) (fun hc32=> ?_)
 exfalso;omega
 refine iI (fun hc33=> ?_) (fun hc33=> ?_)
 exfalso;omega
 refine iI (fun hc34=> ?_) (fun hc34=> ?_)
 exfalso;omega
 refine iI (fun hc35=> ?_) (fun hc35=> ?_)
 exfalso;omega
 refine iI (fun hc36=> ?_) (fun hc36=> ?_)
 exfalso;omega
 refine iI (fun hc37=> ?_) (fun hc37=> ?_)
 exfalso;omega
 refine iI (fun hc38=> ?_) (fun hc38=> ?_)
 exfalso;omega
 refine iI (fun hc39=> ?_) (fun hc39=> ?_)
 exfalso;omega
 refine iI (fun hc40=> ?_) (fun hc40=> ?_)
 exfalso;omega
 refine iI (fun hc41=> ?_) (fun hc41=> ?_)
 exfalso;omega
 refine jE ?_
 rfl
 refine iI (fun hc42=> ?_) (fun hc42=> ?_)
 refine iI (fun hc43=> ?_) (fun hc43=> ?_)
 exfalso;omega
 refine iI (fun hc44=> ?_) (fun hc44=> ?_)
 exfalso;omega
 refine iI (fun hc45=> ?_) (fun hc45=> ?_)
 exfalso;omega
 refine iI (fun hc46=> ?_) (fun hc46=> ?_)
 exfalso;omega
 refine iI (fun hc47=> ?_) (fun hc47=> ?_)
 exfalso;omega
 refine iI (fun hc48=> ?_) (fun hc48=> ?_)
 exfalso;omega
 refine iI (fun hc49=> ?_) (fun hc49=> ?_)
 exfalso;omega
 refine iI (fun hc50=> ?_) (fun hc50=> ?_)
 exfalso;omega
 refine iI (fun hc51=> ?_) (fun hc51=> ?_)
 exfalso;omega
 refine iI (fun hc52=> ?_) (fun hc52=> ?_)
 exfalso;omega
 refine iI (fun hc53=> ?_) (fun hc53=> ?_)
 exfalso;omega
 refine iI (fun hc54=> ?_) (fun hc54=> ?_)
 exfalso;omega
 refine jE ?_
 rfl
 refine iI (fun hc55=> ?_) (fun hc55=> ?_)
 refine iI (fun hc56=> ?_) (fun hc56=> ?_)
 exfalso;omega
 refine iI (fun hc57=> ?_) (fun hc57=> ?_)
 exfalso;omega
 refine iI (fun hc58=> ?_) (fun hc58=> ?_)
 exfalso;omega
 refine iI (fun hc59=> ?_) (fun hc59=> ?_)
 exfalso;omega
 refine iI (fun hc60=> ?_) (fun hc60=> ?_)
 exfalso;omega
 refine iI (fun hc61=> ?_) (fun hc61=> ?_)
 exfalso;omega
 refine iI (fun hc62=> ?_) (fun hc62=> ?_)
 exfalso;omega
 refine iI (fun hc63=> ?_) (fun hc63=> ?_)
 exfalso;omega
 refine iI (fun hc64=> ?_) (fun hc64=> ?_)
 exfalso;omega
 refine iI (fun hc65=> ?_) (fun hc65=> ?_)
 exfalso;omega
 refine iI (fun hc66=> ?_) (fun hc66=> ?_)
 exfalso;omega
 refine iI (fun hc67=> ?_) (fun hc67=> ?_)
 exfalso;omega
 refine jE ?_
 rfl
 refine iI (fun hc68=> ?_) (fun hc68=> ?_)
 refine iI (fun hc69=> ?_) (fun hc69=> ?_)
 exfalso;omega
 refine iI (fun hc70=> ?_) (fun hc70=> ?_)
 exfalso;omega
 refine iI (fun hc71=> ?_) (fun hc71=> ?_)
 exfalso;omega
 refine iI (fun hc72=> ?_) (fun hc72=> ?_)
 exfalso;omega
 refine iI (fun hc73=> ?_) (fun hc73=> ?_)
 exfalso;omega
 refine iI (fun hc74=> ?_) (fun hc74=> ?_)
 exfalso;omega
 refine iI (fun hc75=> ?_) (fun hc75=> ?_)
 exfalso;omega
 refine iI (fun hc76=> ?_) (fun hc76=> ?_)
 exfalso;omega
 refine iI (fun hc77=> ?_) (fun hc77=> ?_)
 exfalso;omega
 refine iI (fun hc78=> ?_) (fun hc78=> ?_)
 exfalso;omega
 refine iI (fun hc79=> ?_) (fun hc79=> ?_)
 exfalso;omega
 refine iI (fun hc80=> ?_) (fun hc80=> ?_)
 exfalso;omega
 refine jE ?_
 rfl
 refine iI (fun hc81=> ?_) (fun hc81=> ?_)
 refine iI (fun hc82=> ?_) (fun hc82=> ?_)
 exfalso;omega
 refine iI (fun hc83=> ?_) (fun hc83=> ?_)
 exfalso;omega
 refine iI (fun hc84=> ?_) (fun hc84=> ?_)
 exfalso;omega
 refine iI (fun hc85=> ?_) (fun hc85=> ?_)
 exfalso;omega
 refine iI (fun hc86=> ?_) (fun hc86=> ?_)
 exfalso;omega
 refine iI (fun hc87=> ?_) (fun hc87=> ?_)
 exfalso;omega
 refine iI (fun hc88=> ?_) (fun hc88=> ?_)
 exfalso;omega
 refine iI (fun hc89=> ?_) (fun hc89=> ?_)
 exfalso;omega
 refine iI (fun hc90=> ?_) (fun hc90=> ?_)
 exfalso;omega
 refine iI (fun hc91=> ?_) (fun hc91=> ?_)
 exfalso;omega
 refine iI (fun hc92=> ?_) (fun hc92=> ?_)
 exfalso;omega
 refine iI (fun hc93=> ?_) (fun hc93=> ?_)
 exfalso;omega
 refine jE ?_
 rfl
 refine iI (fun hc94=> ?_) (fun hc94=> ?_)
 refine iI (fun hc95=> ?_) (fun hc95=> ?_)
 exfalso;omega
 refine iI (fun hc96=> ?_) (fun hc96=> ?_)
 exfalso;omega
 refine iI (fun hc97=> ?_) (fun hc97=> ?_)
 exfalso;omega
 refine iI (fun hc98=> ?_) (fun hc98=> ?_)
 exfalso;omega
 refine iI (fun hc99=> ?_) (fun hc99=> ?_)
 exfalso;omega
 refine iI (fun hc100=> ?_) (fun hc100=> ?_)
 exfalso;omega
 refine iI (fun hc101=> ?_) (fun hc101=> ?_)
 exfalso;omega
 refine iI (fun hc102=> ?_) (fun hc102=> ?_)
 exfalso;omega
 refine iI (fun hc103=> ?_) (fun hc103=> ?_)
 exfalso;omega
 refine iI (fun hc104=> ?_) (fun hc104=> ?_)
 exfalso;omega
 refine iI (fun hc105=> ?_) (fun hc105=> ?_)
 exfalso;omega
 refine iI (fun hc106=> ?_) (fun hc106=> ?_)
 exfalso;omega
 refine jE ?_
 rfl
 refine iI (fun hc107=> ?_) (fun hc107=> ?_)
 refine iI (fun hc108=> ?_) (fun hc108=> ?_)
 exfalso;omega
 refine iI (fun hc109=> ?_) (fun hc109=> ?_)
 exfalso;omega
 refine iI (fun hc110=> ?_) (fun hc110=> ?_)
 exfalso;omega
 refine iI (fun hc111=> ?_) (fun hc111=> ?_)
 exfalso;omega
 refine iI (fun hc112=> ?_) (fun hc112=> ?_)
 exfalso;omega
 refine iI (fun hc113=> ?_) (fun hc113=> ?_)
 exfalso;omega
 refine iI (fun hc114=> ?_) (fun hc114=> ?_)
 exfalso;omega
 refine iI (fun hc115=> ?_) (fun hc115=> ?_)
 exfalso;omega
 refine iI (fun hc116=> ?_) (fun hc116=> ?_)
 exfalso;omega
 refine iI (fun hc117=> ?_) (fun hc117=> ?_)
 exfalso;omega
 refine iI (fun hc118=> ?_) (fun hc118=> ?_)
 exfalso;omega
 refine iI (fun hc119=> ?_) (fun hc119=> ?_)
 exfalso;omega
 refine jE ?_
 rfl
 refine iI (fun hc120=> ?_) (fun hc120=> ?_)
 refine iI (fun hc121=> ?_) (fun hc121=> ?_)
 exfalso;omega
 refine iI (fun hc122=> ?_) (fun hc122=> ?_)
 exfalso;omega
 refine iI (fun hc123=> ?_) (fun hc123=> ?_)
 exfalso;omega
 refine iI (fun hc124=> ?_) (fun hc124=> ?_)
 exfalso;omega
 refine iI (fun hc125=> ?_) (fun hc125=> ?_)
 exfalso;omega
 refine iI (fun hc126=> ?_) (fun hc126=> ?_)
 exfalso;omega
 refine iI (fun hc127=> ?_) (fun hc127=> ?_)
 exfalso;omega
 refine iI (fun hc128=> ?_) (fun hc128=> ?_)
 exfalso;omega
 refine iI (fun hc129=> ?_) (fun hc129=> ?_)
 exfalso;omega
 refine iI (fun hc130=> ?_) (fun hc130=> ?_)
 exfalso;omega
 refine iI (fun hc131=> ?_) (fun hc131=> ?_)
 exfalso;omega
 refine iI (fun hc132=> ?_) (fun hc132=> ?_)
 exfalso;omega
 refine jE ?_
 rfl
 refine iI (fun hc133=> ?_) (fun hc133=> ?_)
 refine iI (fun hc134=> ?_) (fun hc134=> ?_)
 exfalso;omega
 refine iI (fun hc135=> ?_) (fun hc135=> ?_)
 exfalso;omega
 refine iI (fun hc136=> ?_) (fun hc136=> ?_)
 exfalso;omega
 refine iI (fun hc137=> ?_) (fun hc137=> ?_)
 exfalso;omega
 refine iI (fun hc138=> ?_) (fun hc138=> ?_)
 exfalso;omega
 refine iI (fun hc139=> ?_) (fun hc139=> ?_)
 exfalso;omega
 refine iI (fun hc140=> ?_) (fun hc140=> ?_)
 exfalso;omega
 refine iI (fun hc141=> ?_) (fun hc141=> ?_)
 exfalso;omega
 refine iI (fun hc142=> ?_) (fun hc142=> ?_)
 exfalso;omega
 refine iI (fun hc143=> ?_) (fun hc143=> ?_)
 exfalso;omega
 refine iI (fun hc144=> ?_) (fun hc144=> ?_)
 exfalso;omega
 refine iI (fun hc145=> ?_) (fun hc145=> ?_)
 exfalso;omega
 refine jE ?_
 rfl
 refine iI (fun hc146=> ?_) (fun hc146=> ?_)
 refine iI (fun hc147=> ?_) (fun hc147=> ?_)
 exfalso;omega
 refine iI (fun hc148=> ?_) (fun hc148=> ?_)
 exfalso;omega
 refine iI (fun hc149=> ?_) (fun hc149=> ?_)
 exfalso;omega
 refine iI (fun hc150=> ?_) (fun hc150=> ?_)
 exfalso;omega
 refine iI (fun hc151=> ?_) (fun hc151=> ?_)
 exfalso;omega
 refine iI (fun hc152=> ?_) (fun hc152=> ?_)
 exfalso;omega
 refine iI (fun hc153=> ?_) (fun hc153=> ?_)
 exfalso;omega
 refine iI (fun hc154=> ?_) (fun hc154=> ?_)
 exfalso;omega
 refine iI (fun hc155=> ?_) (fun hc155=> ?_)
 exfalso;omega
 refine iI (fun hc156=> ?_) (fun hc156=> ?_)
 exfalso;omega
 refine iI (fun hc157=> ?_) (fun hc157=> ?_)
 exfalso;omega
 refine iI (fun hc158=> ?_) (fun hc158=> ?_)
 exfalso;omega
 refine jE ?_
 rfl
 refine jE ?_
 rfl
noncomputable def qJ:=bt tf 0 (bJ mZ (dr jU wV)) 51 [(0,20)]
theorem rZ:aV Tryz.prog qJ:=aR (cY (f:=51) (k:=0) (bj tV) EC (by rfl) (by rfl) KN) tV
def Jr:XF:=.mk 50 (.one 2) (.aft (.seq (g_ 2 [e_ 0 1 (.box 54 (.t 0)),p_ 1 2 (.mv (.c (.bool false)))]) (.pre [.fixo 0 0 0 12] (.seq (.seq (h_ 11 [p_ 0 5 (f_ 0 1),r_ 1 6 (l_ 5),c_ 2 7 62 [.t 6],p_ 3 8 (.bin 5 0 (.t 7) (.c (.str []))),p_ 4 9 (m_ 8),aT 5 10 9 false (.ld true 9 (.t 1)),aT 6 11 9 false (.ld true 9 (.t 1)),fX 7 12 9 false 67 [.t 11],ag_ 5 10 9 false (.ld true 9 (.t 1)),fX 8 13 9 false 43 [.t 10,.t 12],aj 9 14 9 false (.un 0 (.t 13)),p_ 10 15 (.pick (.t 9) (.c (.bool true)) (.t 14))]) (.cond (.t 15) (.seq (g_ 1 [p_ 0 2 (.mv (.c (.bool false)))]) .ret) .skip)) (.seq (.seq (g_ 3 [c_ 0 16 63 [.t 1],p_ 1 17 (k_ 16),p_ 2 18 (.mv (i_ 0))]) (.block 2 (.loop [1,2,4,16,17,18,19,20,21,22,23,24,25,26,27,28,29,30,31,32,33,34,35,36,37,38,39,40,41,42,43,44,45,46,47,48,49] (.seq (g_ 1 [p_ 0 19 (.bin 3 0 (.t 18) (.t 17))]) (.seq (.cond (.t 19) .skip (.exit 2)) (.seq (.block 3 (.seq (g_ 3 [p_ 0 20 (.ixs 1 (.t 16) (.t 18)),r_ 1 21 (l_ 20),p_ 2 4 (m_ 21)]) (.seq (g_ 5 [p_ 0 22 (m_ 4),p_ 1 23 (n_ 22),r_ 2 24 (l_ 23),c_ 3 25 36 [.t 24],p_ 4 26 (.un 0 (.t 25))]) (.cond (.t 26) (.seq (g_ 1 [p_ 0 2 (.mv (.c (.bool false)))]) .ret) .skip)))) (g_ 2 [p_ 0 27 (.bin 0 0 (.t 18) (i_ 1)),p_ 1 18 (m_ 27)]))))))) (.seq (.seq (g_ 3 [p_ 0 28 (f_ 0 1),r_ 1 29 (l_ 28),p_ 2 30 (.bin 3 5 (.t 29) (i_ 0))]) (.cond (.t 30) (.seq (g_ 1 [p_ 0 2 (.mv (.c (.bool true)))]) .ret) .skip)) (.seq (h_ 20 [p_ 0 31 (f_ 8 1),r_ 1 32 (l_ 31),c_ 2 33 68 [.t 32],p_ 3 34 (m_ 33),aj 4 35 34 true (f_ 8 1),aT 5 36 34 true (l_ 35),aj 6 37 34 true (.ixs 5 (.t 36) (i_ 0)),aj 7 38 34 true (f_ 0 37),aT 8 39 34 true (l_ 38),aj 9 40 34 true (f_ 7 1),aT 10 41 34 true (l_ 40),aj 11 42 34 true (.bin 3 4 (.t 39) (.t 41)),p_ 12 43 (.pick (.t 34) (.t 42) (.c (.bool false))),p_ 13 44 (m_ 43),aj 14 45 44 true (f_ 8 1),aT 15 46 44 true (l_ 45),fX 16 47 44 true 69 [.t 46,.f 70],aj 17 48 44 true (.un 0 (.t 47)),p_ 18 49 (.pick (.t 44) (.t 48) (.c (.bool false))),p_ 19 2 (m_ 49)]) .ret)))))) [(0,[.up 2]),(1,[.up 2])])
theorem Lg:bE Tryz.prog 40 Jr=true:=by kernel_rfl
structure lc where
 o:ax
structure EY where
 q:Prop
def jm (p:lc) (r:EY):Prop:=r.q↔cn p.o
noncomputable def nQ (p:lc):IE:=([.agg [.sy (.int 0 p.o.kind),.sy (.int 0 p.o.x),.sy (.int 0 p.o.y),.sy (.int 0 p.o.i),.sy (.int 0 p.o.at_),.sy (.int 0 p.o.mode),.sy (.int 3 p.o.mask),.sy (.int 1 p.o.grp),.sy (.imm p.o.hp 5 aB p.o.ps encP)]],.leaf,0)
noncomputable def xb (p:lc) (K:KE):Bool:=am fun r:EY=>iP (jm p r) (K (.sy (.bool r.q)) .leaf 0) true
def ia (p:lc):Prop:=p.o.ps.length≤1000000
theorem ae {p:lc} {K:KE} (hK:xb p K=true) (r:EY) (h:jm p r:=by dsimp only[jm]<;>((first|rw[GR (by assumption)]|rw[Ob (by assumption)]|rw[Oa (by assumption)]|rw[NZ (by assumption)]|rw[NY (by assumption)]|rw[NX (by assumption)]|rw[NW (by assumption)]|rw[NV (by assumption)]|rw[NU (by assumption)]|rw[NT (by assumption)]|rw[HX (by assumption)]|rw[HW (by assumption)]|rw[iff_false_intro (HV (by omega))]);first|(simp_all;done)|(simp_all;omega)|((try unfold fV);simp_all;done)|((try unfold fV);simp_all;omega)|((try unfold fV);constructor<;>intro h<;>simp_all<;>omega)|(constructor<;>intro h<;>simp_all<;>omega)|omega)):K (.sy (.bool r.q)) .leaf 0=true:=au h (aG hK r)
theorem RL (p:lc) (K:KE) (hpre:ia p) (hK:xb p K=true):(bW 0 (di qJ) cL 600 Jr (nQ p).1 (nQ p).2.1 (nQ p).2.2 K)=true:=by
 refine Eq.trans (b:=(let z0:Bool:=(K (.sy (.bool (false=true))) .leaf 0);let z1:Bool:=(K (.sy (.bool (true=true))) .leaf 0);iP (p.o.kind=0) (ac (qL [qI 0 p.o.x,qI 0 p.o.y,qI 0 p.o.i,qI 0 p.o.at_,qI 0 p.o.mode,qI 3 p.o.mask,qI 1 p.o.grp,qY ((.imm p.o.hp 5 aB p.o.ps encP))]) (iP (p.o.x=p.o.x) (iP (p.o.y=(0:Int)) (iP (p.o.i=(0:Int)) (iP (p.o.at_=(0:Int)) (iP (p.o.mode=p.o.mode) (iP (p.o.mask=(0:Int)) (iP (p.o.grp=p.o.grp) (aM (([.sy (.imm p.o.hp 5 aB p.o.ps encP),.sy (.imm p.o.hp 5 aB p.o.ps encP)],.leaf,0)) nR jj ib fun p13 r12=>iP (¬r12.q) z0 (iP ((0:Int)≤p.o.x) (iP (¬(p.o.x≤(1099511627776:Int))) z0 (iP ((0:Int)≤p.o.mode) (iP (¬(p.o.mode≤(1099511627776:Int))) z0 (iP ((p.o.ps.length:Int)<(1:Int)) z0 (iP ((4:Int)<(p.o.ps.length:Int)) z0 (aM (([.sy (.imm p.o.hp 5 aB p.o.ps encP),.fn 94 []],.leaf,0)) uy oC nz fun p14 r13=>iP (¬((0:Int)≤r13.z)) (mP (0≤(0:Int)∧(0:Int)<(p.o.ps.length:Int)) (am fun x1:aB=>iP (p.o.ps[0]?=some x1) (iP (x1.g=p.o.grp) (aM (([.sy (.imm p.o.hp 5 aB p.o.ps encP),.fn 70 []],.leaf,0)) uz oD nA fun p15 r14=>K (.sy (.bool (¬((0:Int)≤r14.z)))) .leaf 0) z0) true)) z0)))) z0)) z0)) z0) z0) z0) z0) z0) z0) z0)) (iP (p.o.kind=1) (ac (qL [qI 0 p.o.x,qI 0 p.o.y,qI 0 p.o.i,qI 0 p.o.at_,qI 0 p.o.mode,qI 3 p.o.mask,qI 1 p.o.grp,qY ((.imm p.o.hp 5 aB p.o.ps encP))]) (iP (p.o.x=p.o.x) (iP (p.o.y=p.o.y) (iP (p.o.i=(0:Int)) (iP (p.o.at_=(0:Int)) (iP (p.o.mode=(0:Int)) (iP (p.o.mask=(0:Int)) (iP (p.o.grp=(0:Int)) (aF fun p12:bQ=>mP (([.sy (.imm p.o.hp 5 aB p.o.ps encP),.nilS],.leaf,0)=dK p12) (am fun r11:dZ=>iP (bC p12 r11) (iP (¬r11.q) z0 (iP ((0:Int)≤p.o.x) (iP (¬(p.o.x≤(1099511627776:Int))) z0 (iP ((0:Int)≤p.o.y) (iP (¬(p.o.y≤(1099511627776:Int))) z0 z1) z0)) z0)) true)) z0) z0) z0) z0) z0) z0) z0)) (iP (p.o.kind=2) (ac (qL [qI 0 p.o.x,qI 0 p.o.y,qI 0 p.o.i,qI 0 p.o.at_,qI 0 p.o.mode,qI 3 p.o.mask,qI 1 p.o.grp,qY ((.imm p.o.hp 5 aB p.o.ps encP))]) (iP (p.o.x=(0:Int)) (iP (p.o.y=(0:Int)) (iP (p.o.i=p.o.i) (iP (p.o.at_=(0:Int)) (iP (p.o.mode=(0:Int)) (iP (p.o.mask=(0:Int)) (iP (p.o.grp=(0:Int)) (aF fun p11:bQ=>mP (([.sy (.imm p.o.hp 5 aB p.o.ps encP),.nilS],.leaf,0)=dK p11) (am fun r10:dZ=>iP (bC p11 r10) (iP (¬r10.q) z0 (iP ((0:Int)≤p.o.i) (iP (¬(p.o.i≤(1099511627776:Int))) z0 z1) z0)) true)) z0) z0) z0) z0) z0) z0) z0)) (iP (p.o.kind=3) (ac (qL [qI 0 p.o.x,qI 0 p.o.y,qI 0 p.o.i,qI 0 p.o.at_,qI 0 p.o.mode,qI 3 p.o.mask,qI 1 p.o.grp,qY ((.imm p.o.hp 5 aB p.o.ps encP))]) (iP (p.o.x=(0:Int)) (iP (p.o.y=(0:Int)) (iP (p.o.i=p.o.i) (iP (p.o.at_=(0:Int)) (iP (p.o.mode=(0:Int)) (iP (p.o.mask=(0:Int)) (iP (p.o.grp=(0:Int)) (aF fun p10:bQ=>mP (([.sy (.imm p.o.hp 5 aB p.o.ps encP),.nilS],.leaf,0)=dK p10) (am fun r9:dZ=>iP (bC p10 r9) (iP (¬r9.q) z0 (iP ((0:Int)≤p.o.i) (iP (¬(p.o.i≤(1099511627776:Int))) z0 z1) z0)) true)) z0) z0) z0) z0) z0) z0) z0)) (iP (p.o.kind=4) (ac (qL [qI 0 p.o.x,qI 0 p.o.y,qI 0 p.o.i,qI 0 p.o.at_,qI 0 p.o.mode,qI 3 p.o.mask,qI 1 p.o.grp,qY ((.imm p.o.hp 5 aB p.o.ps encP))]) (iP (p.o.x=(0:Int)) (iP (p.o.y=(0:Int)) (iP (p.o.i=p.o.i) (iP (p.o.at_=(0:Int)) (iP (p.o.mode=(0:Int)) (iP (p.o.mask=(0:Int)) (iP (p.o.grp=(0:Int)) (aF fun p9:bQ=>mP (([.sy (.imm p.o.hp 5 aB p.o.ps encP),.nilS],.leaf,0)=dK p9) (am fun r8:dZ=>iP (bC p9 r8) (iP (¬r8.q) z0 (iP ((0:Int)≤p.o.i) (iP (¬(p.o.i≤(1099511627776:Int))) z0 z1) z0)) true)) z0) z0) z0) z0) z0) z0) z0)) (iP (p.o.kind=5) (ac (qL [qI 0 p.o.x,qI 0 p.o.y,qI 0 p.o.i,qI 0 p.o.at_,qI 0 p.o.mode,qI 3 p.o.mask,qI 1 p.o.grp,qY ((.imm p.o.hp 5 aB p.o.ps encP))]) (iP (p.o.x=(0:Int)) (iP (p.o.y=(0:Int)) (iP (p.o.i=p.o.i) (iP (p.o.at_=p.o.at_) (iP (p.o.mode=(0:Int)) (iP (p.o.mask=p.o.mask) (iP (p.o.grp=(0:Int)) (aF fun p8:bQ=>mP (([.sy (.imm p.o.hp 5 aB p.o.ps encP),.nilS],.leaf,0)=dK p8) (am fun r7:dZ=>iP (bC p8 r7) (iP (¬r7.q) z0 (iP ((0:Int)≤p.o.i) (iP (¬(p.o.i≤(1099511627776:Int))) z0 (iP ((0:Int)≤p.o.at_) (iP (¬(p.o.at_≤(1099511627776:Int))) z0 z1) z0)) z0)) true)) z0) z0) z0) z0) z0) z0) z0)) (iP (p.o.kind=6) (ac (qL [qI 0 p.o.x,qI 0 p.o.y,qI 0 p.o.i,qI 0 p.o.at_,qI 0 p.o.mode,qI 3 p.o.mask,qI 1 p.o.grp,qY ((.imm p.o.hp 5 aB p.o.ps encP))]) (iP (p.o.x=p.o.x) (iP (p.o.y=(0:Int)) (iP (p.o.i=(0:Int)) (iP (p.o.at_=(0:Int)) (iP (p.o.mode=(0:Int)) (iP (p.o.mask=(0:Int)) (iP (p.o.grp=(0:Int)) (aF fun p7:bQ=>mP (([.sy (.imm p.o.hp 5 aB p.o.ps encP),.nilS],.leaf,0)=dK p7) (am fun r6:dZ=>iP (bC p7 r6) (iP (¬r6.q) z0 (iP ((0:Int)≤p.o.x) (iP (¬(p.o.x≤(1099511627776:Int))) z0 z1) z0)) true)) z0) z0) z0) z0) z0) z0) z0)) (iP (p.o.kind=7) (ac (qL [qI 0 p.o.x,qI 0 p.o.y,qI 0 p.o.i,qI 0 p.o.at_,qI 0 p.o.mode,qI 3 p.o.mask,qI 1 p.o.grp,qY ((.imm p.o.hp 5 aB p.o.ps encP))]) (iP (p.o.x=p.o.x) (iP (p.o.y=p.o.y) (iP (p.o.i=(0:Int)) (iP (p.o.at_=(0:Int)) (iP (p.o.mode=(0:Int)) (iP (p.o.mask=(0:Int)) (iP (p.o.grp=(0:Int)) (aF fun p6:bQ=>mP (([.sy (.imm p.o.hp 5 aB p.o.ps encP),.nilS],.leaf,0)=dK p6) (am fun r5:dZ=>iP (bC p6 r5) (iP (¬r5.q) z0 (iP ((0:Int)≤p.o.x) (iP (¬(p.o.x≤(1099511627776:Int))) z0 (iP ((0:Int)≤p.o.y) (iP (¬(p.o.y≤(1099511627776:Int))) z0 z1) z0)) z0)) true)) z0) z0) z0) z0) z0) z0) z0)) (iP (p.o.kind=8) (ac (qL [qI 0 p.o.x,qI 0 p.o.y,qI 0 p.o.i,qI 0 p.o.at_,qI 0 p.o.mode,qI 3 p.o.mask,qI 1 p.o.grp,qY ((.imm p.o.hp 5 aB p.o.ps encP))]) (iP (p.o.x=p.o.x) (iP (p.o.y=(0:Int)) (iP (p.o.i=(0:Int)) (iP (p.o.at_=(0:Int)) (iP (p.o.mode=(0:Int)) (iP (p.o.mask=(0:Int)) (iP (p.o.grp=(0:Int)) (aF fun p5:bQ=>mP (([.sy (.imm p.o.hp 5 aB p.o.ps encP),.nilS],.leaf,0)=dK p5) (am fun r4:dZ=>iP (bC p5 r4) (iP (¬r4.q) z0 (iP ((0:Int)≤p.o.x) (iP (¬(p.o.x≤(1099511627776:Int))) z0 z1) z0)) true)) z0) z0) z0) z0) z0) z0) z0)) (iP (p.o.kind=9) (ac (qL [qI 0 p.o.x,qI 0 p.o.y,qI 0 p.o.i,qI 0 p.o.at_,qI 0 p.o.mode,qI 3 p.o.mask,qI 1 p.o.grp,qY ((.imm p.o.hp 5 aB p.o.ps encP))]) (iP (p.o.x=p.o.x) (iP (p.o.y=(0:Int)) (iP (p.o.i=(0:Int)) (iP (p.o.at_=(0:Int)) (iP (p.o.mode=(0:Int)) (iP (p.o.mask=(0:Int)) (iP (p.o.grp=(0:Int)) (aF fun p4:bQ=>mP (([.sy (.imm p.o.hp 5 aB p.o.ps encP),.nilS],.leaf,0)=dK p4) (am fun r3:dZ=>iP (bC p4 r3) (iP (¬r3.q) z0 (iP ((0:Int)≤p.o.x) (iP (¬(p.o.x≤(1099511627776:Int))) z0 z1) z0)) true)) z0) z0) z0) z0) z0) z0) z0)) (iP (p.o.kind=10) (ac (qL [qI 0 p.o.x,qI 0 p.o.y,qI 0 p.o.i,qI 0 p.o.at_,qI 0 p.o.mode,qI 3 p.o.mask,qI 1 p.o.grp,qY ((.imm p.o.hp 5 aB p.o.ps encP))]) (iP (p.o.x=p.o.x) (iP (p.o.y=(0:Int)) (iP (p.o.i=(0:Int)) (iP (p.o.at_=(0:Int)) (iP (p.o.mode=(0:Int)) (iP (p.o.mask=(0:Int)) (iP (p.o.grp=(0:Int)) (aF fun p3:bQ=>mP (([.sy (.imm p.o.hp 5 aB p.o.ps encP),.nilS],.leaf,0)=dK p3) (am fun r2:dZ=>iP (bC p3 r2) (iP (¬r2.q) z0 (iP ((0:Int)≤p.o.x) (iP (¬(p.o.x≤(1099511627776:Int))) z0 z1) z0)) true)) z0) z0) z0) z0) z0) z0) z0)) (iP (p.o.kind=11) (ac (qL [qI 0 p.o.x,qI 0 p.o.y,qI 0 p.o.i,qI 0 p.o.at_,qI 0 p.o.mode,qI 3 p.o.mask,qI 1 p.o.grp,qY ((.imm p.o.hp 5 aB p.o.ps encP))]) (iP (p.o.x=p.o.x) (iP (p.o.y=(0:Int)) (iP (p.o.i=(0:Int)) (iP (p.o.at_=(0:Int)) (iP (p.o.mode=(0:Int)) (iP (p.o.mask=(0:Int)) (iP (p.o.grp=(0:Int)) (aF fun p2:bQ=>mP (([.sy (.imm p.o.hp 5 aB p.o.ps encP),.nilS],.leaf,0)=dK p2) (am fun r1:dZ=>iP (bC p2 r1) (iP (¬r1.q) z0 (iP ((0:Int)≤p.o.x) (iP (¬(p.o.x≤(1099511627776:Int))) z0 z1) z0)) true)) z0) z0) z0) z0) z0) z0) z0)) (aF fun p1:mw=>mP (([.sy (.int 0 p.o.kind)],.leaf,0)=oQ p1) (mP (lm p1) z0))))))))))))))) (by kernel_rfl) ?_
 dsimp only[ia]at hpre
 refine iI (fun hc1=> ?_) (fun hc1=> ?_)
 refine aE (by simp[qL,qI,qS,qY,aC]) ?_
 refine iI (fun hc2=> ?_) (fun hc2=> ?_)
 refine iI (fun hc3=> ?_) (fun hc3=> ?_)
 refine iI (fun hc4=> ?_) (fun hc4=> ?_)
 refine iI (fun hc5=> ?_) (fun hc5=> ?_)
 refine iI (fun hc6=> ?_) (fun hc6=> ?_)
 refine iI (fun hc7=> ?_) (fun hc7=> ?_)
 refine iI (fun hc8=> ?_) (fun hc8=> ?_)
 refine ay (⟨p.o.hp,p.o.ps,p.o.hp,p.o.ps⟩:kH) rfl (by(try dsimp only[jj]);omega) fun r12 hi9=> ?_
 dsimp only[ib]at hi9
 refine iI (fun hc10=> ?_) (fun hc10=> ?_)
 exact ae hK ⟨false=true⟩
 refine iI (fun hc11=> ?_) (fun hc11=> ?_)
 refine iI (fun hc12=> ?_) (fun hc12=> ?_)
 exact ae hK ⟨false=true⟩
 refine iI (fun hc13=> ?_) (fun hc13=> ?_)
 refine iI (fun hc14=> ?_) (fun hc14=> ?_)
 exact ae hK ⟨false=true⟩
 refine iI (fun hc15=> ?_) (fun hc15=> ?_)
 exact ae hK ⟨false=true⟩
 refine iI (fun hc16=> ?_) (fun hc16=> ?_)
 exact ae hK ⟨false=true⟩
 refine ay (⟨p.o.hp,p.o.ps⟩:nW) rfl (by(try dsimp only[oC]);omega) fun r13 hi17=> ?_
 dsimp only[nz]at hi17
 refine iI (fun hc18=> ?_) (fun hc18=> ?_)
 refine mI (by first|omega|(constructor<;>omega)|(have e9:=(by assumption:_↔¬∀x∈_,bo x);omega)) ?_
 refine az (fun x1=> ?_)
 refine iI (fun hi19=> ?_) (fun _=>rfl)
 refine iI (fun hc20=> ?_) (fun hc20=> ?_)
 refine ay (⟨p.o.hp,p.o.ps⟩:nX) rfl (by(try dsimp only[oD]);omega) fun r14 hi21=> ?_
 dsimp only[nA]at hi21
 exact ae hK ⟨¬((0:Int)≤r14.z)⟩
 exact ae hK ⟨false=true⟩
 exact ae hK ⟨false=true⟩
 exact ae hK ⟨false=true⟩
 exact ae hK ⟨false=true⟩
 exact ae hK ⟨false=true⟩
 exact ae hK ⟨false=true⟩
 exact ae hK ⟨false=true⟩
 exact ae hK ⟨false=true⟩
 exact ae hK ⟨false=true⟩
 exact ae hK ⟨false=true⟩
 exact ae hK ⟨false=true⟩
 refine iI (fun hc22=> ?_) (fun hc22=> ?_)
 refine aE (by simp[qL,qI,qS,qY,aC]) ?_
 refine iI (fun hc23=> ?_) (fun hc23=> ?_)
 refine iI (fun hc24=> ?_) (fun hc24=> ?_)
 refine iI (fun hc25=> ?_) (fun hc25=> ?_)
 refine iI (fun hc26=> ?_) (fun hc26=> ?_)
 refine iI (fun hc27=> ?_) (fun hc27=> ?_)
 refine iI (fun hc28=> ?_) (fun hc28=> ?_)
 refine iI (fun hc29=> ?_) (fun hc29=> ?_)
 refine cU (⟨p.o.hp,p.o.ps⟩:bQ) rfl fun r11 hi30=> ?_
 dsimp only[bC]at hi30
 refine iI (fun hc31=> ?_) (fun hc31=> ?_)
 exact ae hK ⟨false=true⟩
 refine iI (fun hc32=> ?_) (fun hc32=> ?_)
 refine iI (fun hc33=> ?_) (fun hc33=> ?_)
 exact ae hK ⟨false=true⟩
 refine iI (fun hc34=> ?_) (fun hc34=> ?_)
 refine iI (fun hc35=> ?_) (fun hc35=> ?_)
 exact ae hK ⟨false=true⟩
 exact ae hK ⟨true=true⟩
 exact ae hK ⟨false=true⟩
 exact ae hK ⟨false=true⟩
 exact ae hK ⟨false=true⟩
 exact ae hK ⟨false=true⟩
 exact ae hK ⟨false=true⟩
 exact ae hK ⟨false=true⟩
 exact ae hK ⟨false=true⟩
 exact ae hK ⟨false=true⟩
 exact ae hK ⟨false=true⟩
 refine iI (fun hc36=> ?_) (fun hc36=> ?_)
 refine aE (by simp[qL,qI,qS,qY,aC]) ?_
 refine iI (fun hc37=> ?_) (fun hc37=> ?_)
 refine iI (fun hc38=> ?_) (fun hc38=> ?_)
 refine iI (fun hc39=> ?_) (fun hc39=> ?_)
 refine iI (fun hc40=> ?_) (fun hc40=> ?_)
 refine iI (fun hc41=> ?_) (fun hc41=> ?_)
 refine iI (fun hc42=> ?_) (fun hc42=> ?_)
 refine iI (fun hc43=> ?_) (fun hc43=> ?_)
 refine cU (⟨p.o.hp,p.o.ps⟩:bQ) rfl fun r10 hi44=> ?_
 dsimp only[bC]at hi44
 refine iI (fun hc45=> ?_) (fun hc45=> ?_)
 exact ae hK ⟨false=true⟩
 refine iI (fun hc46=> ?_) (fun hc46=> ?_)
 refine iI (fun hc47=> ?_) (fun hc47=> ?_)
 exact ae hK ⟨false=true⟩
 exact ae hK ⟨true=true⟩
 exact ae hK ⟨false=true⟩
 exact ae hK ⟨false=true⟩
 exact ae hK ⟨false=true⟩
 exact ae hK ⟨false=true⟩
 exact ae hK ⟨false=true⟩
 exact ae hK ⟨false=true⟩
 exact ae hK ⟨false=true⟩
 exact ae hK ⟨false=true⟩
 refine iI (fun hc48=> ?_) (fun hc48=> ?_)
 refine aE (by simp[qL,qI,qS,qY,aC]) ?_
 refine iI (fun hc49=> ?_) (fun hc49=> ?_)
 refine iI (fun hc50=> ?_) (fun hc50=> ?_)
 refine iI (fun hc51=> ?_) (fun hc51=> ?_)
 refine iI (fun hc52=> ?_) (fun hc52=> ?_)
 refine iI (fun hc53=> ?_) (fun hc53=> ?_)
 refine iI (fun hc54=> ?_) (fun hc54=> ?_)
 refine iI (fun hc55=> ?_) (fun hc55=> ?_)
 refine cU (⟨p.o.hp,p.o.ps⟩:bQ) rfl fun r9 hi56=> ?_
 dsimp only[bC]at hi56
 refine iI (fun hc57=> ?_) (fun hc57=> ?_)
 exact ae hK ⟨false=true⟩
 refine iI (fun hc58=> ?_) (fun hc58=> ?_)
 refine iI (fun hc59=> ?_) (fun hc59=> ?_)
 exact ae hK ⟨false=true⟩
 exact ae hK ⟨true=true⟩
 exact ae hK ⟨false=true⟩
 exact ae hK ⟨false=true⟩
 exact ae hK ⟨false=true⟩
 exact ae hK ⟨false=true⟩
 exact ae hK ⟨false=true⟩
 exact ae hK ⟨false=true⟩
 exact ae hK ⟨false=true⟩
 exact ae hK ⟨false=true⟩
 refine iI (fun hc60=> ?_) (fun hc60=> ?_)
 refine aE (by simp[qL,qI,qS,qY,aC]) ?_
 refine iI (fun hc61=> ?_) (fun hc61=> ?_)
 refine iI (fun hc62=> ?_) (fun hc62=> ?_)
 refine iI (fun hc63=> ?_) (fun hc63=> ?_)
 refine iI (fun hc64=> ?_) (fun hc64=> ?_)
 refine iI (fun hc65=> ?_) (fun hc65=> ?_)
 refine iI (fun hc66=> ?_) (fun hc66=> ?_)
 refine iI (fun hc67=> ?_) (fun hc67=> ?_)
 refine cU (⟨p.o.hp,p.o.ps⟩:bQ) rfl fun r8 hi68=> ?_
 dsimp only[bC]at hi68
 refine iI (fun hc69=> ?_) (fun hc69=> ?_)
 exact ae hK ⟨false=true⟩
 refine iI (fun hc70=> ?_) (fun hc70=> ?_)
 refine iI (fun hc71=> ?_) (fun hc71=> ?_)
 exact ae hK ⟨false=true⟩
 exact ae hK ⟨true=true⟩
 exact ae hK ⟨false=true⟩
 exact ae hK ⟨false=true⟩
 exact ae hK ⟨false=true⟩
 exact ae hK ⟨false=true⟩
 exact ae hK ⟨false=true⟩
 exact ae hK ⟨false=true⟩
 exact ae hK ⟨false=true⟩
 exact ae hK ⟨false=true⟩
 refine iI (fun hc72=> ?_) (fun hc72=> ?_)
 refine aE (by simp[qL,qI,qS,qY,aC]) ?_
 refine iI (fun hc73=> ?_) (fun hc73=> ?_)
 refine iI (fun hc74=> ?_) (fun hc74=> ?_)
 refine iI (fun hc75=> ?_) (fun hc75=> ?_)
 refine iI (fun hc76=> ?_) (fun hc76=> ?_)
 refine iI (fun hc77=> ?_) (fun hc77=> ?_)
 refine iI (fun hc78=> ?_) (fun hc78=> ?_)
 refine iI (fun hc79=> ?_) (fun hc79=> ?_)
 refine cU (⟨p.o.hp,p.o.ps⟩:bQ) rfl fun r7 hi80=> ?_
 dsimp only[bC]at hi80
 refine iI (fun hc81=> ?_) (fun hc81=> ?_)
 exact ae hK ⟨false=true⟩
 refine iI (fun hc82=> ?_) (fun hc82=> ?_)
 refine iI (fun hc83=> ?_) (fun hc83=> ?_)
 exact ae hK ⟨false=true⟩
 refine iI (fun hc84=> ?_) (fun hc84=> ?_)
 refine iI (fun hc85=> ?_) (fun hc85=> ?_)
 exact ae hK ⟨false=true⟩
 exact ae hK ⟨true=true⟩
 exact ae hK ⟨false=true⟩
 exact ae hK ⟨false=true⟩
 exact ae hK ⟨false=true⟩
 exact ae hK ⟨false=true⟩
 exact ae hK ⟨false=true⟩
 exact ae hK ⟨false=true⟩
 exact ae hK ⟨false=true⟩
 exact ae hK ⟨false=true⟩
 exact ae hK ⟨false=true⟩
 refine iI (fun hc86=> ?_) (fun hc86=> ?_)
 refine aE (by simp[qL,qI,qS,qY,aC]) ?_
 refine iI (fun hc87=> ?_) (fun hc87=> ?_)
 refine iI (fun hc88=> ?_) (fun hc88=> ?_)
 refine iI (fun hc89=> ?_) (fun hc89=> ?_)
 refine iI (fun hc90=> ?_) (fun hc90=> ?_)
 refine iI (fun hc91=> ?_) (fun hc91=> ?_)
 refine iI (fun hc92=> ?_) (fun hc92=> ?_)
 refine iI (fun hc93=> ?_) (fun hc93=> ?_)
 refine cU (⟨p.o.hp,p.o.ps⟩:bQ) rfl fun r6 hi94=> ?_
 dsimp only[bC]at hi94
 refine iI (fun hc95=> ?_) (fun hc95=> ?_)
 exact ae hK ⟨false=true⟩
 refine iI (fun hc96=> ?_) (fun hc96=> ?_)
 refine iI (fun hc97=> ?_) (fun hc97=> ?_)
 exact ae hK ⟨false=true⟩
 exact ae hK ⟨true=true⟩
 exact ae hK ⟨false=true⟩
 exact ae hK ⟨false=true⟩
 exact ae hK ⟨false=true⟩
 exact ae hK ⟨false=true⟩
 exact ae hK ⟨false=true⟩
 exact ae hK ⟨false=true⟩
 exact ae hK ⟨false=true⟩
 exact ae hK ⟨false=true⟩
 refine iI (fun hc98=> ?_) (fun hc98=> ?_)
 refine aE (by simp[qL,qI,qS,qY,aC]) ?_
 refine iI (fun hc99=> ?_) (fun hc99=> ?_)
 refine iI (fun hc100=> ?_) (fun hc100=> ?_)
 refine iI (fun hc101=> ?_) (fun hc101=> ?_)
 refine iI (fun hc102=> ?_) (fun hc102=> ?_)
 refine iI (fun hc103=> ?_) (fun hc103=> ?_)
 refine iI (fun hc104=> ?_) (fun hc104=> ?_)
 refine iI (fun hc105=> ?_) (fun hc105=> ?_)
 refine cU (⟨p.o.hp,p.o.ps⟩:bQ) rfl fun r5 hi106=> ?_
 dsimp only[bC]at hi106
 refine iI (fun hc107=> ?_) (fun hc107=> ?_)
 exact ae hK ⟨false=true⟩
 refine iI (fun hc108=> ?_) (fun hc108=> ?_)
 refine iI (fun hc109=> ?_) (fun hc109=> ?_)
 exact ae hK ⟨false=true⟩
 refine iI (fun hc110=> ?_) (fun hc110=> ?_)
 refine iI (fun hc111=> ?_) (fun hc111=> ?_)
 exact ae hK ⟨false=true⟩
 exact ae hK ⟨true=true⟩
 exact ae hK ⟨false=true⟩
 exact ae hK ⟨false=true⟩
 exact ae hK ⟨false=true⟩
 exact ae hK ⟨false=true⟩
 exact ae hK ⟨false=true⟩
 exact ae hK ⟨false=true⟩
 exact ae hK ⟨false=true⟩
 exact ae hK ⟨false=true⟩
 exact ae hK ⟨false=true⟩
 refine iI (fun hc112=> ?_) (fun hc112=> ?_)
 refine aE (by simp[qL,qI,qS,qY,aC]) ?_
 refine iI (fun hc113=> ?_) (fun hc113=> ?_)
 refine iI (fun hc114=> ?_) (fun hc114=> ?_)
 refine iI (fun hc115=> ?_) (fun hc115=> ?_)
 refine iI (fun hc116=> ?_) (fun hc116=> ?_)
 refine iI (fun hc117=> ?_) (fun hc117=> ?_)
 refine iI (fun hc118=> ?_) (fun hc118=> ?_)
 refine iI (fun hc119=> ?_) (fun hc119=> ?_)
 refine cU (⟨p.o.hp,p.o.ps⟩:bQ) rfl fun r4 hi120=> ?_
 dsimp only[bC]at hi120
 refine iI (fun hc121=> ?_) (fun hc121=> ?_)
 exact ae hK ⟨false=true⟩
 refine iI (fun hc122=> ?_) (fun hc122=> ?_)
 refine iI (fun hc123=> ?_) (fun hc123=> ?_)
 exact ae hK ⟨false=true⟩
 exact ae hK ⟨true=true⟩
 exact ae hK ⟨false=true⟩
 exact ae hK ⟨false=true⟩
 exact ae hK ⟨false=true⟩
 exact ae hK ⟨false=true⟩
 exact ae hK ⟨false=true⟩
 exact ae hK ⟨false=true⟩
 exact ae hK ⟨false=true⟩
 exact ae hK ⟨false=true⟩
 refine iI (fun hc124=> ?_) (fun hc124=> ?_)
 refine aE (by simp[qL,qI,qS,qY,aC]) ?_
 refine iI (fun hc125=> ?_) (fun hc125=> ?_)
 refine iI (fun hc126=> ?_) (fun hc126=> ?_)
 refine iI (fun hc127=> ?_) (fun hc127=> ?_)
 refine iI (fun hc128=> ?_) (fun hc128=> ?_)
 refine iI (fun hc129=> ?_) (fun hc129=> ?_)
 refine iI (fun hc130=> ?_) (fun hc130=> ?_)
 refine iI (fun hc131=> ?_) (fun hc131=> ?_)
 refine cU (⟨p.o.hp,p.o.ps⟩:bQ) rfl fun r3 hi132=> ?_
 dsimp only[bC]at hi132
 refine iI (fun hc133=> ?_) (fun hc133=> ?_)
 exact ae hK ⟨false=true⟩
 refine iI (fun hc134=> ?_) (fun hc134=> ?_)
 refine iI (fun hc135=> ?_) (fun hc135=> ?_)
 exact ae hK ⟨false=true⟩
 exact ae hK ⟨true=true⟩
 exact ae hK ⟨false=true⟩
 exact ae hK ⟨false=true⟩
 exact ae hK ⟨false=true⟩
 exact ae hK ⟨false=true⟩
 exact ae hK ⟨false=true⟩
 exact ae hK ⟨false=true⟩
 exact ae hK ⟨false=true⟩
 exact ae hK ⟨false=true⟩
 refine iI (fun hc136=> ?_) (fun hc136=> ?_)
 refine aE (by simp[qL,qI,qS,qY,aC]) ?_
 refine iI (fun hc137=> ?_) (fun hc137=> ?_)
 refine iI (fun hc138=> ?_) (fun hc138=> ?_)
 refine iI (fun hc139=> ?_) (fun hc139=> ?_)
 refine iI (fun hc140=> ?_) (fun hc140=> ?_)
 refine iI (fun hc141=> ?_) (fun hc141=> ?_)
 refine iI (fun hc142=> ?_) (fun hc142=> ?_)
 refine iI (fun hc143=> ?_) (fun hc143=> ?_)
 refine cU (⟨p.o.hp,p.o.ps⟩:bQ) rfl fun r2 hi144=> ?_
 dsimp only[bC]at hi144
 refine iI (fun hc145=> ?_) (fun hc145=> ?_)
 exact ae hK ⟨false=true⟩
 refine iI (fun hc146=> ?_) (fun hc146=> ?_)
 refine iI (fun hc147=> ?_) (fun hc147=> ?_)
 exact ae hK ⟨false=true⟩
 exact ae hK ⟨true=true⟩
 exact ae hK ⟨false=true⟩
 exact ae hK ⟨false=true⟩
 exact ae hK ⟨false=true⟩
 exact ae hK ⟨false=true⟩
 exact ae hK ⟨false=true⟩
 exact ae hK ⟨false=true⟩
 exact ae hK ⟨false=true⟩
 exact ae hK ⟨false=true⟩
 refine iI (fun hc148=> ?_) (fun hc148=> ?_)
 refine aE (by simp[qL,qI,qS,qY,aC]) ?_
 refine iI (fun hc149=> ?_) (fun hc149=> ?_)
 refine iI (fun hc150=> ?_) (fun hc150=> ?_)
 refine iI (fun hc151=> ?_) (fun hc151=> ?_)
 refine iI (fun hc152=> ?_) (fun hc152=> ?_)
 refine iI (fun hc153=> ?_) (fun hc153=> ?_)
 refine iI (fun hc154=> ?_) (fun hc154=> ?_)
 refine iI (fun hc155=> ?_) (fun hc155=> ?_)
 refine cU (⟨p.o.hp,p.o.ps⟩:bQ) rfl fun r1 hi156=> ?_
 dsimp only[bC]at hi156
 refine iI (fun hc157=> ?_) (fun hc157=> ?_)
 exact ae hK ⟨false=true⟩
 refine iI (fun hc158=> ?_) (fun hc158=> ?_)
 refine iI (fun hc159=> ?_) (fun hc159=> ?_)
 exact ae hK ⟨false=true⟩
 exact ae hK ⟨true=true⟩
 exact ae hK ⟨false=true⟩
 exact ae hK ⟨false=true⟩
 exact ae hK ⟨false=true⟩
 exact ae hK ⟨false=true⟩
 exact ae hK ⟨false=true⟩
 exact ae hK ⟨false=true⟩
 exact ae hK ⟨false=true⟩
 exact ae hK ⟨false=true⟩
 refine dx (⟨p.o.kind⟩:mw) rfl (by(try dsimp only[lm]);omega) ?_
 exact ae hK ⟨false=true⟩
noncomputable def sd:=bt qJ 0 (bJ nQ (dr ia xb)) 40 [(0,15)]
theorem qN:aV Tryz.prog sd:=aR (cY (f:=40) (k:=0) (bj rZ) Lg (by rfl) (by rfl) RL) rZ
def iK (g:aw):Prop:=(0≤g.f∧g.f≤1099511627776)∧(0≤g.s∧g.s≤1099511627776)
def cB (s:bN):Prop:=(1≤s.gs.length∧s.gs.length≤4)∧(∀g∈s.gs,iK g)∧(0≤s.clients∧s.clients≤1099511627776)∧(0≤s.window∧s.window≤1099511627776)∧(0≤s.deadline∧s.deadline≤1099511627776)∧(0≤s.pace∧s.pace≤1099511627776)∧(0≤s.again∧s.again≤1099511627776)∧(0≤s.bag∧s.bag≤1099511627776)∧∀o∈s.os,cn o
def gV (z:Int):Prop:= -9223372036854775808≤z∧z≤9223372036854775807
def HC (g:aw):Prop:=gV g.f∧gV g.s
def pd (o:ax):Prop:=(gV o.kind∧gV o.x∧gV o.y∧gV o.i∧gV o.at_∧gV o.mode)∧(0≤o.mask∧o.mask≤4294967295)∧(0≤o.grp∧o.grp≤255)∧∀x∈o.ps,lV x
def lU (s:bN):Prop:=(∀g∈s.gs,HC g)∧(gV s.clients∧gV s.window∧gV s.deadline∧gV s.pace∧gV s.again∧gV s.bag)∧(0≤s.first∧s.first≤18446744073709551615)∧∀o∈s.os,pd o
def BM:XC:=(.aft (.seq (.seq (g_ 5 [p_ 0 60 (m_ 8),p_ 1 61 (f_ 8 1),r_ 2 62 (l_ 61),p_ 3 63 (k_ 62),p_ 4 64 (.bin 3 0 (.t 60) (.t 63))]) (.cond (.t 64) .skip (.exit 4))) (.seq (.block 5 (.seq (g_ 7 [p_ 0 67 (f_ 8 1),r_ 1 68 (l_ 67),p_ 2 69 (m_ 8),p_ 3 70 (.ixs 5 (.t 68) (.t 69)),r_ 4 71 (.ld true 5 (.t 70)),c_ 5 72 84 [.t 71],p_ 6 73 (.un 0 (.t 72))]) (.cond (.t 73) (.seq (g_ 1 [p_ 0 2 (.mv (.c (.bool false)))]) .ret) .skip))) (g_ 3 [p_ 0 65 (m_ 8),p_ 1 66 (.bin 0 0 (.t 65) (i_ 1)),p_ 2 8 (m_ 66)]))) [(0,[.can 0 [1,5,8]]),(1,[.can 0 [2]]),(4,[.can 0 [1,5]])])
def QV:XF:=.mk 83 (.one 2) (.aft (.seq (g_ 2 [e_ 0 1 (.box 79 (.t 0)),p_ 1 2 (.mv (.c (.bool false)))]) (.pre [.fixo 0 0 0 12] (.seq (g_ 8 [p_ 0 10 (f_ 0 1),r_ 1 11 (l_ 10),c_ 2 12 51 [.t 11],p_ 3 9 (m_ 12),p_ 4 13 (.ext 0 (.t 9)),p_ 5 14 (.ext 1 (.t 9)),p_ 6 3 (m_ 13),p_ 7 4 (m_ 14)]) (.seq (.seq (g_ 2 [p_ 0 15 (m_ 3),p_ 1 16 (.bin 5 0 (.t 15) (.c (.str [])))]) (.cond (.t 16) (.seq (g_ 1 [p_ 0 2 (.mv (.c (.bool false)))]) .ret) .skip)) (.seq (g_ 5 [p_ 0 17 (f_ 0 1),r_ 1 18 (l_ 17),p_ 2 19 (.bld [.int 0 (.ofNat 0),.int 0 (.ofNat 0),.int 0 (.ofNat 0),.int 0 (.ofNat 0),.int 0 (.ofNat 0),.int 0 (.ofNat 0),.int 3 (.ofNat 0),.int 1 (.ofNat 0),.nilS] [(0,1)] [.t 18]),e_ 3 5 (.al 79 [.int 0 (.ofNat 0),.int 0 (.ofNat 0),.int 0 (.ofNat 0),.int 0 (.ofNat 0),.int 0 (.ofNat 0),.int 0 (.ofNat 0),.int 3 (.ofNat 0),.int 1 (.ofNat 0),.nilS]),bl 4 (.st 9 (.t 5) (.t 19))]) (.seq (.seq (g_ 1 [p_ 0 6 (.mv (i_ 0))]) (.block 2 (.loop [1,2,4,5,6,7,8,20,21,22,23,24,25,26,27,28,29,30,31,32,33,34,35,36,37,38,39,40,41,42,43,44,45,46,47,48,49,50,51,52,53,54,55,56,57,58,59,60,61,62,63,64,65,66,67,68,69,70,71,72,73,74,75,76,77,78,79,80,81,82] (.seq (.seq (g_ 4 [p_ 0 20 (m_ 6),p_ 1 21 (m_ 4),p_ 2 22 (.len 0 (.t 21)),p_ 3 23 (.bin 3 0 (.t 20) (.t 22))]) (.cond (.t 23) .skip (.exit 2))) (.seq (.block 3 (.seq (h_ 6 [r_ 0 26 (.ld true 9 (.t 1)),p_ 1 27 (m_ 4),p_ 2 28 (m_ 6),p_ 3 29 (.six (.t 27) (.t 28)),c_ 4 30 85 [.t 26,.t 29],p_ 5 7 (m_ 30)]) (.seq (.seq (g_ 6 [p_ 0 31 (m_ 7),p_ 1 32 (.bin 3 0 (.t 31) (i_ 0)),p_ 2 33 (m_ 32),aj 3 34 33 false (m_ 7),aj 4 35 33 false (.bin 3 2 (.t 34) (i_ 1099511627776)),p_ 5 36 (.pick (.t 33) (.c (.bool true)) (.t 35))]) (.cond (.t 36) (.seq (g_ 1 [p_ 0 2 (.mv (.c (.bool false)))]) .ret) .skip)) (h_ 7 [r_ 0 37 (.ld true 9 (.t 5)),p_ 1 38 (m_ 4),p_ 2 39 (m_ 6),p_ 3 40 (.six (.t 38) (.t 39)),p_ 4 41 (m_ 7),c_ 5 42 52 [.t 37,.t 40,.t 41],bl 6 (.st 9 (.t 5) (.t 42))])))) (g_ 3 [p_ 0 24 (m_ 6),p_ 1 25 (.bin 0 0 (.t 24) (i_ 1)),p_ 2 6 (m_ 25)])))))) (.seq (.seq (g_ 3 [p_ 0 43 (f_ 0 1),r_ 1 44 (l_ 43),p_ 2 45 (.bin 3 4 (.t 44) (i_ 0))]) (.cond (.t 45) (.seq (.seq (h_ 14 [p_ 0 46 (f_ 8 1),r_ 1 47 (l_ 46),c_ 2 48 86 [.t 47],p_ 3 49 (.un 0 (.t 48)),p_ 4 50 (m_ 49),aj 5 51 50 false (f_ 8 1),aT 6 52 50 false (l_ 51),aj 7 53 50 false (.ixs 5 (.t 52) (i_ 0)),aj 8 54 50 false (f_ 0 53),aT 9 55 50 false (l_ 54),aj 10 56 50 false (f_ 7 1),aT 11 57 50 false (l_ 56),aj 12 58 50 false (.bin 3 5 (.t 55) (.t 57)),p_ 13 59 (.pick (.t 50) (.c (.bool true)) (.t 58))]) (.cond (.t 59) (.seq (g_ 1 [p_ 0 2 (.mv (.c (.bool false)))]) .ret) .skip)) (.seq (.seq (g_ 1 [p_ 0 8 (.mv (i_ 0))]) (.block 4 (.pre [.can 0 [1,5,8],.up 8,.can 0 [1,5,8]] (.inv 0 BM)))) (.seq (g_ 4 [p_ 0 74 (f_ 7 1),r_ 1 75 (l_ 74),p_ 2 76 (f_ 7 5),bl 3 (.st 1 (.t 76) (.t 75))]) (g_ 4 [p_ 0 77 (f_ 8 1),r_ 1 78 (l_ 77),p_ 2 79 (f_ 8 5),bl 3 (.st 1 (.t 79) (.t 78))])))) .skip)) (.seq (g_ 4 [r_ 0 80 (.ld true 9 (.t 5)),r_ 1 81 (.ld true 9 (.t 1)),c_ 2 82 26 [.t 80,.t 81],p_ 3 2 (m_ 82)]) .ret)))))))) [(0,[.up 2]),(1,[.up 2])])
theorem QU:bE Tryz.prog 54 QV=true:=by kernel_rfl
structure gC where
 x:Int
 y:Int
 i:Int
 at_:Int
 mode:Int
 mask:Int
 grp:Int
 hp:Value
 ps:List aB
 j:Int
def HM (p:gC):Prop:=∀x∈p.ps,ca x
def Fs (p:gC):Prop:=¬∀x∈p.ps,ca x
noncomputable def kS (p:gC):IL:=((.cons 8 (.sy (.int 0 p.j)) (.cons 5 (.ptr 1 0) (.cons 1 (.ptr 0 0) .nil))),(.node (.node .leaf (some (.blk false 79 9 [[.int 0 (.ofNat 0),.sy (.int 0 p.x),.int 0 (.ofNat 0),.int 0 (.ofNat 0),.int 0 (.ofNat 0),.sy (.int 0 p.mode),.int 3 (.ofNat 0),.int 1 (.ofNat 0),.nilS]])) .leaf) (some (.blk false 79 9 [[.int 0 (.ofNat 0),.sy (.int 0 p.x),.sy (.int 0 p.y),.sy (.int 0 p.i),.sy (.int 0 p.at_),.sy (.int 0 p.mode),.sy (.int 3 p.mask),.sy (.int 1 p.grp),.sy (.imm p.hp 5 aB p.ps encP)]])) .leaf),2)
noncomputable def xq (p:gC) (K:KC):Bool:=ac (iP (HM p) (K 4 (.cons 5 (.ptr 1 0) (.cons 1 (.ptr 0 0) .nil)) (.node (.node .leaf (some (.blk false 79 9 [[.int 0 (.ofNat 0),.sy (.int 0 p.x),.int 0 (.ofNat 0),.int 0 (.ofNat 0),.int 0 (.ofNat 0),.sy (.int 0 p.mode),.int 3 (.ofNat 0),.int 1 (.ofNat 0),.nilS]])) .leaf) (some (.blk false 79 9 [[.int 0 (.ofNat 0),.sy (.int 0 p.x),.sy (.int 0 p.y),.sy (.int 0 p.i),.sy (.int 0 p.at_),.sy (.int 0 p.mode),.sy (.int 3 p.mask),.sy (.int 1 p.grp),.sy (.imm p.hp 5 aB p.ps encP)]])) .leaf) 2) true) (iP (Fs p) (K 1 (.cons 2 (.bool false) .nil) .leaf 0) true)
def jY (p:gC):Prop:=p.ps.length≤1000000∧0≤p.j∧p.j≤(p.ps.length:Int)∧(∀x∈p.ps,lV x)∧(∀(j:Nat) y,(j:Int)<p.j→p.ps[j]?=some y→ca y)
noncomputable def uC (p:gC) (K:KC):Bool:=ac (aC (jY p)) (xq p K)
noncomputable def CL:fE:=fun j S M nx K=>(Bool.rec (false) (aF fun p:gC=>ac (aC ((S,M,nx)=kS p)) (uC p K)) (Nat.beq j 0))
def jp (p:gC):Nat:=((p.ps.length:Int) - p.j).toNat
noncomputable def Ko (s:IL) (n:Nat) (K:KC):Bool:=aF fun q=>mP (s=kS q∧jp q<n) (uC q K)
theorem TU {p q:gC} {K:KC} {s:IL} (hm:jp q<jp p:=by dsimp only[jp]<;>(omega)) (hp:jY q:=by dsimp only[jY]<;>(exact⟨g0,by omega,by omega,g4,nL g5 (by omega) hi2 (by simp_all)⟩)) (hK:xq q K=true:=by exact hK) (e:s=kS q:=by rfl):Ko s (jp p) K=true:=aK q (ba ⟨e,hm⟩ (ba hp hK))
theorem RZ (p:gC) (K:KC) (hpre:jY p) (hK:xq p K=true):(cO (di sd) CL 600 BM (kS p).1 (kS p).2.1 (kS p).2.2 (fun e S M nx=>Nat.casesOn e (aF fun q:gC=>ac (aC ((S,M,nx)=kS q∧jp q<jp p)) (uC q K)) (fun e2=>K (Nat.succ e2) S M nx)))=true:=by
 refine Eq.trans (b:=(iP (p.j<(p.ps.length:Int)) (mP (0≤p.j∧p.j<(p.ps.length:Int)) (am fun x1:aB=>iP (p.ps[p.j.toNat]?=some x1) (aM (([.agg [.sy (.int 1 x1.g),.sy (.int 1 x1.k),.sy (.str x1.key),.sy (.str x1.val),.sy (.int 0 x1.n)]],.leaf,0)) uv oz ko fun p1 r1=>iP (¬r1.q) (K 1 (.cons 2 (.bool false) .nil) .leaf 0) (mP (bp 0 (p.j+(1:Int))) (Ko ((.cons 8 (.sy (.int 0 (p.j+(1:Int)))) (.cons 5 (.ptr 1 0) (.cons 1 (.ptr 0 0) .nil))),(.node (.node .leaf (some (.blk false 79 9 [[.int 0 (.ofNat 0),.sy (.int 0 p.x),.int 0 (.ofNat 0),.int 0 (.ofNat 0),.int 0 (.ofNat 0),.sy (.int 0 p.mode),.int 3 (.ofNat 0),.int 1 (.ofNat 0),.nilS]])) .leaf) (some (.blk false 79 9 [[.int 0 (.ofNat 0),.sy (.int 0 p.x),.sy (.int 0 p.y),.sy (.int 0 p.i),.sy (.int 0 p.at_),.sy (.int 0 p.mode),.sy (.int 3 p.mask),.sy (.int 1 p.grp),.sy (.imm p.hp 5 aB p.ps encP)]])) .leaf),2) (jp p) K))) true)) (K 4 (.cons 5 (.ptr 1 0) (.cons 1 (.ptr 0 0) .nil)) (.node (.node .leaf (some (.blk false 79 9 [[.int 0 (.ofNat 0),.sy (.int 0 p.x),.int 0 (.ofNat 0),.int 0 (.ofNat 0),.int 0 (.ofNat 0),.sy (.int 0 p.mode),.int 3 (.ofNat 0),.int 1 (.ofNat 0),.nilS]])) .leaf) (some (.blk false 79 9 [[.int 0 (.ofNat 0),.sy (.int 0 p.x),.sy (.int 0 p.y),.sy (.int 0 p.i),.sy (.int 0 p.at_),.sy (.int 0 p.mode),.sy (.int 3 p.mask),.sy (.int 1 p.grp),.sy (.imm p.hp 5 aB p.ps encP)]])) .leaf) 2))) (by kernel_rfl) ?_
 obtain⟨hK0,hKr0⟩:=ai hK
 have hK1:=hKr0
 dsimp only[jY]at hpre
 obtain⟨g0,g1,g2,g4,g5⟩:=hpre
 refine iI (fun hc1=> ?_) (fun hc1=> ?_)
 refine mI (by first|omega|(constructor<;>omega)|(have e9:=(by assumption:_↔fV _);unfold fV at e9;have e8:=e9.1 (by first|assumption|exact Classical.not_not.1 (by assumption));omega)) ?_
 refine az (fun x1=> ?_)
 refine iI (fun hi2=> ?_) (fun _=>rfl)
 have hg_x1:=g4 _ (acF (by assumption:p.ps[p.j.toNat]?=some x1))
 refine ay (⟨x1⟩:nS) rfl (by(try dsimp only[oz]);assumption) fun r1 hi3=> ?_
 dsimp only[ko]at hi3
 refine iI (fun hc4=> ?_) (fun hc4=> ?_)
 exact au (show¬∀x∈p.ps,ca x from(by exact mY hi2 (by simp_all))) hK1
 refine bG ?_
 exact TU (q:=⟨p.x,p.y,p.i,p.at_,p.mode,p.mask,p.grp,p.hp,p.ps,p.j+(1:Int)⟩)
 exact au (show∀x∈p.ps,ca x from(by exact nM g5 (by omega))) hK0
theorem Tk:dI Tryz.prog 83 0 CL true 0 BM:=by
 exact eM (lf:=600) bm (bj qN) (by rfl) kS jp uC (fun b j x h=>by cases h) (fun S M nx K h=>by obtain⟨p,h⟩:=bL h;exact⟨p,(aa h).1,(aa h).2⟩) (fun p K h=>RZ p K (aa h).1 (aa h).2)
structure zL where
 o:ax
structure Pb where
 q:Prop
def HK (p:zL) (r:Pb):Prop:=r.q↔cn p.o
noncomputable def Hh (p:zL):IE:=([.agg [.sy (.int 0 p.o.kind),.sy (.int 0 p.o.x),.sy (.int 0 p.o.y),.sy (.int 0 p.o.i),.sy (.int 0 p.o.at_),.sy (.int 0 p.o.mode),.sy (.int 3 p.o.mask),.sy (.int 1 p.o.grp),.sy (.imm p.o.hp 5 aB p.o.ps encP)]],.leaf,0)
noncomputable def Eb (p:zL) (K:KE):Bool:=am fun r:Pb=>iP (HK p r) (K (.sy (.bool r.q)) .leaf 0) true
def DX (p:zL):Prop:=p.o.ps.length≤1000000∧(0≤p.o.mask∧p.o.mask≤4294967295)∧∀x∈p.o.ps,lV x
theorem aq {p:zL} {K:KE} (hK:Eb p K=true) (r:Pb) (h:HK p r:=by dsimp only[HK]<;>((first|rw[GR (by assumption)]|rw[Ob (by assumption)]|rw[Oa (by assumption)]|rw[NZ (by assumption)]|rw[NY (by assumption)]|rw[NX (by assumption)]|rw[NW (by assumption)]|rw[NV (by assumption)]|rw[NU (by assumption)]|rw[NT (by assumption)]|rw[HX (by assumption)]|rw[HW (by assumption)]|rw[iff_false_intro (HV (by omega))]);first|(simp_all;done)|(simp_all;omega)|((try unfold fV);simp_all;done)|((try unfold fV);simp_all;omega)|((try unfold fV);constructor<;>intro h<;>simp_all<;>omega)|(constructor<;>intro h<;>simp_all<;>omega)|omega)):K (.sy (.bool r.q)) .leaf 0=true:=au h (aG hK r)
theorem Xb (p:zL) (K:KE) (hpre:DX p) (hK:Eb p K=true):(bW 0 (di sd) CL 600 QV (Hh p).1 (Hh p).2.1 (Hh p).2.2 K)=true:=by
 refine Eq.trans (b:=(let z0:Bool:=(K (.sy (.bool (false=true))) .leaf 0);iP (p.o.kind=0) (iP (p.o.x<(0:Int)) z0 (iP ((1099511627776:Int)<p.o.x) z0 (iP (p.o.mode<(0:Int)) z0 (iP ((1099511627776:Int)<p.o.mode) z0 (aM (([.sy (.imm p.o.hp 5 aB p.o.ps encP)],.leaf,0)) yE qk ny fun p13 r12=>iP (¬r12.q) z0 (mP (0≤(0:Int)∧(0:Int)<(p.o.ps.length:Int)) (am fun x1:aB=>iP (p.o.ps[0]?=some x1) (iP (¬x1.g=p.o.grp) z0 (aF fun p14:gC=>mP (((.cons 8 (.sy (.int 0 0)) (.cons 5 (.ptr 1 0) (.cons 1 (.ptr 0 0) .nil))),(.node (.node .leaf (some (.blk false 79 9 [[.int 0 (.ofNat 0),.sy (.int 0 p.o.x),.int 0 (.ofNat 0),.int 0 (.ofNat 0),.int 0 (.ofNat 0),.sy (.int 0 p.o.mode),.int 3 (.ofNat 0),.int 1 (.ofNat 0),.nilS]])) .leaf) (some (.blk false 79 9 [[.int 0 (.ofNat 0),.sy (.int 0 p.o.x),.sy (.int 0 p.o.y),.sy (.int 0 p.o.i),.sy (.int 0 p.o.at_),.sy (.int 0 p.o.mode),.sy (.int 3 p.o.mask),.sy (.int 1 p.o.grp),.sy (.imm p.o.hp 5 aB p.o.ps encP)]])) .leaf),2)=kS p14) (mP (jY p14) (ac (iP (HM p14) (iP (p14.x=p14.x) (iP ((0:Int)=p14.y) (iP ((0:Int)=p14.i) (iP ((0:Int)=p14.at_) (iP (p14.mode=p14.mode) (iP ((0:Int)=p14.mask) (iP (p14.grp=p14.grp) (aM (([.sy (.imm p14.hp 5 aB p14.ps encP),.sy (.imm p14.hp 5 aB p14.ps encP)],.leaf,0)) pY jW jl fun p15 r13=>K (.sy (.bool r13.q)) .leaf 0) z0) z0) z0) z0) z0) z0) z0) true) (iP (Fs p14) z0 true))))) true))))))) (iP (p.o.kind=1) (iP (p.o.x<(0:Int)) z0 (iP ((1099511627776:Int)<p.o.x) z0 (iP (p.o.y<(0:Int)) z0 (iP ((1099511627776:Int)<p.o.y) z0 (iP (p.o.x=p.o.x) (iP (p.o.y=p.o.y) (iP ((0:Int)=p.o.i) (iP ((0:Int)=p.o.at_) (iP ((0:Int)=p.o.mode) (iP ((0:Int)=p.o.mask) (iP ((0:Int)=p.o.grp) (aF fun p12:ci=>mP (([.nilS,.sy (.imm p.o.hp 5 aB p.o.ps encP)],.leaf,0)=ei p12) (am fun r11:eR=>iP (bT p12 r11) (K (.sy (.bool r11.q)) .leaf 0) true)) z0) z0) z0) z0) z0) z0) z0))))) (iP (p.o.kind=2) (iP (p.o.i<(0:Int)) z0 (iP ((1099511627776:Int)<p.o.i) z0 (iP ((0:Int)=p.o.x) (iP ((0:Int)=p.o.y) (iP (p.o.i=p.o.i) (iP ((0:Int)=p.o.at_) (iP ((0:Int)=p.o.mode) (iP ((0:Int)=p.o.mask) (iP ((0:Int)=p.o.grp) (aF fun p11:ci=>mP (([.nilS,.sy (.imm p.o.hp 5 aB p.o.ps encP)],.leaf,0)=ei p11) (am fun r10:eR=>iP (bT p11 r10) (K (.sy (.bool r10.q)) .leaf 0) true)) z0) z0) z0) z0) z0) z0) z0))) (iP (p.o.kind=3) (iP (p.o.i<(0:Int)) z0 (iP ((1099511627776:Int)<p.o.i) z0 (iP ((0:Int)=p.o.x) (iP ((0:Int)=p.o.y) (iP (p.o.i=p.o.i) (iP ((0:Int)=p.o.at_) (iP ((0:Int)=p.o.mode) (iP ((0:Int)=p.o.mask) (iP ((0:Int)=p.o.grp) (aF fun p10:ci=>mP (([.nilS,.sy (.imm p.o.hp 5 aB p.o.ps encP)],.leaf,0)=ei p10) (am fun r9:eR=>iP (bT p10 r9) (K (.sy (.bool r9.q)) .leaf 0) true)) z0) z0) z0) z0) z0) z0) z0))) (iP (p.o.kind=4) (iP (p.o.i<(0:Int)) z0 (iP ((1099511627776:Int)<p.o.i) z0 (iP ((0:Int)=p.o.x) (iP ((0:Int)=p.o.y) (iP (p.o.i=p.o.i) (iP ((0:Int)=p.o.at_) (iP ((0:Int)=p.o.mode) (iP ((0:Int)=p.o.mask) (iP ((0:Int)=p.o.grp) (aF fun p9:ci=>mP (([.nilS,.sy (.imm p.o.hp 5 aB p.o.ps encP)],.leaf,0)=ei p9) (am fun r8:eR=>iP (bT p9 r8) (K (.sy (.bool r8.q)) .leaf 0) true)) z0) z0) z0) z0) z0) z0) z0))) (iP (p.o.kind=5) (iP (p.o.i<(0:Int)) z0 (iP ((1099511627776:Int)<p.o.i) z0 (iP (p.o.at_<(0:Int)) z0 (iP ((1099511627776:Int)<p.o.at_) z0 (mP (bp 0 p.o.mask) (iP (p.o.mask<(0:Int)) z0 (iP ((1099511627776:Int)<p.o.mask) z0 (mP (bp 3 p.o.mask) (iP ((0:Int)=p.o.x) (iP ((0:Int)=p.o.y) (iP (p.o.i=p.o.i) (iP (p.o.at_=p.o.at_) (iP ((0:Int)=p.o.mode) (iP (p.o.mask=p.o.mask) (iP ((0:Int)=p.o.grp) (aF fun p8:ci=>mP (([.nilS,.sy (.imm p.o.hp 5 aB p.o.ps encP)],.leaf,0)=ei p8) (am fun r7:eR=>iP (bT p8 r7) (K (.sy (.bool r7.q)) .leaf 0) true)) z0) z0) z0) z0) z0) z0) z0))))))))) (iP (p.o.kind=6) (iP (p.o.x<(0:Int)) z0 (iP ((1099511627776:Int)<p.o.x) z0 (iP (p.o.x=p.o.x) (iP ((0:Int)=p.o.y) (iP ((0:Int)=p.o.i) (iP ((0:Int)=p.o.at_) (iP ((0:Int)=p.o.mode) (iP ((0:Int)=p.o.mask) (iP ((0:Int)=p.o.grp) (aF fun p7:ci=>mP (([.nilS,.sy (.imm p.o.hp 5 aB p.o.ps encP)],.leaf,0)=ei p7) (am fun r6:eR=>iP (bT p7 r6) (K (.sy (.bool r6.q)) .leaf 0) true)) z0) z0) z0) z0) z0) z0) z0))) (iP (p.o.kind=7) (iP (p.o.x<(0:Int)) z0 (iP ((1099511627776:Int)<p.o.x) z0 (iP (p.o.y<(0:Int)) z0 (iP ((1099511627776:Int)<p.o.y) z0 (iP (p.o.x=p.o.x) (iP (p.o.y=p.o.y) (iP ((0:Int)=p.o.i) (iP ((0:Int)=p.o.at_) (iP ((0:Int)=p.o.mode) (iP ((0:Int)=p.o.mask) (iP ((0:Int)=p.o.grp) (aF fun p6:ci=>mP (([.nilS,.sy (.imm p.o.hp 5 aB p.o.ps encP)],.leaf,0)=ei p6) (am fun r5:eR=>iP (bT p6 r5) (K (.sy (.bool r5.q)) .leaf 0) true)) z0) z0) z0) z0) z0) z0) z0))))) (iP (p.o.kind=8) (iP (p.o.x<(0:Int)) z0 (iP ((1099511627776:Int)<p.o.x) z0 (iP (p.o.x=p.o.x) (iP ((0:Int)=p.o.y) (iP ((0:Int)=p.o.i) (iP ((0:Int)=p.o.at_) (iP ((0:Int)=p.o.mode) (iP ((0:Int)=p.o.mask) (iP ((0:Int)=p.o.grp) (aF fun p5:ci=>mP (([.nilS,.sy (.imm p.o.hp 5 aB p.o.ps encP)],.leaf,0)=ei p5) (am fun r4:eR=>iP (bT p5 r4) (K (.sy (.bool r4.q)) .leaf 0) true)) z0) z0) z0) z0) z0) z0) z0))) (iP (p.o.kind=9) (iP (p.o.x<(0:Int)) z0 (iP ((1099511627776:Int)<p.o.x) z0 (iP (p.o.x=p.o.x) (iP ((0:Int)=p.o.y) (iP ((0:Int)=p.o.i) (iP ((0:Int)=p.o.at_) (iP ((0:Int)=p.o.mode) (iP ((0:Int)=p.o.mask) (iP ((0:Int)=p.o.grp) (aF fun p4:ci=>mP (([.nilS,.sy (.imm p.o.hp 5 aB p.o.ps encP)],.leaf,0)=ei p4) (am fun r3:eR=>iP (bT p4 r3) (K (.sy (.bool r3.q)) .leaf 0) true)) z0) z0) z0) z0) z0) z0) z0))) (iP (p.o.kind=10) (iP (p.o.x<(0:Int)) z0 (iP ((1099511627776:Int)<p.o.x) z0 (iP (p.o.x=p.o.x) (iP ((0:Int)=p.o.y) (iP ((0:Int)=p.o.i) (iP ((0:Int)=p.o.at_) (iP ((0:Int)=p.o.mode) (iP ((0:Int)=p.o.mask) (iP ((0:Int)=p.o.grp) (aF fun p3:ci=>mP (([.nilS,.sy (.imm p.o.hp 5 aB p.o.ps encP)],.leaf,0)=ei p3) (am fun r2:eR=>iP (bT p3 r2) (K (.sy (.bool r2.q)) .leaf 0) true)) z0) z0) z0) z0) z0) z0) z0))) (iP (p.o.kind=11) (iP (p.o.x<(0:Int)) z0 (iP ((1099511627776:Int)<p.o.x) z0 (iP (p.o.x=p.o.x) (iP ((0:Int)=p.o.y) (iP ((0:Int)=p.o.i) (iP ((0:Int)=p.o.at_) (iP ((0:Int)=p.o.mode) (iP ((0:Int)=p.o.mask) (iP ((0:Int)=p.o.grp) (aF fun p2:ci=>mP (([.nilS,.sy (.imm p.o.hp 5 aB p.o.ps encP)],.leaf,0)=ei p2) (am fun r1:eR=>iP (bT p2 r1) (K (.sy (.bool r1.q)) .leaf 0) true)) z0) z0) z0) z0) z0) z0) z0))) (aF fun p1:kY=>mP (([.sy (.int 0 p.o.kind)],.leaf,0)=mZ p1) (mP (jU p1) z0))))))))))))))) (by kernel_rfl) ?_
 dsimp only[DX]at hpre
 obtain⟨hl,hmk,hrg⟩:=hpre
 refine iI (fun hc1=> ?_) (fun hc1=> ?_)
 refine iI (fun hc2=> ?_) (fun hc2=> ?_)
 exact aq hK ⟨false=true⟩
 refine iI (fun hc3=> ?_) (fun hc3=> ?_)
 exact aq hK ⟨false=true⟩
 refine iI (fun hc4=> ?_) (fun hc4=> ?_)
 exact aq hK ⟨false=true⟩
 refine iI (fun hc5=> ?_) (fun hc5=> ?_)
 exact aq hK ⟨false=true⟩
 refine ay (⟨p.o.hp,p.o.ps⟩:rA) rfl (by(try dsimp only[qk]);exact⟨by omega,by assumption⟩) fun r12 hi6=> ?_
 dsimp only[ny]at hi6
 refine iI (fun hc7=> ?_) (fun hc7=> ?_)
 exact aq hK ⟨false=true⟩
 refine mI (by first|omega|(constructor<;>omega)|(have e9:=(by assumption:_↔fV _);unfold fV at e9;have e8:=e9.1 (by first|assumption|exact Classical.not_not.1 (by assumption));omega)) ?_
 refine az (fun x1=> ?_)
 refine iI (fun hi8=> ?_) (fun _=>rfl)
 refine iI (fun hc9=> ?_) (fun hc9=> ?_)
 exact aq hK ⟨false=true⟩
 refine dx (⟨p.o.x,p.o.y,p.o.i,p.o.at_,p.o.mode,p.o.mask,p.o.grp,p.o.hp,p.o.ps,(0:Int)⟩:gC) rfl (by(try dsimp only[jY]);exact⟨hl,by omega,by omega,hrg,fun j y h1 h2=>by omega⟩) ?_
 refine aE ?_ ?_
 refine iI (p:=∀x∈p.o.ps,ca x) (fun hi10=> ?_) (fun _=>rfl)
 refine iI (p:=p.o.x=p.o.x) (fun hc11=> ?_) (fun hc11=> ?_)
 refine iI (p:=(0:Int)=p.o.y) (fun hc12=> ?_) (fun hc12=> ?_)
 refine iI (p:=(0:Int)=p.o.i) (fun hc13=> ?_) (fun hc13=> ?_)
 refine iI (p:=(0:Int)=p.o.at_) (fun hc14=> ?_) (fun hc14=> ?_)
 refine iI (p:=p.o.mode=p.o.mode) (fun hc15=> ?_) (fun hc15=> ?_)
 refine iI (p:=(0:Int)=p.o.mask) (fun hc16=> ?_) (fun hc16=> ?_)
 refine iI (p:=p.o.grp=p.o.grp) (fun hc17=> ?_) (fun hc17=> ?_)
 refine ay (⟨p.o.hp,p.o.ps,p.o.hp,p.o.ps⟩:mz) rfl (by(try dsimp only[jW]);omega) fun r13 hi18=> ?_
 dsimp only[jl]at hi18
 exact aq hK ⟨r13.q⟩
 exact aq hK ⟨false=true⟩
 exact aq hK ⟨false=true⟩
 exact aq hK ⟨false=true⟩
 exact aq hK ⟨false=true⟩
 exact aq hK ⟨false=true⟩
 exact aq hK ⟨false=true⟩
 exact aq hK ⟨false=true⟩
 refine iI (p:=¬∀x∈p.o.ps,ca x) (fun hi19=> ?_) (fun _=>rfl)
 exact aq hK ⟨false=true⟩
 refine iI (fun hc20=> ?_) (fun hc20=> ?_)
 refine iI (fun hc21=> ?_) (fun hc21=> ?_)
 exact aq hK ⟨false=true⟩
 refine iI (fun hc22=> ?_) (fun hc22=> ?_)
 exact aq hK ⟨false=true⟩
 refine iI (fun hc23=> ?_) (fun hc23=> ?_)
 exact aq hK ⟨false=true⟩
 refine iI (fun hc24=> ?_) (fun hc24=> ?_)
 exact aq hK ⟨false=true⟩
 refine iI (fun hc25=> ?_) (fun hc25=> ?_)
 refine iI (fun hc26=> ?_) (fun hc26=> ?_)
 refine iI (fun hc27=> ?_) (fun hc27=> ?_)
 refine iI (fun hc28=> ?_) (fun hc28=> ?_)
 refine iI (fun hc29=> ?_) (fun hc29=> ?_)
 refine iI (fun hc30=> ?_) (fun hc30=> ?_)
 refine iI (fun hc31=> ?_) (fun hc31=> ?_)
 refine cU (⟨p.o.hp,p.o.ps⟩:ci) rfl fun r11 hi32=> ?_
 dsimp only[bT]at hi32
 exact aq hK ⟨r11.q⟩
 exact aq hK ⟨false=true⟩
 exact aq hK ⟨false=true⟩
 exact aq hK ⟨false=true⟩
 exact aq hK ⟨false=true⟩
 exact aq hK ⟨false=true⟩
 exact aq hK ⟨false=true⟩
 exact aq hK ⟨false=true⟩
 refine iI (fun hc33=> ?_) (fun hc33=> ?_)
 refine iI (fun hc34=> ?_) (fun hc34=> ?_)
 exact aq hK ⟨false=true⟩
 refine iI (fun hc35=> ?_) (fun hc35=> ?_)
 exact aq hK ⟨false=true⟩
 refine iI (fun hc36=> ?_) (fun hc36=> ?_)
 refine iI (fun hc37=> ?_) (fun hc37=> ?_)
 refine iI (fun hc38=> ?_) (fun hc38=> ?_)
 refine iI (fun hc39=> ?_) (fun hc39=> ?_)
 refine iI (fun hc40=> ?_) (fun hc40=> ?_)
 refine iI (fun hc41=> ?_) (fun hc41=> ?_)
 refine iI (fun hc42=> ?_) (fun hc42=> ?_)
 refine cU (⟨p.o.hp,p.o.ps⟩:ci) rfl fun r10 hi43=> ?_
 dsimp only[bT]at hi43
 exact aq hK ⟨r10.q⟩
 exact aq hK ⟨false=true⟩
 exact aq hK ⟨false=true⟩
 exact aq hK ⟨false=true⟩
 exact aq hK ⟨false=true⟩
 exact aq hK ⟨false=true⟩
 exact aq hK ⟨false=true⟩
 exact aq hK ⟨false=true⟩
 refine iI (fun hc44=> ?_) (fun hc44=> ?_)
 refine iI (fun hc45=> ?_) (fun hc45=> ?_)
 exact aq hK ⟨false=true⟩
 refine iI (fun hc46=> ?_) (fun hc46=> ?_)
 exact aq hK ⟨false=true⟩
 refine iI (fun hc47=> ?_) (fun hc47=> ?_)
 refine iI (fun hc48=> ?_) (fun hc48=> ?_)
 refine iI (fun hc49=> ?_) (fun hc49=> ?_)
 refine iI (fun hc50=> ?_) (fun hc50=> ?_)
 refine iI (fun hc51=> ?_) (fun hc51=> ?_)
 refine iI (fun hc52=> ?_) (fun hc52=> ?_)
 refine iI (fun hc53=> ?_) (fun hc53=> ?_)
 refine cU (⟨p.o.hp,p.o.ps⟩:ci) rfl fun r9 hi54=> ?_
 dsimp only[bT]at hi54
 exact aq hK ⟨r9.q⟩
 exact aq hK ⟨false=true⟩
 exact aq hK ⟨false=true⟩
 exact aq hK ⟨false=true⟩
 exact aq hK ⟨false=true⟩
 exact aq hK ⟨false=true⟩
 exact aq hK ⟨false=true⟩
 exact aq hK ⟨false=true⟩
 refine iI (fun hc55=> ?_) (fun hc55=> ?_)
 refine iI (fun hc56=> ?_) (fun hc56=> ?_)
 exact aq hK ⟨false=true⟩
 refine iI (fun hc57=> ?_) (fun hc57=> ?_)
 exact aq hK ⟨false=true⟩
 refine iI (fun hc58=> ?_) (fun hc58=> ?_)
 refine iI (fun hc59=> ?_) (fun hc59=> ?_)
 refine iI (fun hc60=> ?_) (fun hc60=> ?_)
 refine iI (fun hc61=> ?_) (fun hc61=> ?_)
 refine iI (fun hc62=> ?_) (fun hc62=> ?_)
 refine iI (fun hc63=> ?_) (fun hc63=> ?_)
 refine iI (fun hc64=> ?_) (fun hc64=> ?_)
 refine cU (⟨p.o.hp,p.o.ps⟩:ci) rfl fun r8 hi65=> ?_
 dsimp only[bT]at hi65
 exact aq hK ⟨r8.q⟩
 exact aq hK ⟨false=true⟩
 exact aq hK ⟨false=true⟩
 exact aq hK ⟨false=true⟩
 exact aq hK ⟨false=true⟩
 exact aq hK ⟨false=true⟩
 exact aq hK ⟨false=true⟩
 exact aq hK ⟨false=true⟩
 refine iI (fun hc66=> ?_) (fun hc66=> ?_)
 refine iI (fun hc67=> ?_) (fun hc67=> ?_)
 exact aq hK ⟨false=true⟩
 refine iI (fun hc68=> ?_) (fun hc68=> ?_)
 exact aq hK ⟨false=true⟩
 refine iI (fun hc69=> ?_) (fun hc69=> ?_)
 exact aq hK ⟨false=true⟩
 refine iI (fun hc70=> ?_) (fun hc70=> ?_)
 exact aq hK ⟨false=true⟩
 refine bG ?_
 refine iI (fun hc71=> ?_) (fun hc71=> ?_)
 exact aq hK ⟨false=true⟩
 refine iI (fun hc72=> ?_) (fun hc72=> ?_)
 exact aq hK ⟨false=true⟩
 refine bG ?_
 refine iI (fun hc73=> ?_) (fun hc73=> ?_)
 refine iI (fun hc74=> ?_) (fun hc74=> ?_)
 refine iI (fun hc75=> ?_) (fun hc75=> ?_)
 refine iI (fun hc76=> ?_) (fun hc76=> ?_)
 refine iI (fun hc77=> ?_) (fun hc77=> ?_)
 refine iI (fun hc78=> ?_) (fun hc78=> ?_)
 refine iI (fun hc79=> ?_) (fun hc79=> ?_)
 refine cU (⟨p.o.hp,p.o.ps⟩:ci) rfl fun r7 hi80=> ?_
 dsimp only[bT]at hi80
 exact aq hK ⟨r7.q⟩
 exact aq hK ⟨false=true⟩
 exact aq hK ⟨false=true⟩
 exact aq hK ⟨false=true⟩
 exact aq hK ⟨false=true⟩
 exact aq hK ⟨false=true⟩
 exact aq hK ⟨false=true⟩
 exact aq hK ⟨false=true⟩
 refine iI (fun hc81=> ?_) (fun hc81=> ?_)
 refine iI (fun hc82=> ?_) (fun hc82=> ?_)
 exact aq hK ⟨false=true⟩
 refine iI (fun hc83=> ?_) (fun hc83=> ?_)
 exact aq hK ⟨false=true⟩
 refine iI (fun hc84=> ?_) (fun hc84=> ?_)
 refine iI (fun hc85=> ?_) (fun hc85=> ?_)
 refine iI (fun hc86=> ?_) (fun hc86=> ?_)
 refine iI (fun hc87=> ?_) (fun hc87=> ?_)
 refine iI (fun hc88=> ?_) (fun hc88=> ?_)
 refine iI (fun hc89=> ?_) (fun hc89=> ?_)
 refine iI (fun hc90=> ?_) (fun hc90=> ?_)
 refine cU (⟨p.o.hp,p.o.ps⟩:ci) rfl fun r6 hi91=> ?_
 dsimp only[bT]at hi91
 exact aq hK ⟨r6.q⟩
 exact aq hK ⟨false=true⟩
 exact aq hK ⟨false=true⟩
 exact aq hK ⟨false=true⟩
 exact aq hK ⟨false=true⟩
 exact aq hK ⟨false=true⟩
 exact aq hK ⟨false=true⟩
 exact aq hK ⟨false=true⟩
 refine iI (fun hc92=> ?_) (fun hc92=> ?_)
 refine iI (fun hc93=> ?_) (fun hc93=> ?_)
 exact aq hK ⟨false=true⟩
 refine iI (fun hc94=> ?_) (fun hc94=> ?_)
 exact aq hK ⟨false=true⟩
 refine iI (fun hc95=> ?_) (fun hc95=> ?_)
 exact aq hK ⟨false=true⟩
 refine iI (fun hc96=> ?_) (fun hc96=> ?_)
 exact aq hK ⟨false=true⟩
 refine iI (fun hc97=> ?_) (fun hc97=> ?_)
 refine iI (fun hc98=> ?_) (fun hc98=> ?_)
 refine iI (fun hc99=> ?_) (fun hc99=> ?_)
 refine iI (fun hc100=> ?_) (fun hc100=> ?_)
 refine iI (fun hc101=> ?_) (fun hc101=> ?_)
 refine iI (fun hc102=> ?_) (fun hc102=> ?_)
 refine iI (fun hc103=> ?_) (fun hc103=> ?_)
 refine cU (⟨p.o.hp,p.o.ps⟩:ci) rfl fun r5 hi104=> ?_
 dsimp only[bT]at hi104
 exact aq hK ⟨r5.q⟩
 exact aq hK ⟨false=true⟩
 exact aq hK ⟨false=true⟩
 exact aq hK ⟨false=true⟩
 exact aq hK ⟨false=true⟩
 exact aq hK ⟨false=true⟩
 exact aq hK ⟨false=true⟩
 exact aq hK ⟨false=true⟩
 refine iI (fun hc105=> ?_) (fun hc105=> ?_)
 refine iI (fun hc106=> ?_) (fun hc106=> ?_)
 exact aq hK ⟨false=true⟩
 refine iI (fun hc107=> ?_) (fun hc107=> ?_)
 exact aq hK ⟨false=true⟩
 refine iI (fun hc108=> ?_) (fun hc108=> ?_)
 refine iI (fun hc109=> ?_) (fun hc109=> ?_)
 refine iI (fun hc110=> ?_) (fun hc110=> ?_)
 refine iI (fun hc111=> ?_) (fun hc111=> ?_)
 refine iI (fun hc112=> ?_) (fun hc112=> ?_)
 refine iI (fun hc113=> ?_) (fun hc113=> ?_)
 refine iI (fun hc114=> ?_) (fun hc114=> ?_)
 refine cU (⟨p.o.hp,p.o.ps⟩:ci) rfl fun r4 hi115=> ?_
 dsimp only[bT]at hi115
 exact aq hK ⟨r4.q⟩
 exact aq hK ⟨false=true⟩
 exact aq hK ⟨false=true⟩
 exact aq hK ⟨false=true⟩
 exact aq hK ⟨false=true⟩
 exact aq hK ⟨false=true⟩
 exact aq hK ⟨false=true⟩
 exact aq hK ⟨false=true⟩
 refine iI (fun hc116=> ?_) (fun hc116=> ?_)
 refine iI (fun hc117=> ?_) (fun hc117=> ?_)
 exact aq hK ⟨false=true⟩
 refine iI (fun hc118=> ?_) (fun hc118=> ?_)
 exact aq hK ⟨false=true⟩
 refine iI (fun hc119=> ?_) (fun hc119=> ?_)
 refine iI (fun hc120=> ?_) (fun hc120=> ?_)
 refine iI (fun hc121=> ?_) (fun hc121=> ?_)
 refine iI (fun hc122=> ?_) (fun hc122=> ?_)
 refine iI (fun hc123=> ?_) (fun hc123=> ?_)
 refine iI (fun hc124=> ?_) (fun hc124=> ?_)
 refine iI (fun hc125=> ?_) (fun hc125=> ?_)
 refine cU (⟨p.o.hp,p.o.ps⟩:ci) rfl fun r3 hi126=> ?_
 dsimp only[bT]at hi126
 exact aq hK ⟨r3.q⟩
 exact aq hK ⟨false=true⟩
 exact aq hK ⟨false=true⟩
 exact aq hK ⟨false=true⟩
 exact aq hK ⟨false=true⟩
 exact aq hK ⟨false=true⟩
 exact aq hK ⟨false=true⟩
 exact aq hK ⟨false=true⟩
 refine iI (fun hc127=> ?_) (fun hc127=> ?_)
 refine iI (fun hc128=> ?_) (fun hc128=> ?_)
 exact aq hK ⟨false=true⟩
 refine iI (fun hc129=> ?_) (fun hc129=> ?_)
 exact aq hK ⟨false=true⟩
 refine iI (fun hc130=> ?_) (fun hc130=> ?_)
 refine iI (fun hc131=> ?_) (fun hc131=> ?_)
 refine iI (fun hc132=> ?_) (fun hc132=> ?_)
 refine iI (fun hc133=> ?_) (fun hc133=> ?_)
 refine iI (fun hc134=> ?_) (fun hc134=> ?_)
 refine iI (fun hc135=> ?_) (fun hc135=> ?_)
 refine iI (fun hc136=> ?_) (fun hc136=> ?_)
 refine cU (⟨p.o.hp,p.o.ps⟩:ci) rfl fun r2 hi137=> ?_
 dsimp only[bT]at hi137
 exact aq hK ⟨r2.q⟩
 exact aq hK ⟨false=true⟩
 exact aq hK ⟨false=true⟩
 exact aq hK ⟨false=true⟩
 exact aq hK ⟨false=true⟩
 exact aq hK ⟨false=true⟩
 exact aq hK ⟨false=true⟩
 exact aq hK ⟨false=true⟩
 refine iI (fun hc138=> ?_) (fun hc138=> ?_)
 refine iI (fun hc139=> ?_) (fun hc139=> ?_)
 exact aq hK ⟨false=true⟩
 refine iI (fun hc140=> ?_) (fun hc140=> ?_)
 exact aq hK ⟨false=true⟩
 refine iI (fun hc141=> ?_) (fun hc141=> ?_)
 refine iI (fun hc142=> ?_) (fun hc142=> ?_)
 refine iI (fun hc143=> ?_) (fun hc143=> ?_)
 refine iI (fun hc144=> ?_) (fun hc144=> ?_)
 refine iI (fun hc145=> ?_) (fun hc145=> ?_)
 refine iI (fun hc146=> ?_) (fun hc146=> ?_)
 refine iI (fun hc147=> ?_) (fun hc147=> ?_)
 refine cU (⟨p.o.hp,p.o.ps⟩:ci) rfl fun r1 hi148=> ?_
 dsimp only[bT]at hi148
 exact aq hK ⟨r1.q⟩
 exact aq hK ⟨false=true⟩
 exact aq hK ⟨false=true⟩
 exact aq hK ⟨false=true⟩
 exact aq hK ⟨false=true⟩
 exact aq hK ⟨false=true⟩
 exact aq hK ⟨false=true⟩
 exact aq hK ⟨false=true⟩
 refine dx (⟨p.o.kind⟩:kY) rfl (by(try dsimp only[jU]);omega) ?_
 exact aq hK ⟨false=true⟩
noncomputable def za:=bt sd 0 (bJ Hh (dr DX Eb)) 54 [(0,15)]
theorem vx:aV Tryz.prog za:=aR (bU (f:=54) (k:=0) (lp:=CL) (lf:=600) bm (bj qN) QU (by rfl) (fun b j x h=>(cy Tk (fun h=>(by cases h)) h)) fun p K h=>Xb p K (aa h).1 (aa h).2) qN
end Go.Proofs.Tryz
namespace Go.Proofs.Tryz
open Go Go.RowKit Go.Sy
open Go.Eng hiding am
set_option maxRecDepth 1000000
set_option linter.unusedVariables false
set_option maxHeartbeats 4000000
def tD:XC:=(.aft (.seq (.seq (g_ 4 [p_ 0 5 (m_ 4),p_ 1 6 (m_ 0),p_ 2 7 (k_ 6),p_ 3 8 (.bin 3 0 (.t 5) (.t 7))]) (.cond (.t 8) .skip (.exit 2))) (.seq (.block 3 (g_ 9 [p_ 0 11 (m_ 3),p_ 1 12 (m_ 0),p_ 2 13 (m_ 4),p_ 3 14 (.ixs 5 (.t 12) (.t 13)),r_ 4 15 (.ld true 5 (.t 14)),c_ 5 16 56 [.t 15],e_ 6 17 (.bsl 118 5 1 [.int 1 (.ofNat 0),.int 1 (.ofNat 0),.str [],.str [],.int 0 (.ofNat 0)] [(0,5)] [.t 16]),e_ 7 18 (.app 118 5 48 (.t 11) (.t 17)),p_ 8 3 (m_ 18)])) (g_ 3 [p_ 0 9 (m_ 4),p_ 1 10 (.bin 0 0 (.t 9) (i_ 1)),p_ 2 4 (m_ 10)]))) [(0,[.can 0 [0,3,4]]),(2,[.can 0 [3]])])
def Ge:XF:=.mk 20 (.one 2) (.aft (.seq (g_ 1 [p_ 0 2 (.mv (.c .nilS))]) (.seq (g_ 1 [p_ 0 3 (.mv (.c .nilS))]) (.seq (.seq (g_ 1 [p_ 0 4 (.mv (i_ 0))]) (.block 2 (.pre [.can 0 [0,3,4],.born 3 118 5 aB encP,.up 4,.can 0 [0,3,4]] (.inv 0 tD)))) (.seq (g_ 2 [p_ 0 19 (m_ 3),p_ 1 2 (m_ 19)]) .ret)))) [(0,[.frz 2]),(1,[.frz 2])])
theorem Jp:bE Tryz.prog 27 Ge=true:=by kernel_rfl
structure eh where
 h:Value
 l:List aB
 o:List aB
 i:Int
structure wk where
 o:List aB
def lr (p:eh) (r:wk):Prop:=r.o=p.l
noncomputable def gp (p:eh):IL:=((.cons 4 (.sy (.int 0 p.i)) (.cons 3 (.sy (.prow 0 p.o.length)) (.cons 0 (.sy (.imm p.h 5 aB p.l encP)) .nil))),(.node .leaf (some (.prow 118 5 aB p.o encP)) .leaf),1)
noncomputable def mR (p:eh) (K:KC):Bool:=am fun r:wk=>iP (lr p r) (K 2 (.cons 3 (.sy (.prow 0 r.o.length)) .nil) (.node .leaf (some (.prow 118 5 aB r.o encP)) .leaf) 1) true
def gJ (p:eh):Prop:=p.l.length≤10∧0≤p.i∧p.i≤(p.l.length:Int)∧(p.o.length:Int)=p.i∧p.o=p.l.take p.i.toNat
theorem JQ {p:eh} {K:KC} (hK:mR p K=true) (r:wk) (h:lr p r):K 2 (.cons 3 (.sy (.prow 0 r.o.length)) .nil) (.node .leaf (some (.prow 118 5 aB r.o encP)) .leaf) 1=true:=au h (aG hK r)
noncomputable def od (p:eh) (K:KC):Bool:=ac (aC (gJ p)) (mR p K)
noncomputable def sq:fE:=fun j S M nx K=>(Bool.rec (false) (aF fun p:eh=>ac (aC ((S,M,nx)=gp p)) (od p K)) (Nat.beq j 0))
def fq (p:eh):Nat:=((p.l.length:Int) - p.i).toNat
noncomputable def At (s:IL) (n:Nat) (K:KC):Bool:=aF fun q=>mP (s=gp q∧fq q<n) (od q K)
theorem Lw {p q:eh} {K:KC} {s:IL} (hm:fq q<fq p:=by dsimp only[fq]<;>(omega)) (hp:gJ q:=by dsimp only[gJ]<;>(exact⟨g0,by omega,by omega,by simp;omega,by rw[show(p.i+1).toNat=p.i.toNat+1 by omega,←tk (by assumption:p.l[p.i.toNat]?=some _),g4]⟩)) (hK:mR q K=true:=by exact hK) (e:s=gp q:=by rfl):At s (fq p) K=true:=aK q (ba ⟨e,hm⟩ (ba hp hK))
theorem KQ (p:eh) (K:KC) (hpre:gJ p) (hK:mR p K=true):(cO (di za) sq 600 tD (gp p).1 (gp p).2.1 (gp p).2.2 (fun e S M nx=>Nat.casesOn e (aF fun q:eh=>ac (aC ((S,M,nx)=gp q∧fq q<fq p)) (od q K)) (fun e2=>K (Nat.succ e2) S M nx)))=true:=by
 refine Eq.trans (b:=(iP (p.i<(p.l.length:Int)) (mP (0≤p.i∧p.i<(p.l.length:Int)) (am fun x1:aB=>iP (p.l[p.i.toNat]?=some x1) (mP (p.o.length=p.o.length) (aF fun m1:List aB=>mP (iL (m1.map encP) [[.sint 1 x1.g,.sint 1 x1.k,.sstr x1.key,.sstr x1.val,.sint 0 x1.n]]) (mP (eN 48 (p.o.length+m1.length)) (mP (bp 0 (p.i+(1:Int))) (At ((.cons 4 (.sy (.int 0 (p.i+(1:Int)))) (.cons 3 (.sy (.prow 0 ((p.o++m1).length))) (.cons 0 (.sy (.imm p.h 5 aB p.l encP)) .nil))),(.node .leaf (some (.prow 118 5 aB (p.o++m1) encP)) .leaf),1) (fq p) K))))) true)) (K 2 (.cons 3 (.sy (.prow 0 p.o.length)) .nil) (.node .leaf (some (.prow 118 5 aB p.o encP)) .leaf) 1))) (by kernel_rfl) ?_
 dsimp only[gJ]at hpre
 obtain⟨g0,g1,g2,g3,g4⟩:=hpre
 refine iI (fun hc1=> ?_) (fun hc1=> ?_)
 refine er ?_
 refine az (fun x1=> ?_)
 refine iI (fun hi2=> ?_) (fun _=>rfl)
 refine aL ?_
 refine aK [x1] ?_
 refine xS (mI (by(try dsimp only);(first|omega|(simp[eN]<;>omega))) (bG ?_))
 exact Lw (q:=⟨p.h,p.l,p.o++[x1],p.i+(1:Int)⟩)
 exact JQ hK ⟨p.o⟩ (by dsimp only[lr]<;>(rw[g4];exact List.take_of_length_le (by omega)))
theorem KY:dI Tryz.prog 20 0 sq true 0 tD:=by
 exact eM (lf:=600) bm (bj vx) (by rfl) gp fq od (fun b j x h=>by cases h) (fun S M nx K h=>by obtain⟨p,h⟩:=bL h;exact⟨p,(aa h).1,(aa h).2⟩) (fun p K h=>KQ p K (aa h).1 (aa h).2)
structure lN where
 h:Value
 l:List aB
structure BY where
 h:Value
 o:List aB
def oE (p:lN) (r:BY):Prop:=r.o=p.l
noncomputable def rq (p:lN):IE:=([.sy (.imm p.h 5 aB p.l encP)],.leaf,0)
noncomputable def va (p:lN) (K:KE):Bool:=am fun r:BY=>iP (oE p r) (K (.sy (.imm r.h 5 aB r.o encP)) .leaf 0) true
def mH (p:lN):Prop:=p.l.length≤10
theorem OH {p:lN} {K:KE} (hK:va p K=true) (r:BY) (h:oE p r):K (.sy (.imm r.h 5 aB r.o encP)) .leaf 0=true:=au h (aG hK r)
theorem Pu (p:lN) (K:KE) (hpre:mH p) (hK:va p K=true):(bW 0 (di za) sq 600 Ge (rq p).1 (rq p).2.1 (rq p).2.2 K)=true:=by
 refine Eq.trans (b:=(aM (((.cons 4 (.sy (.int 0 0)) (.cons 3 (.sy (.prow 0 0)) (.cons 0 (.sy (.imm p.h 5 aB p.l encP)) .nil))),(.node .leaf (some (.prow 118 5 aB ([]:List aB) encP)) .leaf),1)) gp gJ lr fun p1 r1=>mP (r1.o.length=r1.o.length) (am fun h1:Value=>K (.sy (.imm h1 5 aB r1.o encP)) .leaf 0))) (by kernel_rfl) ?_
 dsimp only[mH]at hpre
 refine ay (⟨p.h,p.l,([]:List aB),(0:Int)⟩:eh) rfl (by(try dsimp only[gJ]);exact⟨by assumption,by omega,by omega,by simp,by simp⟩) fun r1 hi1=> ?_
 dsimp only[lr]at hi1
 refine aL ?_
 refine az (fun h1=> ?_)
 exact OH hK ⟨h1,r1.o⟩ (by dsimp only[oE]<;>exact hi1)
noncomputable def vv:=bt za 0 (bJ rq (dr mH va)) 27 [(0,23)]
theorem wy:aV Tryz.prog vv:=aR (bU (f:=27) (k:=0) (lp:=sq) (lf:=600) bm (bj vx) Jp (by rfl) (fun b j x h=>(cy KY (fun h=>(by cases h)) h)) fun p K h=>Pu p K (aa h).1 (aa h).2) vx
def CT:XF:=.mk 66 (.one 4) (.aft (.seq (g_ 3 [e_ 0 2 (.box 79 (.t 0)),e_ 1 3 (.box 79 (.t 1)),p_ 2 4 (.mv (.c (.bool false)))]) (.seq (g_ 62 [p_ 0 5 (f_ 0 2),r_ 1 6 (l_ 5),p_ 2 7 (f_ 0 3),r_ 3 8 (l_ 7),p_ 4 9 (.bin 3 4 (.t 6) (.t 8)),p_ 5 10 (m_ 9),aj 6 11 10 true (f_ 1 2),aT 7 12 10 true (l_ 11),aj 8 13 10 true (f_ 1 3),aT 9 14 10 true (l_ 13),aj 10 15 10 true (.bin 3 4 (.t 12) (.t 14)),p_ 11 16 (.pick (.t 10) (.t 15) (.c (.bool false))),p_ 12 17 (m_ 16),aj 13 18 17 true (f_ 2 2),aT 14 19 17 true (l_ 18),aj 15 20 17 true (f_ 2 3),aT 16 21 17 true (l_ 20),aj 17 22 17 true (.bin 3 4 (.t 19) (.t 21)),p_ 18 23 (.pick (.t 17) (.t 22) (.c (.bool false))),p_ 19 24 (m_ 23),aj 20 25 24 true (f_ 3 2),aT 21 26 24 true (l_ 25),aj 22 27 24 true (f_ 3 3),aT 23 28 24 true (l_ 27),aj 24 29 24 true (.bin 3 4 (.t 26) (.t 28)),p_ 25 30 (.pick (.t 24) (.t 29) (.c (.bool false))),p_ 26 31 (m_ 30),aj 27 32 31 true (f_ 4 2),aT 28 33 31 true (l_ 32),aj 29 34 31 true (f_ 4 3),aT 30 35 31 true (l_ 34),aj 31 36 31 true (.bin 3 4 (.t 33) (.t 35)),p_ 32 37 (.pick (.t 31) (.t 36) (.c (.bool false))),p_ 33 38 (m_ 37),aj 34 39 38 true (f_ 5 2),aT 35 40 38 true (l_ 39),aj 36 41 38 true (f_ 5 3),aT 37 42 38 true (l_ 41),aj 38 43 38 true (.bin 3 4 (.t 40) (.t 42)),p_ 39 44 (.pick (.t 38) (.t 43) (.c (.bool false))),p_ 40 45 (m_ 44),aj 41 46 45 true (f_ 6 2),aT 42 47 45 true (l_ 46),aj 43 48 45 true (f_ 6 3),aT 44 49 45 true (l_ 48),aj 45 50 45 true (.bin 3 4 (.t 47) (.t 49)),p_ 46 51 (.pick (.t 45) (.t 50) (.c (.bool false))),p_ 47 52 (m_ 51),aj 48 53 52 true (f_ 7 2),aT 49 54 52 true (l_ 53),aj 50 55 52 true (f_ 7 3),aT 51 56 52 true (l_ 55),aj 52 57 52 true (.bin 3 4 (.t 54) (.t 56)),p_ 53 58 (.pick (.t 52) (.t 57) (.c (.bool false))),p_ 54 59 (m_ 58),aj 55 60 59 true (f_ 8 2),aT 56 61 59 true (l_ 60),aj 57 62 59 true (f_ 8 3),aT 58 63 59 true (l_ 62),fX 59 64 59 true 55 [.t 61,.t 63],p_ 60 65 (.pick (.t 59) (.t 64) (.c (.bool false))),p_ 61 4 (m_ 65)]) .ret)) [(0,[.up 4]),(1,[.up 4])])
theorem GK:bE Tryz.prog 26 CT=true:=by kernel_rfl
structure kF where
 x:ax
 y:ax
structure yz where
 q:Prop
def dN (p:kF) (r:yz):Prop:=r.q↔be p.x=be p.y
noncomputable def oR (p:kF):IE:=([.agg [.sy (.int 0 p.x.kind),.sy (.int 0 p.x.x),.sy (.int 0 p.x.y),.sy (.int 0 p.x.i),.sy (.int 0 p.x.at_),.sy (.int 0 p.x.mode),.sy (.int 3 p.x.mask),.sy (.int 1 p.x.grp),.sy (.imm p.x.hp 5 aB p.x.ps encP)],.agg [.sy (.int 0 p.y.kind),.sy (.int 0 p.y.x),.sy (.int 0 p.y.y),.sy (.int 0 p.y.i),.sy (.int 0 p.y.at_),.sy (.int 0 p.y.mode),.sy (.int 3 p.y.mask),.sy (.int 1 p.y.grp),.sy (.imm p.y.hp 5 aB p.y.ps encP)]],.leaf,0)
noncomputable def sX (p:kF) (K:KE):Bool:=am fun r:yz=>iP (dN p r) (K (.sy (.bool r.q)) .leaf 0) true
def ln (p:kF):Prop:=p.x.ps.length≤1000000∧p.y.ps.length≤1000000
theorem fv {p:kF} {K:KE} (hK:sX p K=true) (r:yz) (h:dN p r):K (.sy (.bool r.q)) .leaf 0=true:=au h (aG hK r)
theorem Nb (p:kF) (K:KE) (hpre:ln p) (hK:sX p K=true):(bW 0 (di vv) cL 600 CT (oR p).1 (oR p).2.1 (oR p).2.2 K)=true:=by
 refine Eq.trans (b:=(let z0:Bool:=(K (.sy (.bool (false=true))) .leaf 0);iP (p.x.kind=p.y.kind) (iP (p.x.x=p.y.x) (iP (p.x.y=p.y.y) (iP (p.x.i=p.y.i) (iP (p.x.at_=p.y.at_) (iP (p.x.mode=p.y.mode) (iP (p.x.mask=p.y.mask) (iP (p.x.grp=p.y.grp) (aM (([.sy (.imm p.x.hp 5 aB p.x.ps encP),.sy (.imm p.y.hp 5 aB p.y.ps encP)],.leaf,0)) pY jW jl fun p1 r1=>K (.sy (.bool r1.q)) .leaf 0) z0) z0) z0) z0) z0) z0) z0) z0)) (by kernel_rfl) ?_
 dsimp only[ln]at hpre
 obtain⟨u1,u2⟩:=hpre
 refine iI (fun hc1=> ?_) (fun hc1=> ?_)
 refine iI (fun hc2=> ?_) (fun hc2=> ?_)
 refine iI (fun hc3=> ?_) (fun hc3=> ?_)
 refine iI (fun hc4=> ?_) (fun hc4=> ?_)
 refine iI (fun hc5=> ?_) (fun hc5=> ?_)
 refine iI (fun hc6=> ?_) (fun hc6=> ?_)
 refine iI (fun hc7=> ?_) (fun hc7=> ?_)
 refine iI (fun hc8=> ?_) (fun hc8=> ?_)
 refine ay (⟨p.x.hp,p.x.ps,p.y.hp,p.y.ps⟩:mz) rfl (by(try dsimp only[jW]);omega) fun r1 hi9=> ?_
 dsimp only[jl]at hi9
 exact fv hK ⟨r1.q⟩ (by dsimp only[dN]<;>(simp only[be,ac9];simp_all))
 exact fv hK ⟨false=true⟩ (by dsimp only[dN]<;>(simp only[be,ac9];simp_all))
 exact fv hK ⟨false=true⟩ (by dsimp only[dN]<;>(simp only[be,ac9];simp_all))
 exact fv hK ⟨false=true⟩ (by dsimp only[dN]<;>(simp only[be,ac9];simp_all))
 exact fv hK ⟨false=true⟩ (by dsimp only[dN]<;>(simp only[be,ac9];simp_all))
 exact fv hK ⟨false=true⟩ (by dsimp only[dN]<;>(simp only[be,ac9];simp_all))
 exact fv hK ⟨false=true⟩ (by dsimp only[dN]<;>(simp only[be,ac9];simp_all))
 exact fv hK ⟨false=true⟩ (by dsimp only[dN]<;>(simp only[be,ac9];simp_all))
 exact fv hK ⟨false=true⟩ (by dsimp only[dN]<;>(simp only[be,ac9];simp_all))
noncomputable def lv:=bt vv 0 (bJ oR (dr ln sX)) 26 [(0,15),(1,15)]
theorem kL:aV Tryz.prog lv:=aR (cY (f:=26) (k:=0) (bj wy) GK (by rfl) (by rfl) Nb) wy
def BP:XC:=(.aft (.seq (.seq (g_ 5 [p_ 0 85 (m_ 6),p_ 1 86 (f_ 0 5),r_ 2 87 (l_ 86),p_ 3 88 (k_ 87),p_ 4 89 (.bin 3 0 (.t 85) (.t 88))]) (.cond (.t 89) .skip (.exit 2))) (.seq (.block 3 (.seq (g_ 8 [p_ 0 92 (f_ 0 3),p_ 1 93 (f_ 0 92),r_ 2 94 (l_ 93),p_ 3 95 (m_ 6),p_ 4 96 (.ixs 3 (.t 94) (.t 95)),r_ 5 97 (.ld true 3 (.t 96)),e_ 6 7 (.al 69 [.int 0 (.ofNat 0),.int 0 (.ofNat 0),.bool false]),bl 7 (.st 3 (.t 7) (.t 97))]) (.seq (h_ 13 [p_ 0 98 (f_ 0 5),r_ 1 99 (l_ 98),p_ 2 100 (m_ 6),p_ 3 101 (.ixs 3 (.t 99) (.t 100)),r_ 4 102 (.ld true 3 (.t 101)),p_ 5 103 (f_ 0 7),r_ 6 104 (l_ 103),p_ 7 105 (f_ 1 7),r_ 8 106 (l_ 105),p_ 9 107 (f_ 2 7),r_ 10 108 (l_ 107),p_ 11 109 (.bld [.int 0 (.ofNat 0),.int 0 (.ofNat 0),.bool false] [(0,1),(1,1),(2,1)] [.t 104,.t 106,.t 108]),p_ 12 110 (.eqs true 2 (.st [(0,1,false,.int),(1,1,false,.int),(2,1,false,.bool)]) (.t 102) (.t 109))]) (.cond (.t 110) (.seq (g_ 1 [p_ 0 4 (.mv (.c (.bool false)))]) .ret) .skip)))) (g_ 3 [p_ 0 90 (m_ 6),p_ 1 91 (.bin 0 0 (.t 90) (i_ 1)),p_ 2 6 (m_ 91)]))) [(0,[.can 0 [2,3,5,6]]),(1,[.can 0 [4]]),(2,[.can 0 [2,3]])])
def BO:XC:=(.aft (.seq (.seq (g_ 5 [p_ 0 111 (m_ 8),p_ 1 112 (f_ 8 2),r_ 2 113 (l_ 112),p_ 3 114 (k_ 113),p_ 4 115 (.bin 3 0 (.t 111) (.t 114))]) (.cond (.t 115) .skip (.exit 4))) (.seq (.block 5 (.seq (g_ 7 [p_ 0 118 (f_ 8 2),r_ 1 119 (l_ 118),p_ 2 120 (m_ 8),p_ 3 121 (.ixs 9 (.t 119) (.t 120)),r_ 4 122 (.ld true 9 (.t 121)),e_ 5 9 (.al 54 [.int 0 (.ofNat 0),.int 0 (.ofNat 0),.int 0 (.ofNat 0),.int 0 (.ofNat 0),.int 0 (.ofNat 0),.int 0 (.ofNat 0),.int 3 (.ofNat 0),.int 1 (.ofNat 0),.nilS]),bl 6 (.st 9 (.t 9) (.t 122))]) (.seq (h_ 27 [p_ 0 123 (f_ 0 9),r_ 1 124 (l_ 123),p_ 2 125 (f_ 1 9),r_ 3 126 (l_ 125),p_ 4 127 (f_ 2 9),r_ 5 128 (l_ 127),p_ 6 129 (f_ 3 9),r_ 7 130 (l_ 129),p_ 8 131 (f_ 4 9),r_ 9 132 (l_ 131),p_ 10 133 (f_ 5 9),r_ 11 134 (l_ 133),p_ 12 135 (f_ 6 9),r_ 13 136 (l_ 135),p_ 14 137 (f_ 7 9),r_ 15 138 (l_ 137),p_ 16 139 (f_ 8 9),r_ 17 140 (l_ 139),p_ 20 143 (f_ 8 3),r_ 21 144 (l_ 143),p_ 22 145 (m_ 8),p_ 23 146 (.ixs 9 (.t 144) (.t 145)),r_ 24 147 (.ld true 9 (.t 146)),c_ 18 141 27 [.t 140],a_ 1 124 (l_ 123),a_ 3 126 (l_ 125),a_ 5 128 (l_ 127),a_ 7 130 (l_ 129),a_ 9 132 (l_ 131),a_ 11 134 (l_ 133),a_ 13 136 (l_ 135),a_ 15 138 (l_ 137),a_ 21 144 (l_ 143),a_ 24 147 (.ld true 9 (.t 146)),p_ 19 142 (.bld [.int 0 (.ofNat 0),.int 0 (.ofNat 0),.int 0 (.ofNat 0),.int 0 (.ofNat 0),.int 0 (.ofNat 0),.int 0 (.ofNat 0),.int 3 (.ofNat 0),.int 1 (.ofNat 0),.nilS] [(0,1),(1,1),(2,1),(3,1),(4,1),(5,1),(6,1),(7,1),(8,1)] [.t 124,.t 126,.t 128,.t 130,.t 132,.t 134,.t 136,.t 138,.t 141]),c_ 25 148 26 [.t 142,.t 147],p_ 26 149 (.un 0 (.t 148))]) (.cond (.t 149) (.seq (g_ 1 [p_ 0 4 (.mv (.c (.bool false)))]) .ret) .skip)))) (g_ 3 [p_ 0 116 (m_ 8),p_ 1 117 (.bin 0 0 (.t 116) (i_ 1)),p_ 2 8 (m_ 117)]))) [(0,[.can 0 [2,3,8]]),(1,[.can 0 [4]]),(4,[.can 0 []])])
def JB:XF:=.mk 150 (.one 4) (.aft (.seq (g_ 3 [e_ 0 2 (.box 29 (.t 0)),e_ 1 3 (.box 37 (.t 1)),p_ 2 4 (.mv (.c (.bool false)))]) (.seq (g_ 4 [p_ 0 10 (f_ 0 2),r_ 1 11 (.ld true 8 (.t 10)),e_ 2 5 (.al 26 [.nilS,.int 0 (.ofNat 0),.int 0 (.ofNat 0),.int 0 (.ofNat 0),.int 0 (.ofNat 0),.int 0 (.ofNat 0),.int 0 (.ofNat 0),.int 4 (.ofNat 0)]),bl 3 (.st 8 (.t 5) (.t 11))]) (.seq (.seq (g_ 73 [p_ 0 12 (f_ 8 2),r_ 1 13 (l_ 12),p_ 2 14 (k_ 13),p_ 3 15 (f_ 8 3),r_ 4 16 (l_ 15),p_ 5 17 (k_ 16),p_ 6 18 (.bin 3 5 (.t 14) (.t 17)),p_ 7 19 (m_ 18),aj 8 20 19 false (f_ 0 5),aT 9 21 19 false (l_ 20),aj 10 22 19 false (k_ 21),aj 11 23 19 false (f_ 0 3),aj 12 24 19 false (f_ 0 23),aT 13 25 19 false (l_ 24),aj 14 26 19 false (k_ 25),aj 15 27 19 false (.bin 3 5 (.t 22) (.t 26)),p_ 16 28 (.pick (.t 19) (.c (.bool true)) (.t 27)),p_ 17 29 (m_ 28),aj 18 30 29 false (f_ 1 5),aT 19 31 29 false (l_ 30),aj 20 32 29 false (f_ 0 3),aj 21 33 29 false (f_ 1 32),aT 22 34 29 false (l_ 33),aj 23 35 29 false (.bin 3 5 (.t 31) (.t 34)),p_ 24 36 (.pick (.t 29) (.c (.bool true)) (.t 35)),p_ 25 37 (m_ 36),aj 26 38 37 false (f_ 2 5),aT 27 39 37 false (l_ 38),aj 28 40 37 false (f_ 0 3),aj 29 41 37 false (f_ 2 40),aT 30 42 37 false (l_ 41),aj 31 43 37 false (.bin 3 5 (.t 39) (.t 42)),p_ 32 44 (.pick (.t 37) (.c (.bool true)) (.t 43)),p_ 33 45 (m_ 44),aj 34 46 45 false (f_ 3 5),aT 35 47 45 false (l_ 46),aj 36 48 45 false (f_ 0 3),aj 37 49 45 false (f_ 3 48),aT 38 50 45 false (l_ 49),aj 39 51 45 false (.bin 3 5 (.t 47) (.t 50)),p_ 40 52 (.pick (.t 45) (.c (.bool true)) (.t 51)),p_ 41 53 (m_ 52),aj 42 54 53 false (f_ 4 5),aT 43 55 53 false (l_ 54),aj 44 56 53 false (f_ 0 3),aj 45 57 53 false (f_ 4 56),aT 46 58 53 false (l_ 57),aj 47 59 53 false (.bin 3 5 (.t 55) (.t 58)),p_ 48 60 (.pick (.t 53) (.c (.bool true)) (.t 59)),p_ 49 61 (m_ 60),aj 50 62 61 false (f_ 5 5),aT 51 63 61 false (l_ 62),aj 52 64 61 false (f_ 0 3),aj 53 65 61 false (f_ 5 64),aT 54 66 61 false (l_ 65),aj 55 67 61 false (.bin 3 5 (.t 63) (.t 66)),p_ 56 68 (.pick (.t 61) (.c (.bool true)) (.t 67)),p_ 57 69 (m_ 68),aj 58 70 69 false (f_ 6 5),aT 59 71 69 false (l_ 70),aj 60 72 69 false (f_ 0 3),aj 61 73 69 false (f_ 6 72),aT 62 74 69 false (l_ 73),aj 63 75 69 false (.bin 3 5 (.t 71) (.t 74)),p_ 64 76 (.pick (.t 69) (.c (.bool true)) (.t 75)),p_ 65 77 (m_ 76),aj 66 78 77 false (f_ 7 5),aT 67 79 77 false (l_ 78),aj 68 80 77 false (f_ 0 3),aj 69 81 77 false (f_ 7 80),aT 70 82 77 false (l_ 81),aj 71 83 77 false (.bin 3 5 (.t 79) (.t 82)),p_ 72 84 (.pick (.t 77) (.c (.bool true)) (.t 83))]) (.cond (.t 84) (.seq (g_ 1 [p_ 0 4 (.mv (.c (.bool false)))]) .ret) .skip)) (.seq (.seq (g_ 1 [p_ 0 6 (.mv (i_ 0))]) (.block 2 (.pre [.can 0 [2,3,5,6],.up 6,.can 0 [2,3,5,6]] (.inv 0 BP)))) (.seq (.seq (g_ 1 [p_ 0 8 (.mv (i_ 0))]) (.block 4 (.pre [.can 0 [2,3,8],.up 8,.can 0 [2,3,8]] (.inv 1 BO)))) (.seq (g_ 1 [p_ 0 4 (.mv (.c (.bool true)))]) .ret)))))) [(0,[.up 4]),(1,[.up 4])])
theorem Lm:bE Tryz.prog 8 JB=true:=by kernel_rfl
structure gE where
 a:bN
 b:bN
 i:Int
def HP (p:gE):Prop:=p.a.gs=p.b.gs
def Fv (p:gE):Prop:=¬p.a.gs=p.b.gs
noncomputable def kV (p:gE):IL:=((.cons 6 (.sy (.int 0 p.i)) (.cons 5 (.ptr 2 0) (.cons 3 (.ptr 1 0) (.cons 2 (.ptr 0 0) .nil)))),(.node (.node .leaf (some (.blk false 37 9 [[.sy (.imm p.b.hg 3 aw p.b.gs aD),.sy (.int 0 p.b.clients),.sy (.int 0 p.b.window),.sy (.int 0 p.b.deadline),.sy (.int 0 p.b.pace),.sy (.int 0 p.b.again),.sy (.int 0 p.b.bag),.sy (.int 4 p.b.first),.sy (.imm p.b.ho 9 ax p.b.os aI)]])) .leaf) (some (.blk false 29 9 [[.sy (.imm p.a.hg 3 aw p.a.gs aD),.sy (.int 0 p.a.clients),.sy (.int 0 p.a.window),.sy (.int 0 p.a.deadline),.sy (.int 0 p.a.pace),.sy (.int 0 p.a.again),.sy (.int 0 p.a.bag),.sy (.int 4 p.a.first),.sy (.imm p.a.ho 9 ax p.a.os aI)]])) (.node .leaf (some (.blk false 26 8 [[.sy (.imm p.a.hg 3 aw p.a.gs aD),.sy (.int 0 p.a.clients),.sy (.int 0 p.a.window),.sy (.int 0 p.a.deadline),.sy (.int 0 p.a.pace),.sy (.int 0 p.a.again),.sy (.int 0 p.a.bag),.sy (.int 4 p.a.first)]])) .leaf)),3)
noncomputable def xt (p:gE) (K:KC):Bool:=ac (iP (HP p) (K 2 (.cons 3 (.ptr 1 0) (.cons 2 (.ptr 0 0) .nil)) (.node (.node .leaf (some (.blk false 37 9 [[.sy (.imm p.b.hg 3 aw p.b.gs aD),.sy (.int 0 p.b.clients),.sy (.int 0 p.b.window),.sy (.int 0 p.b.deadline),.sy (.int 0 p.b.pace),.sy (.int 0 p.b.again),.sy (.int 0 p.b.bag),.sy (.int 4 p.b.first),.sy (.imm p.b.ho 9 ax p.b.os aI)]])) .leaf) (some (.blk false 29 9 [[.sy (.imm p.a.hg 3 aw p.a.gs aD),.sy (.int 0 p.a.clients),.sy (.int 0 p.a.window),.sy (.int 0 p.a.deadline),.sy (.int 0 p.a.pace),.sy (.int 0 p.a.again),.sy (.int 0 p.a.bag),.sy (.int 4 p.a.first),.sy (.imm p.a.ho 9 ax p.a.os aI)]])) .leaf) 2) true) (iP (Fv p) (K 1 (.cons 4 (.bool false) .nil) .leaf 0) true)
def kc (p:gE):Prop:=p.a.gs.length=p.b.gs.length∧0≤p.i∧p.i≤(p.a.gs.length:Int)∧p.a.gs.length≤10∧(p.a.gs.take p.i.toNat).map id=(p.b.gs.take p.i.toNat).map id
noncomputable def uF (p:gE) (K:KC):Bool:=ac (aC (kc p)) (xt p K)
structure gD where
 a:bN
 b:bN
 i:Int
def HO (p:gD):Prop:=p.a.os.map be=p.b.os.map be
def Fu (p:gD):Prop:=¬p.a.os.map be=p.b.os.map be
noncomputable def kU (p:gD):IL:=((.cons 8 (.sy (.int 0 p.i)) (.cons 3 (.ptr 1 0) (.cons 2 (.ptr 0 0) .nil))),(.node (.node .leaf (some (.blk false 37 9 [[.sy (.imm p.b.hg 3 aw p.b.gs aD),.sy (.int 0 p.b.clients),.sy (.int 0 p.b.window),.sy (.int 0 p.b.deadline),.sy (.int 0 p.b.pace),.sy (.int 0 p.b.again),.sy (.int 0 p.b.bag),.sy (.int 4 p.b.first),.sy (.imm p.b.ho 9 ax p.b.os aI)]])) .leaf) (some (.blk false 29 9 [[.sy (.imm p.a.hg 3 aw p.a.gs aD),.sy (.int 0 p.a.clients),.sy (.int 0 p.a.window),.sy (.int 0 p.a.deadline),.sy (.int 0 p.a.pace),.sy (.int 0 p.a.again),.sy (.int 0 p.a.bag),.sy (.int 4 p.a.first),.sy (.imm p.a.ho 9 ax p.a.os aI)]])) .leaf),2)
noncomputable def xr (p:gD) (K:KC):Bool:=ac (iP (HO p) (K 4 .nil .leaf 0) true) (iP (Fu p) (K 1 (.cons 4 (.bool false) .nil) .leaf 0) true)
def ka (p:gD):Prop:=p.a.os.length=p.b.os.length∧0≤p.i∧p.i≤(p.a.os.length:Int)∧gT p.a.os∧gT p.b.os∧(p.a.os.take p.i.toNat).map be=(p.b.os.take p.i.toNat).map be
noncomputable def uE (p:gD) (K:KC):Bool:=ac (aC (ka p)) (xr p K)
noncomputable def nF:fE:=fun j S M nx K=>(Bool.rec ((Bool.rec (false) (aF fun p:gD=>ac (aC ((S,M,nx)=kU p)) (uE p K)) (Nat.beq j 1))) (aF fun p:gE=>ac (aC ((S,M,nx)=kV p)) (uF p K)) (Nat.beq j 0))
def iE (p:gE):Nat:=((p.a.gs.length:Int) - p.i).toNat
noncomputable def BS (s:IL) (n:Nat) (K:KC):Bool:=aF fun q=>mP (s=kV q∧iE q<n) (uF q K)
theorem Kl {p q:gE} {K:KC} {s:IL} (hm:iE q<iE p:=by dsimp only[iE]<;>(omega)) (hp:kc q:=by dsimp only[kc]<;>(refine⟨g0,by omega,by omega,g3,lS (by omega) g4 hi3 hi2 ?_⟩;show x2=x1;obtain⟨⟩:=x1;obtain⟨⟩:=x2;simp_all)) (hK:xt q K=true:=by exact hK) (e:s=kV q:=by rfl):BS s (iE p) K=true:=aK q (ba ⟨e,hm⟩ (ba hp hK))
theorem Sc (p:gE) (K:KC) (hpre:kc p) (hK:xt p K=true):(cO (di lv) nF 600 BP (kV p).1 (kV p).2.1 (kV p).2.2 (fun e S M nx=>Nat.casesOn e (aF fun q:gE=>ac (aC ((S,M,nx)=kV q∧iE q<iE p)) (uF q K)) (fun e2=>K (Nat.succ e2) S M nx)))=true:=by
 refine Eq.trans (b:=(let z1:Bool:=(K 1 (.cons 4 (.bool false) .nil) .leaf 0);iP (p.i<(p.a.gs.length:Int)) (mP (0≤p.i∧p.i<(p.b.gs.length:Int)) (am fun x1:aw=>iP (p.b.gs[p.i.toNat]?=some x1) (mP (0≤p.i∧p.i<(p.a.gs.length:Int)) (am fun x2:aw=>iP (p.a.gs[p.i.toNat]?=some x2) (iP (x2.f=x1.f) (iP (x2.s=x1.s) (iP (x2.c) (iP (x1.c) (mP (bp 0 (p.i+(1:Int))) (BS ((.cons 6 (.sy (.int 0 (p.i+(1:Int)))) (.cons 5 (.ptr 2 0) (.cons 3 (.ptr 1 0) (.cons 2 (.ptr 0 0) .nil)))),(.node (.node .leaf (some (.blk false 37 9 [[.sy (.imm p.b.hg 3 aw p.b.gs aD),.sy (.int 0 p.b.clients),.sy (.int 0 p.b.window),.sy (.int 0 p.b.deadline),.sy (.int 0 p.b.pace),.sy (.int 0 p.b.again),.sy (.int 0 p.b.bag),.sy (.int 4 p.b.first),.sy (.imm p.b.ho 9 ax p.b.os aI)]])) .leaf) (some (.blk false 29 9 [[.sy (.imm p.a.hg 3 aw p.a.gs aD),.sy (.int 0 p.a.clients),.sy (.int 0 p.a.window),.sy (.int 0 p.a.deadline),.sy (.int 0 p.a.pace),.sy (.int 0 p.a.again),.sy (.int 0 p.a.bag),.sy (.int 4 p.a.first),.sy (.imm p.a.ho 9 ax p.a.os aI)]])) (.node .leaf (some (.blk false 26 8 [[.sy (.imm p.a.hg 3 aw p.a.gs aD),.sy (.int 0 p.a.clients),.sy (.int 0 p.a.window),.sy (.int 0 p.a.deadline),.sy (.int 0 p.a.pace),.sy (.int 0 p.a.again),.sy (.int 0 p.a.bag),.sy (.int 4 p.a.first)]])) .leaf)),3) (iE p) K)) z1) (iP (x1.c) z1 (mP (bp 0 (p.i+(1:Int))) (BS ((.cons 6 (.sy (.int 0 (p.i+(1:Int)))) (.cons 5 (.ptr 2 0) (.cons 3 (.ptr 1 0) (.cons 2 (.ptr 0 0) .nil)))),(.node (.node .leaf (some (.blk false 37 9 [[.sy (.imm p.b.hg 3 aw p.b.gs aD),.sy (.int 0 p.b.clients),.sy (.int 0 p.b.window),.sy (.int 0 p.b.deadline),.sy (.int 0 p.b.pace),.sy (.int 0 p.b.again),.sy (.int 0 p.b.bag),.sy (.int 4 p.b.first),.sy (.imm p.b.ho 9 ax p.b.os aI)]])) .leaf) (some (.blk false 29 9 [[.sy (.imm p.a.hg 3 aw p.a.gs aD),.sy (.int 0 p.a.clients),.sy (.int 0 p.a.window),.sy (.int 0 p.a.deadline),.sy (.int 0 p.a.pace),.sy (.int 0 p.a.again),.sy (.int 0 p.a.bag),.sy (.int 4 p.a.first),.sy (.imm p.a.ho 9 ax p.a.os aI)]])) (.node .leaf (some (.blk false 26 8 [[.sy (.imm p.a.hg 3 aw p.a.gs aD),.sy (.int 0 p.a.clients),.sy (.int 0 p.a.window),.sy (.int 0 p.a.deadline),.sy (.int 0 p.a.pace),.sy (.int 0 p.a.again),.sy (.int 0 p.a.bag),.sy (.int 4 p.a.first)]])) .leaf)),3) (iE p) K)))) z1) z1) true)) true)) (K 2 (.cons 3 (.ptr 1 0) (.cons 2 (.ptr 0 0) .nil)) (.node (.node .leaf (some (.blk false 37 9 [[.sy (.imm p.b.hg 3 aw p.b.gs aD),.sy (.int 0 p.b.clients),.sy (.int 0 p.b.window),.sy (.int 0 p.b.deadline),.sy (.int 0 p.b.pace),.sy (.int 0 p.b.again),.sy (.int 0 p.b.bag),.sy (.int 4 p.b.first),.sy (.imm p.b.ho 9 ax p.b.os aI)]])) .leaf) (some (.blk false 29 9 [[.sy (.imm p.a.hg 3 aw p.a.gs aD),.sy (.int 0 p.a.clients),.sy (.int 0 p.a.window),.sy (.int 0 p.a.deadline),.sy (.int 0 p.a.pace),.sy (.int 0 p.a.again),.sy (.int 0 p.a.bag),.sy (.int 4 p.a.first),.sy (.imm p.a.ho 9 ax p.a.os aI)]])) .leaf) 2))) (by kernel_rfl) ?_
 obtain⟨hK0,hKr0⟩:=ai hK
 have hK1:=hKr0
 dsimp only[kc]at hpre
 obtain⟨g0,g1,g2,g3,g4⟩:=hpre
 refine iI (fun hc1=> ?_) (fun hc1=> ?_)
 refine er ?_
 refine az (fun x1=> ?_)
 refine iI (fun hi2=> ?_) (fun _=>rfl)
 refine er ?_
 refine az (fun x2=> ?_)
 refine iI (fun hi3=> ?_) (fun _=>rfl)
 refine iI (fun hc4=> ?_) (fun hc4=> ?_)
 refine iI (fun hc5=> ?_) (fun hc5=> ?_)
 refine iI (fun hc6=> ?_) (fun hc6=> ?_)
 refine iI (fun hc7=> ?_) (fun hc7=> ?_)
 refine bG ?_
 exact Kl (q:=⟨p.a,p.b,p.i+(1:Int)⟩)
 exact au (show¬p.a.gs=p.b.gs from(by intro e;rw[e]at hi3;have e2:=acY (hi3.symm.trans hi2);subst e2;first|contradiction|omega|simp_all)) hK1
 refine iI (fun hc8=> ?_) (fun hc8=> ?_)
 exact au (show¬p.a.gs=p.b.gs from(by intro e;rw[e]at hi3;have e2:=acY (hi3.symm.trans hi2);subst e2;first|contradiction|omega|simp_all)) hK1
 refine bG ?_
 exact Kl (q:=⟨p.a,p.b,p.i+(1:Int)⟩)
 exact au (show¬p.a.gs=p.b.gs from(by intro e;rw[e]at hi3;have e2:=acY (hi3.symm.trans hi2);subst e2;first|contradiction|omega|simp_all)) hK1
 exact au (show¬p.a.gs=p.b.gs from(by intro e;rw[e]at hi3;have e2:=acY (hi3.symm.trans hi2);subst e2;first|contradiction|omega|simp_all)) hK1
 exact au (show p.a.gs=p.b.gs from(by have e:=nn g4 (by omega) (by omega);simpa using e)) hK0
theorem Tn:dI Tryz.prog 150 0 nF true 0 BP:=by
 exact eM (lf:=600) bm (bj kL) (by rfl) kV iE uF (fun b j x h=>by cases h) (fun S M nx K h=>by obtain⟨p,h⟩:=bL h;exact⟨p,(aa h).1,(aa h).2⟩) (fun p K h=>Sc p K (aa h).1 (aa h).2)
def jr (p:gD):Nat:=((p.a.os.length:Int) - p.i).toNat
noncomputable def Kq (s:IL) (n:Nat) (K:KC):Bool:=aF fun q=>mP (s=kU q∧jr q<n) (uE q K)
theorem TW {p q:gD} {K:KC} {s:IL} (hm:jr q<jr p:=by dsimp only[jr]<;>(omega)) (hp:ka q:=by dsimp only[ka]<;>(refine⟨g0,by omega,by omega,g3,g4,lS (by omega) g5 hi2 hi3 (by have e:=hi5.1 (Classical.not_not.1 (by assumption));rw[←e];simp only[be,hi4])⟩)) (hK:xr q K=true:=by exact hK) (e:s=kU q:=by rfl):Kq s (jr p) K=true:=aK q (ba ⟨e,hm⟩ (ba hp hK))
theorem Sb (p:gD) (K:KC) (hpre:ka p) (hK:xr p K=true):(cO (di lv) nF 600 BO (kU p).1 (kU p).2.1 (kU p).2.2 (fun e S M nx=>Nat.casesOn e (aF fun q:gD=>ac (aC ((S,M,nx)=kU q∧jr q<jr p)) (uE q K)) (fun e2=>K (Nat.succ e2) S M nx)))=true:=by
 refine Eq.trans (b:=(iP (p.i<(p.a.os.length:Int)) (mP (0≤p.i∧p.i<(p.a.os.length:Int)) (am fun x1:ax=>iP (p.a.os[p.i.toNat]?=some x1) (mP (0≤p.i∧p.i<(p.b.os.length:Int)) (am fun x2:ax=>iP (p.b.os[p.i.toNat]?=some x2) (aM (([.sy (.imm x1.hp 5 aB x1.ps encP)],.leaf,0)) rq mH oE fun p1 r1=>mP (((.int 0 x1.kind):SY)=(.int 0 x1.kind)) (mP (((.int 0 x1.x):SY)=(.int 0 x1.x)) (mP (((.int 0 x1.y):SY)=(.int 0 x1.y)) (mP (((.int 0 x1.i):SY)=(.int 0 x1.i)) (mP (((.int 0 x1.at_):SY)=(.int 0 x1.at_)) (mP (((.int 0 x1.mode):SY)=(.int 0 x1.mode)) (mP (((.int 3 x1.mask):SY)=(.int 3 x1.mask)) (mP (((.int 1 x1.grp):SY)=(.int 1 x1.grp)) (mP (((.imm p.b.ho 9 ax p.b.os aI):SY)=(.imm p.b.ho 9 ax p.b.os aI)) (ac (qL [qI 0 x2.kind,qI 0 x2.x,qI 0 x2.y,qI 0 x2.i,qI 0 x2.at_,qI 0 x2.mode,qI 3 x2.mask,qI 1 x2.grp,qY ((.imm x2.hp 5 aB x2.ps encP))]) (aM (([.agg [.sy (.int 0 x1.kind),.sy (.int 0 x1.x),.sy (.int 0 x1.y),.sy (.int 0 x1.i),.sy (.int 0 x1.at_),.sy (.int 0 x1.mode),.sy (.int 3 x1.mask),.sy (.int 1 x1.grp),.sy (.imm r1.h 5 aB r1.o encP)],.agg [.sy (.int 0 x2.kind),.sy (.int 0 x2.x),.sy (.int 0 x2.y),.sy (.int 0 x2.i),.sy (.int 0 x2.at_),.sy (.int 0 x2.mode),.sy (.int 3 x2.mask),.sy (.int 1 x2.grp),.sy (.imm x2.hp 5 aB x2.ps encP)]],.leaf,0)) oR ln dN fun p2 r2=>iP (¬r2.q) (K 1 (.cons 4 (.bool false) .nil) .leaf 0) (mP (bp 0 (p.i+(1:Int))) (Kq ((.cons 8 (.sy (.int 0 (p.i+(1:Int)))) (.cons 3 (.ptr 1 0) (.cons 2 (.ptr 0 0) .nil))),(.node (.node .leaf (some (.blk false 37 9 [[.sy (.imm p.b.hg 3 aw p.b.gs aD),.sy (.int 0 p.b.clients),.sy (.int 0 p.b.window),.sy (.int 0 p.b.deadline),.sy (.int 0 p.b.pace),.sy (.int 0 p.b.again),.sy (.int 0 p.b.bag),.sy (.int 4 p.b.first),.sy (.imm p.b.ho 9 ax p.b.os aI)]])) .leaf) (some (.blk false 29 9 [[.sy (.imm p.a.hg 3 aw p.a.gs aD),.sy (.int 0 p.a.clients),.sy (.int 0 p.a.window),.sy (.int 0 p.a.deadline),.sy (.int 0 p.a.pace),.sy (.int 0 p.a.again),.sy (.int 0 p.a.bag),.sy (.int 4 p.a.first),.sy (.imm p.a.ho 9 ax p.a.os aI)]])) .leaf),2) (jr p) K))))))))))))) true)) true)) (K 4 .nil .leaf 0))) (by kernel_rfl) ?_
 obtain⟨hK0,hKr0⟩:=ai hK
 have hK1:=hKr0
 dsimp only[ka]at hpre
 obtain⟨g0,g1,g2,g3,g4,g5⟩:=hpre
 have g8:=g3.1
 refine iI (fun hc1=> ?_) (fun hc1=> ?_)
 refine er ?_
 refine az (fun x1=> ?_)
 refine iI (fun hi2=> ?_) (fun _=>rfl)
 first|have hm_x1:=g3.2 _ x1 (by assumption)|have hm_x1:=g4.2 _ x1 (by assumption)
 refine er ?_
 refine az (fun x2=> ?_)
 refine iI (fun hi3=> ?_) (fun _=>rfl)
 first|have hm_x2:=g3.2 _ x2 (by assumption)|have hm_x2:=g4.2 _ x2 (by assumption)
 refine ay (⟨x1.hp,x1.ps⟩:lN) rfl (by(try dsimp only[mH]);omega) fun r1 hi4=> ?_
 dsimp only[oE]at hi4
 refine aL (aL (aL (aL (aL (aL (aL (aL (aL ?_))))))))
 refine aE (by simp[qL,qI,qS,qY,aC]) ?_
 refine ay (⟨({x1 with hp:=r1.h,ps:=r1.o}:ax),x2⟩:kF) rfl (by(try dsimp only[ln]);refine⟨?_,?_⟩<;>first|omega|(rw[hi4];omega)) fun r2 hi5=> ?_
 dsimp only[dN]at hi5
 refine iI (fun hc6=> ?_) (fun hc6=> ?_)
 exact au (show¬p.a.os.map be=p.b.os.map be from(by exact LH hi2 hi3 (fun e=>absurd (hi5.2 (by rw[←e];simp only[be,hi4])) (by assumption)))) hK1
 refine bG ?_
 exact TW (q:=⟨p.a,p.b,p.i+(1:Int)⟩)
 exact au (show p.a.os.map be=p.b.os.map be from(by exact nn g5 (by omega) (by omega))) hK0
theorem Tm:dI Tryz.prog 150 0 nF true 1 BO:=by
 exact eM (lf:=600) bm (bj kL) (by rfl) kU jr uE (fun b j x h=>by cases h) (fun S M nx K h=>by obtain⟨p,h⟩:=bL h;exact⟨p,(aa h).1,(aa h).2⟩) (fun p K h=>Sb p K (aa h).1 (aa h).2)
structure qb where
 a:bN
 b:bN
structure Ff where
 q:Prop
def eK (p:qb) (r:Ff):Prop:=r.q↔dX p.a=dX p.b
noncomputable def zK (p:qb):IE:=([.agg [.sy (.imm p.a.hg 3 aw p.a.gs aD),.sy (.int 0 p.a.clients),.sy (.int 0 p.a.window),.sy (.int 0 p.a.deadline),.sy (.int 0 p.a.pace),.sy (.int 0 p.a.again),.sy (.int 0 p.a.bag),.sy (.int 4 p.a.first),.sy (.imm p.a.ho 9 ax p.a.os aI)],.agg [.sy (.imm p.b.hg 3 aw p.b.gs aD),.sy (.int 0 p.b.clients),.sy (.int 0 p.b.window),.sy (.int 0 p.b.deadline),.sy (.int 0 p.b.pace),.sy (.int 0 p.b.again),.sy (.int 0 p.b.bag),.sy (.int 4 p.b.first),.sy (.imm p.b.ho 9 ax p.b.os aI)]],.leaf,0)
noncomputable def xp (p:qb) (K:KE):Bool:=am fun r:Ff=>iP (eK p r) (K (.sy (.bool r.q)) .leaf 0) true
def wP (p:qb):Prop:=gT p.a.os∧gT p.b.os∧p.a.gs.length≤10∧p.b.gs.length≤10
theorem fe {p:qb} {K:KE} (hK:xp p K=true) (r:Ff) (h:eK p r):K (.sy (.bool r.q)) .leaf 0=true:=au h (aG hK r)
theorem RT (p:qb) (K:KE) (hpre:wP p) (hK:xp p K=true):(bW 0 (di lv) nF 600 JB (zK p).1 (zK p).2.1 (zK p).2.2 K)=true:=by
 refine Eq.trans (b:=(let z0:Bool:=(K (.sy (.bool (false=true))) .leaf 0);iP (¬(p.a.os.length:Int)=(p.b.os.length:Int)) z0 (iP (¬(p.a.gs.length:Int)=(p.b.gs.length:Int)) z0 (iP (¬p.a.clients=p.b.clients) z0 (iP (¬p.a.window=p.b.window) z0 (iP (¬p.a.deadline=p.b.deadline) z0 (iP (¬p.a.pace=p.b.pace) z0 (iP (¬p.a.again=p.b.again) z0 (iP (¬p.a.bag=p.b.bag) z0 (iP (¬p.a.first=p.b.first) z0 (aF fun p1:gE=>mP (((.cons 6 (.sy (.int 0 0)) (.cons 5 (.ptr 2 0) (.cons 3 (.ptr 1 0) (.cons 2 (.ptr 0 0) .nil)))),(.node (.node .leaf (some (.blk false 37 9 [[.sy (.imm p.b.hg 3 aw p.b.gs aD),.sy (.int 0 p.b.clients),.sy (.int 0 p.b.window),.sy (.int 0 p.b.deadline),.sy (.int 0 p.b.pace),.sy (.int 0 p.b.again),.sy (.int 0 p.b.bag),.sy (.int 4 p.b.first),.sy (.imm p.b.ho 9 ax p.b.os aI)]])) .leaf) (some (.blk false 29 9 [[.sy (.imm p.a.hg 3 aw p.a.gs aD),.sy (.int 0 p.a.clients),.sy (.int 0 p.a.window),.sy (.int 0 p.a.deadline),.sy (.int 0 p.a.pace),.sy (.int 0 p.a.again),.sy (.int 0 p.a.bag),.sy (.int 4 p.a.first),.sy (.imm p.a.ho 9 ax p.a.os aI)]])) (.node .leaf (some (.blk false 26 8 [[.sy (.imm p.a.hg 3 aw p.a.gs aD),.sy (.int 0 p.a.clients),.sy (.int 0 p.a.window),.sy (.int 0 p.a.deadline),.sy (.int 0 p.a.pace),.sy (.int 0 p.a.again),.sy (.int 0 p.a.bag),.sy (.int 4 p.a.first)]])) .leaf)),3)=kV p1) (mP (kc p1) (ac (iP (HP p1) (aF fun p2:gD=>mP (((.cons 8 (.sy (.int 0 0)) (.cons 3 (.ptr 1 0) (.cons 2 (.ptr 0 0) .nil))),(.node (.node .leaf (some (.blk false 37 9 [[.sy (.imm p1.b.hg 3 aw p1.b.gs aD),.sy (.int 0 p1.b.clients),.sy (.int 0 p1.b.window),.sy (.int 0 p1.b.deadline),.sy (.int 0 p1.b.pace),.sy (.int 0 p1.b.again),.sy (.int 0 p1.b.bag),.sy (.int 4 p1.b.first),.sy (.imm p1.b.ho 9 ax p1.b.os aI)]])) .leaf) (some (.blk false 29 9 [[.sy (.imm p1.a.hg 3 aw p1.a.gs aD),.sy (.int 0 p1.a.clients),.sy (.int 0 p1.a.window),.sy (.int 0 p1.a.deadline),.sy (.int 0 p1.a.pace),.sy (.int 0 p1.a.again),.sy (.int 0 p1.a.bag),.sy (.int 4 p1.a.first),.sy (.imm p1.a.ho 9 ax p1.a.os aI)]])) .leaf),2)=kU p2) (mP (ka p2) (ac (iP (HO p2) (K (.sy (.bool (true=true))) .leaf 0) true) (iP (Fu p2) z0 true)))) true) (iP (Fv p1) z0 true)))))))))))))) (by kernel_rfl) ?_
 dsimp only[wP]at hpre
 obtain⟨u1,u2,u3,u4⟩:=hpre
 refine iI (fun hc1=> ?_) (fun hc1=> ?_)
 exact fe hK ⟨false=true⟩ (by dsimp only[eK]<;>(simp only[dX,ac9];first|(simp_all;done)|(refine Iff.intro (fun h=>(by cases h)) (fun h=> ?_);exfalso;have e1:=congrArg List.length h.1;have e2:=congrArg List.length h.2.2.2;simp only[acC]at e2;omega)))
 refine iI (fun hc2=> ?_) (fun hc2=> ?_)
 exact fe hK ⟨false=true⟩ (by dsimp only[eK]<;>(simp only[dX,ac9];first|(simp_all;done)|(refine Iff.intro (fun h=>(by cases h)) (fun h=> ?_);exfalso;have e1:=congrArg List.length h.1;have e2:=congrArg List.length h.2.2.2;simp only[acC]at e2;omega)))
 refine iI (fun hc3=> ?_) (fun hc3=> ?_)
 exact fe hK ⟨false=true⟩ (by dsimp only[eK]<;>(simp only[dX,ac9];first|(simp_all;done)|(refine Iff.intro (fun h=>(by cases h)) (fun h=> ?_);exfalso;have e1:=congrArg List.length h.1;have e2:=congrArg List.length h.2.2.2;simp only[acC]at e2;omega)))
 refine iI (fun hc4=> ?_) (fun hc4=> ?_)
 exact fe hK ⟨false=true⟩ (by dsimp only[eK]<;>(simp only[dX,ac9];first|(simp_all;done)|(refine Iff.intro (fun h=>(by cases h)) (fun h=> ?_);exfalso;have e1:=congrArg List.length h.1;have e2:=congrArg List.length h.2.2.2;simp only[acC]at e2;omega)))
 refine iI (fun hc5=> ?_) (fun hc5=> ?_)
 exact fe hK ⟨false=true⟩ (by dsimp only[eK]<;>(simp only[dX,ac9];first|(simp_all;done)|(refine Iff.intro (fun h=>(by cases h)) (fun h=> ?_);exfalso;have e1:=congrArg List.length h.1;have e2:=congrArg List.length h.2.2.2;simp only[acC]at e2;omega)))
 refine iI (fun hc6=> ?_) (fun hc6=> ?_)
 exact fe hK ⟨false=true⟩ (by dsimp only[eK]<;>(simp only[dX,ac9];first|(simp_all;done)|(refine Iff.intro (fun h=>(by cases h)) (fun h=> ?_);exfalso;have e1:=congrArg List.length h.1;have e2:=congrArg List.length h.2.2.2;simp only[acC]at e2;omega)))
 refine iI (fun hc7=> ?_) (fun hc7=> ?_)
 exact fe hK ⟨false=true⟩ (by dsimp only[eK]<;>(simp only[dX,ac9];first|(simp_all;done)|(refine Iff.intro (fun h=>(by cases h)) (fun h=> ?_);exfalso;have e1:=congrArg List.length h.1;have e2:=congrArg List.length h.2.2.2;simp only[acC]at e2;omega)))
 refine iI (fun hc8=> ?_) (fun hc8=> ?_)
 exact fe hK ⟨false=true⟩ (by dsimp only[eK]<;>(simp only[dX,ac9];first|(simp_all;done)|(refine Iff.intro (fun h=>(by cases h)) (fun h=> ?_);exfalso;have e1:=congrArg List.length h.1;have e2:=congrArg List.length h.2.2.2;simp only[acC]at e2;omega)))
 refine iI (fun hc9=> ?_) (fun hc9=> ?_)
 exact fe hK ⟨false=true⟩ (by dsimp only[eK]<;>(simp only[dX,ac9];first|(simp_all;done)|(refine Iff.intro (fun h=>(by cases h)) (fun h=> ?_);exfalso;have e1:=congrArg List.length h.1;have e2:=congrArg List.length h.2.2.2;simp only[acC]at e2;omega)))
 refine dx (⟨p.a,p.b,(0:Int)⟩:gE) rfl (by(try dsimp only[kc]);refine⟨by omega,by omega,by omega,by omega,rfl⟩) ?_
 refine aE ?_ ?_
 refine iI (p:=p.a.gs=p.b.gs) (fun hi10=> ?_) (fun _=>rfl)
 refine dx (⟨p.a,p.b,(0:Int)⟩:gD) rfl (by(try dsimp only[ka]);refine⟨by omega,by omega,by omega,u1,u2,rfl⟩) ?_
 refine aE ?_ ?_
 refine iI (p:=p.a.os.map be=p.b.os.map be) (fun hi11=> ?_) (fun _=>rfl)
 exact fe hK ⟨true=true⟩ (by dsimp only[eK]<;>(simp only[dX,ac9];first|(simp_all;done)|(refine Iff.intro (fun h=>(by cases h)) (fun h=> ?_);exfalso;have e1:=congrArg List.length h.1;have e2:=congrArg List.length h.2.2.2;simp only[acC]at e2;omega)))
 refine iI (p:=¬p.a.os.map be=p.b.os.map be) (fun hi12=> ?_) (fun _=>rfl)
 exact fe hK ⟨false=true⟩ (by dsimp only[eK]<;>(simp only[dX,ac9];first|(simp_all;done)|(refine Iff.intro (fun h=>(by cases h)) (fun h=> ?_);exfalso;have e1:=congrArg List.length h.1;have e2:=congrArg List.length h.2.2.2;simp only[acC]at e2;omega)))
 refine iI (p:=¬p.a.gs=p.b.gs) (fun hi13=> ?_) (fun _=>rfl)
 exact fe hK ⟨false=true⟩ (by dsimp only[eK]<;>(simp only[dX,ac9];first|(simp_all;done)|(refine Iff.intro (fun h=>(by cases h)) (fun h=> ?_);exfalso;have e1:=congrArg List.length h.1;have e2:=congrArg List.length h.2.2.2;simp only[acC]at e2;omega)))
noncomputable def FP:=bt lv 0 (bJ zK (dr wP xp)) 8 [(0,15),(1,15)]
theorem Iy:aV Tryz.prog FP:=aR (bU (f:=8) (k:=0) (lp:=nF) (lf:=600) bm (bj kL) Lm (by rfl) (fun b j x h=>(cy Tn (fun h=>(cy Tm (fun h=>(by cases h)) h)) h)) fun p K h=>RT p K (aa h).1 (aa h).2) kL
end Go.Proofs.Tryz
namespace Go.Proofs.Tryz
open Go Go.RowKit Go.Sy Go.Txt
abbrev TX:=List (List UInt8)
theorem zo {α:Type} {l:List α} {x d:α} (h:l[0]?=some x):x=l.headD d:=by
 cases l with
 |nil=>simp at h
 |cons y r=>simpa using h.symm
theorem yN {α:Type} (l:List α):(l.drop 1).take (l.length - 1)=l.tail:=by
 cases l with
 |nil=>rfl
 |cons y r=>simp
theorem DC {l l1:TX} {s:List UInt8} {o o1:Prop} (h:s=l.headD []∧l1=l.tail∧(o1↔o∨l=[])) (q2:∀x∈l,x.length≤100000):s.length≤1000000:=by
 rw[h.1]
 cases l with
 |nil=>simp
 |cons y r=>exact Nat.le_trans (q2 y List.mem_cons_self) (by decide)
theorem UH {l:TX} {m z:Int} (h:cE m (l.headD []) z):l≠[]:=fun q=>by
 rw[q]at h
 exact Me h
theorem DD {l l1:TX} {s:List UInt8} {o o1:Prop} {u:Nat} {m:Int} (hm:m≤18446744073709551615) (h:s=l.headD []∧l1=l.tail∧(o1↔o∨l=[])) (hp:Lib.parseMag s= .ok u∧u≤18446744073709551615) (h1:¬m<(u:Int)) (h2:¬¬Lib.itoa (u:Int)=s):
  l1=l.tail∧(o1↔o∨¬cE m (l.headD []) (u:Int))∧((∃z,cE m (l.headD []) z)→cE m (l.headD []) (u:Int))∧0≤(u:Int)∧(u:Int)≤18446744073709551615:=by
 obtain⟨rfl,h4,h5⟩:=h
 obtain⟨e1,e2⟩:=Qo hm hp.1
 have e3:=e1.2 ⟨by omega,Classical.not_not.1 h2⟩
 refine⟨h4,?_,e2,by omega,by omega⟩
 rw[h5]
 exact⟨fun q=>q.elim .inl (fun z=>absurd z (UH e3)),fun q=>q.elim .inl (fun z=>absurd e3 z)⟩
theorem Ax {l l1:TX} {s:List UInt8} {o o1:Prop} {u:Nat} {m:Int} (hm:m≤18446744073709551615) (h:s=l.headD []∧l1=l.tail∧(o1↔o∨l=[])) (hp:Lib.parseMag s= .ok u∧u≤18446744073709551615) (h1:m<(u:Int)∨¬Lib.itoa (u:Int)=s):
  l1=l.tail∧(true=true↔o∨¬cE m (l.headD []) (u:Int))∧((∃z,cE m (l.headD []) z)→cE m (l.headD []) (u:Int))∧0≤(u:Int)∧(u:Int)≤18446744073709551615:=by
 obtain⟨rfl,h4,h5⟩:=h
 obtain⟨e1,e2⟩:=Qo hm hp.1
 have e3:¬cE m (l.headD []) (u:Int):=fun q=>by
  have e4:=e1.1 q
  rcases h1 with h1|h1
  ·omega
  ·exact h1 e4.2
 exact⟨h4,⟨fun _=>.inr e3,fun _=>rfl⟩,e2,by omega,by omega⟩
theorem Aw {l l1:TX} {s:List UInt8} {o o1:Prop} {z m:Int} (hm:m≤18446744073709551615) (h:s=l.headD []∧l1=l.tail∧(o1↔o∨l=[])) (hp:∀u,¬Lib.parseMag s= .ok u) (hz:0≤z∧z≤18446744073709551615):
  l1=l.tail∧(true=true↔o∨¬cE m (l.headD []) z)∧((∃z,cE m (l.headD []) z)→cE m (l.headD []) z)∧0≤z∧z≤18446744073709551615:=by
 obtain⟨rfl,h4,h5⟩:=h
 have e:=fun z=>SU (z:=z) hm hp
 exact⟨h4,⟨fun _=>.inr (e z),fun _=>rfl⟩,fun⟨z,q⟩=>absurd q (e z),hz⟩
theorem MY {z:Int} (h:z≤9223372036854775807) (h0: -9223372036854775808≤z):(aH 0).wrap z=z:=IntWalk.i64_in z ⟨h0,h⟩
theorem Hm (z:Int): -9223372036854775808≤(aH 0).wrap z∧(aH 0).wrap z≤9223372036854775807:=by
 show -9223372036854775808≤IntKind.i64.wrap z∧IntKind.i64.wrap z≤_
 rw[IntKind.wrap_i64];omega
theorem WW {z:Int} (h:9223372036854775808≤z) (h1:z≤18446744073709551615):(aH 0).wrap z<0:=by
 show IntKind.i64.wrap z<0
 rw[IntKind.wrap_i64];omega
theorem SS {m z:Int} {s:List UInt8} (hm:m≤9223372036854775807) (h0:0≤z) (h1:z≤18446744073709551615):cE m s ((aH 0).wrap z)↔cE m s z:=by
 by_cases h:z≤9223372036854775807
 ·rw[MY h (by omega)]
 ·have e:=WW (z:=z) (by omega) h1
  exact⟨fun q=>absurd q.1 (by omega),fun q=>absurd q.2.1 (by omega)⟩
theorem FH {l l1:TX} {o o1:Prop} {z:Int} (h:l1=l.tail∧(o1↔o∨¬cE 1099511627776 (l.headD []) z)∧((∃z,cE 1099511627776 (l.headD []) z)→cE 1099511627776 (l.headD []) z)∧0≤z∧z≤18446744073709551615):
  l1=l.tail∧(o1↔o∨¬cE 1099511627776 (l.headD []) ((aH 0).wrap z))∧((∃z,cE 1099511627776 (l.headD []) z)→cE 1099511627776 (l.headD []) ((aH 0).wrap z))∧ -9223372036854775808≤(aH 0).wrap z∧(aH 0).wrap z≤9223372036854775807:=by
 obtain⟨h1,h2,h3,h4,h5⟩:=h
 have e:=SS (m:=1099511627776) (s:=l.headD []) (by decide) h4 h5
 exact⟨h1,by rw[h2,e],fun q=>e.2 (h3 q),Hm z⟩
theorem Mn {l l1:TX} {s t:List UInt8} {o o1:Prop} (h:s=l.headD []∧l1=l.tail∧(o1↔o∨l=[])) (h2:¬s=t):l1=l.tail∧(true=true↔o∨l=[]∨¬l.headD []=t):=
 ⟨h.2.1,by rw[h.1]at h2;simp only[h2,not_false_eq_true,or_true]⟩
theorem IG {l l1:TX} {s t:List UInt8} {o o1:Prop} (h:s=l.headD []∧l1=l.tail∧(o1↔o∨l=[])) (h2:¬¬s=t):l1=l.tail∧(o1↔o∨l=[]∨¬l.headD []=t):=by
 obtain⟨rfl,h3,h4⟩:=h
 have e:=Classical.not_not.1 h2
 exact⟨h3,by rw[h4,e];simp⟩
def verbT (k:Int):List UInt8:=if k=0 then [114,101,97,100] else if k=1 then [119,114,105,116,101] else if k=2 then [97,100,100] else if k=3 then [116,97,107,101] else [101,114,97,115,101]
def dF (p:aB):TX:=Lib.itoa p.g::verbT p.k::p.key::(if p.k=1 then [p.val] else if p.k=2∨p.k=3 then [Lib.itoa p.n] else [])
def bd (p:aB):List UInt8:=Lib.join (dF p) [58]
def gS (p:aB):Prop:=ca p∧lV p
theorem uB {a b:Int} (ha:0≤a∧a≤4) (hb:0≤b∧b≤4) (h:verbT a=verbT b):a=b:=by
 obtain e|e|e|e|e:a=0∨a=1∨a=2∨a=3∨a=4:=by omega
 all_goals
  obtain f|f|f|f|f:b=0∨b=1∨b=2∨b=3∨b=4:=by omega
  all_goals(subst e;subst f;first|rfl|(exact absurd h (by decide)))
theorem pQ {p:aB} (h:bo p):0≤p.k∧p.k≤4:=by
 obtain⟨_,_,_,h⟩:=h
 omega
theorem Cw {t:List UInt8} (h:mN t) {b:UInt8} (hb:b=32∨b=58∨b=10):b∉t:=fun q=>by
 have e:=(Eh _).1 (h.2 b q)
 unfold xx at e
 rcases hb with rfl|rfl|rfl
 ·exact absurd e (by decide)
 ·exact absurd e (by decide)
 ·exact absurd e (by decide)
theorem Pz (k:Int) {b:UInt8} (hb:b=32∨b=58∨b=10):b∉verbT k:=by
 unfold verbT
 rcases hb with rfl|rfl|rfl<;>(repeat' split)<;>decide
theorem zZ {p:aB} (h:gS p) {b:UInt8} (hb:b=32∨b=58∨b=10):∀x∈dF p,b∉x:=by
 obtain⟨⟨h1,h2,h3⟩,h4⟩:=h
 have hn:p.k=2∨p.k=3→0≤p.n:=fun q=>by
  obtain⟨_,_,_,h⟩:=h1
  rcases h with h|h|h
  ·omega
  ·exact h.2.2
  ·omega
 intro x hx
 unfold dF at hx
 rcases List.mem_cons.1 hx with rfl|hx
 ·exact me h4.1.1 hb
 rcases List.mem_cons.1 hx with rfl|hx
 ·exact Pz _ hb
 rcases List.mem_cons.1 hx with rfl|hx
 ·exact Cw h2 hb
 split at hx
 ·rename_i e
  rw[List.mem_singleton]at hx
  rw[hx];exact Cw (h3 e) hb
 ·split at hx
  ·rename_i e
   rw[List.mem_singleton]at hx
   rw[hx];exact me (hn e) hb
  ·cases hx
theorem uV {p:aB} (h:gS p):wds 58 (bd p)=dF p:=Hr (by unfold dF;simp) (zZ h (.inr (.inl rfl)))
theorem ks {p:aB} {s:List UInt8} (h:gS p):s=bd p↔wds 58 s=dF p:=
 ⟨fun e=>by rw[e];exact uV h,fun e=>by rw[bd,←e,Bh]⟩
theorem GM {z:Int} (h:z≤255) (h0:0≤z):(aH 1).wrap z=z:=IntWalk.u8_in z ⟨h0,h⟩
theorem Hl (z:Int):0≤(aH 1).wrap z∧(aH 1).wrap z≤255:=by
 show 0≤IntKind.u8.wrap z∧IntKind.u8.wrap z≤_
 rw[IntKind.wrap_u8];omega
def rQ (s:List UInt8) (q:Prop) (p:aB):Prop:=(q→gS p∧s=bd p)∧(¬q→∀p',gS p'→¬s=bd p')
theorem jo {m z:Int} (h0:0≤z) (h:z≤m):cE m (Lib.itoa z) z:=⟨h0,h,rfl⟩
theorem SV {s:List UInt8} {z:Int} (h:cE 3 s z):s=Lib.itoa ((aH 1).wrap z)∧0≤z∧z≤3:=by
 rw[GM (by have:=h.2.1;omega) h.1]
 exact⟨h.2.2,h.1,h.2.1⟩
abbrev numH (l l1:TX) (o o1:Prop) (m z:Int):Prop:=l1=l.tail∧(o1↔o∨¬cE m (l.headD []) z)∧((∃z,cE m (l.headD []) z)→cE m (l.headD []) z)∧0≤z∧z≤18446744073709551615
abbrev dp (l l1:TX) (o o1:Prop) (s:List UInt8):Prop:=s=l.headD []∧l1=l.tail∧(o1↔o∨l=[])
theorem Qd {s v key:List UInt8} {l1 l2 l3:TX} {o0 o1 o2 o3 q:Prop} {z k:Int} (h1:numH (wds 58 s) l1 o0 o1 3 z) (h2:dp l1 l2 o1 o2 v) (h3:dp l2 l3 o2 o3 key) (hk:verbT k=v) (k0:k=0∨k=4) (ho:¬o0)
  (hq:q↔¬o3∧l3=[]∧ca ⟨(aH 1).wrap z,k,key,[],0⟩):rQ s q ⟨(aH 1).wrap z,k,key,[],0⟩:=by
 obtain⟨rfl,a1,a2,_⟩:=h1
 obtain⟨rfl,rfl,b1⟩:=h2
 obtain⟨rfl,rfl,c1⟩:=h3
 constructor
 ·intro hq'
  obtain⟨e1,e2,e3⟩:=hq.1 hq'
  have e4:gS ⟨(aH 1).wrap z,k,_,[],0⟩:=⟨e3,Hl z,by simp only;omega,by simp only;omega,by simp only;omega⟩
  refine⟨e4,(ks e4).2 ?_⟩
  generalize wds 58 s=W at*
  rw[c1,not_or,b1,not_or,a1,not_or]at e1
  obtain⟨⟨⟨_,e5⟩,e6⟩,e7⟩:=e1
  rcases W with _|⟨w1,_|⟨w2,_|⟨w3,r⟩⟩⟩
  ·simp at e6
  ·simp at e6
  ·simp at e7
  ·have e8:=(SV (Classical.not_not.1 e5)).1
   simp only[List.headD_cons,List.tail_cons]at e2 e8 hk ⊢
   rw[dF,hk,e2,e8,if_neg (by simp only;omega),if_neg (by simp only;omega)]
 ·intro hn p' hp hs
  refine hn (hq.2 ?_)
  have hW:=(ks hp).1 hs
  have hg:=hp.2.1.1
  have hg2:=hp.1.1.1
  have hkk:=pQ hp.1.1
  have hv:p'.k=k:=by
   rw[hW]at hk
   exact(uB (by omega) hkk (by simpa[dF] using hk)).symm
  have hw:dF p'=[Lib.itoa p'.g,verbT p'.k,p'.key]:=by rw[dF,if_neg (by omega),if_neg (by omega)]
  rw[hW,hw]at a1 a2 b1 c1 ⊢
  simp only[List.headD_cons,List.tail_cons,reduceCtorEq,or_false,List.cons_ne_nil]at a1 a2 b1 c1 ⊢
  have e1:=a2 ⟨_,jo (by omega) (show p'.g≤3 by omega)⟩
  have e2:=tU (by decide) (by decide) e1 (jo (by omega) (show p'.g≤3 by omega))
  refine⟨by rw[c1,b1,a1];simp[ho,e1],trivial,?_⟩
  rw[e2,GM (by omega) (by omega),←hv]
  have hval:p'.val=[]∧p'.n=0:=by
   obtain⟨_,_,_,h⟩:=hp.1.1
   rcases h with h|h|h
   ·omega
   ·omega
   ·exact h.2
  rw[←hval.1,←hval.2]
  exact hp.1
theorem Qc {s v key val:List UInt8} {l1 l2 l3 l4:TX} {o0 o1 o2 o3 o4 q:Prop} {z:Int} (h1:numH (wds 58 s) l1 o0 o1 3 z) (h2:dp l1 l2 o1 o2 v) (h3:dp l2 l3 o2 o3 key) (h4:dp l3 l4 o3 o4 val) (hk:verbT 1=v) (ho:¬o0)
  (hq:q↔¬o4∧l4=[]∧ca ⟨(aH 1).wrap z,1,key,val,0⟩):rQ s q ⟨(aH 1).wrap z,1,key,val,0⟩:=by
 obtain⟨rfl,a1,a2,_⟩:=h1
 obtain⟨rfl,rfl,b1⟩:=h2
 obtain⟨rfl,rfl,c1⟩:=h3
 obtain⟨rfl,rfl,d1⟩:=h4
 constructor
 ·intro hq'
  obtain⟨e1,e2,e3⟩:=hq.1 hq'
  have e4:gS ⟨(aH 1).wrap z,1,_,_,0⟩:=⟨e3,Hl z,by simp only;omega,by simp only;omega,by simp only;omega⟩
  refine⟨e4,(ks e4).2 ?_⟩
  generalize wds 58 s=W at*
  rw[d1,not_or,c1,not_or,b1,not_or,a1,not_or]at e1
  obtain⟨⟨⟨⟨_,e5⟩,e6⟩,e7⟩,e9⟩:=e1
  rcases W with _|⟨w1,_|⟨w2,_|⟨w3,_|⟨w4,r⟩⟩⟩⟩
  ·simp at e6
  ·simp at e6
  ·simp at e7
  ·simp at e9
  ·have e8:=(SV (Classical.not_not.1 e5)).1
   simp only[List.headD_cons,List.tail_cons]at e2 e8 hk ⊢
   rw[dF,hk,e2,e8,if_pos rfl]
 ·intro hn p' hp hs
  refine hn (hq.2 ?_)
  have hW:=(ks hp).1 hs
  have hg:=hp.2.1.1
  have hg2:=hp.1.1.1
  have hkk:=pQ hp.1.1
  have hv:p'.k=1:=by
   rw[hW]at hk
   exact(uB (by omega) hkk (by simpa[dF] using hk)).symm
  have hw:dF p'=[Lib.itoa p'.g,verbT p'.k,p'.key,p'.val]:=by rw[dF,if_pos hv]
  rw[hW,hw]at a1 a2 b1 c1 d1 ⊢
  simp only[List.headD_cons,List.tail_cons,reduceCtorEq,or_false,List.cons_ne_nil]at a1 a2 b1 c1 d1 ⊢
  have e1:=a2 ⟨_,jo (by omega) (show p'.g≤3 by omega)⟩
  have e2:=tU (by decide) (by decide) e1 (jo (by omega) (show p'.g≤3 by omega))
  refine⟨by rw[d1,c1,b1,a1];simp[ho,e1],trivial,?_⟩
  rw[e2,GM (by omega) (by omega),←hv]
  have hval:p'.n=0:=by
   obtain⟨_,_,_,h⟩:=hp.1.1
   omega
  rw[←hval]
  exact hp.1
theorem Qb {s v key:List UInt8} {l1 l2 l3 l4:TX} {o0 o1 o2 o3 o4 q:Prop} {z k y:Int} (h1:numH (wds 58 s) l1 o0 o1 3 z) (h2:dp l1 l2 o1 o2 v) (h3:dp l2 l3 o2 o3 key) (h4:numH l3 l4 o3 o4 9223372036854775807 y) (hk:verbT k=v) (k0:k=2∨k=3) (ho:¬o0)
  (hq:q↔¬o4∧l4=[]∧ca ⟨(aH 1).wrap z,k,key,[],(aH 0).wrap y⟩):rQ s q ⟨(aH 1).wrap z,k,key,[],(aH 0).wrap y⟩:=by
 obtain⟨rfl,a1,a2,_⟩:=h1
 obtain⟨rfl,rfl,b1⟩:=h2
 obtain⟨rfl,rfl,c1⟩:=h3
 obtain⟨rfl,d1,d2,d3,d4⟩:=h4
 constructor
 ·intro hq'
  obtain⟨e1,e2,e3⟩:=hq.1 hq'
  have e4:gS ⟨(aH 1).wrap z,k,_,[],(aH 0).wrap y⟩:=⟨e3,Hl z,by simp only;omega,(Hm y).1,(Hm y).2⟩
  refine⟨e4,(ks e4).2 ?_⟩
  generalize wds 58 s=W at*
  rw[d1,not_or,c1,not_or,b1,not_or,a1,not_or]at e1
  obtain⟨⟨⟨⟨_,e5⟩,e6⟩,e7⟩,e9⟩:=e1
  have e9:=Classical.not_not.1 e9
  rcases W with _|⟨w1,_|⟨w2,_|⟨w3,_|⟨w4,r⟩⟩⟩⟩
  ·simp at e6
  ·simp at e6
  ·simp at e7
  ·exact absurd e9 Me
  ·have e8:=(SV (Classical.not_not.1 e5)).1
   have e10:w4=Lib.itoa ((aH 0).wrap y):=by rw[MY e9.2.1 (by omega)];exact e9.2.2
   simp only[List.headD_cons,List.tail_cons]at e2 e8 hk ⊢
   rw[dF,hk,e2,e8,if_neg (by simp only;omega),if_pos (by simp only;omega),e10]
 ·intro hn p' hp hs
  refine hn (hq.2 ?_)
  have hW:=(ks hp).1 hs
  have hg:=hp.2.1.1
  have hg2:=hp.1.1.1
  have hkk:=pQ hp.1.1
  have hv:p'.k=k:=by
   rw[hW]at hk
   exact(uB (by omega) hkk (by simpa[dF] using hk)).symm
  have hw:dF p'=[Lib.itoa p'.g,verbT p'.k,p'.key,Lib.itoa p'.n]:=by rw[dF,if_neg (by omega),if_pos (by omega)]
  have hval:p'.val=[]∧0≤p'.n:=by
   obtain⟨_,_,_,h⟩:=hp.1.1
   rcases h with h|h|h
   ·omega
   ·exact h.2
   ·omega
  rw[hW,hw]at a1 a2 b1 c1 d1 d2 ⊢
  simp only[List.headD_cons,List.tail_cons,reduceCtorEq,or_false,List.cons_ne_nil]at a1 a2 b1 c1 d1 d2 ⊢
  have e1:=a2 ⟨_,jo (by omega) (show p'.g≤3 by omega)⟩
  have e2:=tU (by decide) (by decide) e1 (jo (by omega) (show p'.g≤3 by omega))
  have f0:=jo hval.2 (show p'.n≤9223372036854775807 from hp.2.2.2.2)
  have f1:=d2 ⟨_,f0⟩
  have f2:=tU (by decide) (by decide) f1 f0
  refine⟨by rw[d1,c1,b1,a1];simp[ho,e1,f1],trivial,?_⟩
  rw[e2,f2,GM (by omega) (by omega),MY hp.2.2.2.2 (by omega),←hv,←hval.1]
  exact hp.1
theorem Qa {s v:List UInt8} {l1 l2:TX} {o0 o1 o2:Prop} {z:Int} {p:aB} (h1:numH (wds 58 s) l1 o0 o1 3 z) (h2:dp l1 l2 o1 o2 v) (h:∀k,0≤k→k≤4→¬verbT k=v):rQ s (false=true) p:=by
 unfold rQ
 refine⟨fun q=>(by cases q),fun _ p' hp hs=> ?_⟩
 have hW:=(ks hp).1 hs
 have hkk:=pQ hp.1.1
 refine h p'.k hkk.1 hkk.2 ?_
 rw[h2.1,h1.1,hW]
 rfl
theorem LC {v:List UInt8} (h:([114,101,97,100]:List Nat).map acX=v):verbT 0=v:=h▸by decide
theorem LB {v:List UInt8} (h:([119,114,105,116,101]:List Nat).map acX=v):verbT 1=v:=h▸by decide
theorem LA {v:List UInt8} (h:([97,100,100]:List Nat).map acX=v):verbT 2=v:=h▸by decide
theorem Lz {v:List UInt8} (h:([116,97,107,101]:List Nat).map acX=v):verbT 3=v:=h▸by decide
theorem Ly {v:List UInt8} (h:([101,114,97,115,101]:List Nat).map acX=v):verbT 4=v:=h▸by decide
theorem Xh {v:List UInt8} (h0:¬([114,101,97,100]:List Nat).map acX=v) (h1:¬([119,114,105,116,101]:List Nat).map acX=v) (h2:¬([97,100,100]:List Nat).map acX=v) (h3:¬([116,97,107,101]:List Nat).map acX=v) (h4:¬([101,114,97,115,101]:List Nat).map acX=v):∀k,0≤k→k≤4→¬verbT k=v:=fun k a b e=>by
 obtain q|q|q|q|q:k=0∨k=1∨k=2∨k=3∨k=4:=by omega
 all_goals subst q
 ·exact h0 (e▸by decide)
 ·exact h1 (e▸by decide)
 ·exact h2 (e▸by decide)
 ·exact h3 (e▸by decide)
 ·exact h4 (e▸by decide)
theorem nZ {b:UInt8}:∀(s:List UInt8),∀x∈wds b s,x.length≤s.length
 |[],x,h=>by simp[wds]at h;simp[h]
 |c::r,x,h=>by
  unfold wds at h
  split at h
  ·rcases List.mem_cons.1 h with rfl|h
   ·simp
   ·have:=nZ r x h
    simp only[acB];omega
  ·split at h
   ·rename_i u us e
    rcases List.mem_cons.1 h with rfl|h
    ·have:=nZ r u (by rw[e];exact List.mem_cons_self)
     simp only[acB];omega
    ·have:=nZ r x (by rw[e];exact List.mem_cons_of_mem _ h)
     simp only[acB];omega
   ·rename_i e
    exact absurd e (wds_ne b r)
theorem Ci {b:UInt8}:∀(s:List UInt8),(wds b s).length≤s.length+1
 |[]=>by simp[wds]
 |c::r=>by
  have ih:=Ci (b:=b) r
  unfold wds
  split
  ·simp only[acB];omega
  ·split
   ·rename_i u us e
    rw[e]at ih
    simp only[acB]at ih ⊢;omega
   ·simp
theorem Pn {b:UInt8} {s:List UInt8} (h:s.length≤100000):(wds b s).length≤1000000∧∀x∈wds b s,x.length≤100000:=
 ⟨by have:=Ci (b:=b) s;omega,fun x hx=>by have:=nZ s x hx;omega⟩
end Go.Proofs.Tryz
namespace Go.Proofs.YtacomabmhnodlaaGreatDoor
open Go Go.RowKit Go.Eng Go.Sy
set_option linter.unusedVariables false
set_option maxRecDepth 100000
def PA:Array Value:= #[.string ⟨#[114,101,97,100]⟩,.string ⟨#[119,114,105,116,101]⟩,.string ⟨#[97,100,100]⟩,.string ⟨#[116,97,107,101]⟩,.string ⟨#[101,114,97,115,101]⟩]
theorem vix (t:TypeId) (i:Nat) (x:Value) (hi:PA[i]?=some x) (ht:Tryz.prog.underlying t=some (.array 5 9)) (w:World):(Instr.index t (.agg PA) (.int .u8 (i:Int))).run Tryz.prog w= .ok x w:=by
 have h5:i<5:=by
  have h:=Array.getElem?_eq_some_iff.1 hi
  obtain⟨h,_⟩:=h
  exact h
 have e:szOf Tryz.prog 9=some 1:=by kernel_rfl
 have hi':(i:Int)<5:=by omega
 have ha:isAg Tryz.prog 9=some false:=by kernel_rfl
 have e9:Tryz.t9.size=1:=by kernel_rfl
 have hi3:PA[i*Tryz.t9.size]?=some x:=by rw[e9,Nat.mul_one];exact hi
 simp[Instr.index,run_underlying ht,asIntOf,go_sem,part,sizeOf]
 rw[if_pos h5,hi3]
 simp[go_sem]
theorem vt {k:Int} (h0:0≤k):∃i:Nat,min k 4=(i:Int)∧PA[i]?=some (S (Tryz.verbT k)):=by
 rcases Int.lt_or_le k 4 with h|h
 ·have e:k=0∨k=1∨k=2∨k=3:=by omega
  rcases e with rfl|rfl|rfl|rfl
  ·exact⟨0,rfl,rfl⟩
  ·exact⟨1,rfl,rfl⟩
  ·exact⟨2,rfl,rfl⟩
  ·exact⟨3,rfl,rfl⟩
 ·refine⟨4,by omega,?_⟩
  have e:Tryz.verbT k=[101,114,97,115,101]:=by
   unfold Tryz.verbT
   rw[if_neg (by omega),if_neg (by omega),if_neg (by omega),if_neg (by omega)]
  rw[e]
  rfl
theorem Nf (W:World) (k:Int) (h0:0≤k):Calls Tryz.prog 91 #[.int .u8 k] W fun e w'=>e= .returned (S (Tryz.verbT k))∧∃q,w'=W.drewN q:=by
 have mixed:=IJ
 obtain⟨i,e1,e2⟩:=vt h0
 have hr:=fun w=>vix 169 i (S (Tryz.verbT k)) e2 (by kernel_rfl) w
 simp only[PA]at hr
 go_enter Tryz.func91,Tryz.ntmps91
 go_wp2
 go_ret
 all_goals first
  |exact⟨rfl,0,(by simp[World.drewN_zero])⟩
  |trace_state
theorem Es:bR Tryz.prog 91 0 (DO 1 Tryz.verbT):=Mj fun z G w F hz t h=>
 (Nf w z hz.1).mono fun _ _ ⟨he,k,hw⟩=>⟨_,G,he,GS.Le.refl G,h.ext (by rw[hw];exact below_drewN w k),rfl⟩
end Go.Proofs.YtacomabmhnodlaaGreatDoor
