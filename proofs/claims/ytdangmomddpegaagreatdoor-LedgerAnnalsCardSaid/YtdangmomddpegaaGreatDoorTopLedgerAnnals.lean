/- Whatever acts come in, the call LedgerAnnals returns true, and what was handed in reads as before; condition: the tables that the program lays down are as they are laid (the own condition of the card). -/
import Derived.Test.YtdangmomddpegaaGreatDoorM5
import Derived.KernelRfl
import Derived.Test.YtdangmomddpegaaGreatDoorRows
import Derived.Test.YtdangmomddpegaaGreatDoorTie
import Derived.Test.YtdangmomddpegaaGreatDoorCards
import Derived.WalkKit
import Derived.ProofKit
import Derived.OpenShut
import Derived.Below
import Derived.LaidLaws
import Derived.RowKit
import Derived.SizedLaws
open List renaming length_append→acC,length_cons→acD,length_map→acE,length_nil→acF,map_cons→acJ,mem_of_getElem?→acH
open Option.some renaming inj→ac1
open UInt8 renaming ofNat→ac0
namespace Go.Proofs.Tryz
open Go.Proofs.YtdangmomddpegaaGreatDoor (xU uM uL BM xT uK xW BL xV BK xS uN)
open Go Go.RowKit Go.Sy
open Go.Eng hiding aA
set_option maxRecDepth 1000000
set_option linter.unusedVariables false
set_option maxHeartbeats 4000000
theorem Oi {k:List lJ} {l:List ai} {i:Int} {x:ai} (hk:k=l.map aq) (h0:0≤i) (hx:l[i.toNat]?=some x):fo i (k.drop i.toNat)=Lib.itoa i++([58,32]++(bI (aq x)++([10]++fo (i+1) (k.drop (i+1).toNat)))):=by
 rw[hk,←List.map_drop,←List.map_drop]
 exact GU h0 hx
theorem fw {k:List lJ} {l:List ai} {i:Int} {x:ai} {w r s:List UInt8} (hk:k=l.map aq) (h0:0≤i) (hx:l[i.toNat]?=some x) (hs:s=bI (aq x)) (h:r=((((w++Lib.itoa i)++[58,32])++s)++[10])++fo (i+1) (k.drop (i+1).toNat)):r=w++fo i (k.drop i.toNat):=by
 rw[h,Oi hk h0 hx,hs];simp
theorem dy {k:List lJ} {l:List ai} {i:Int} (hk:k=l.map aq) (h:(l.length:Int)≤i):fo i (k.drop i.toNat)=[]:=by
 rw[hk,←List.map_drop]
 exact JJ h
theorem cx {k:KyR} {g g' d:Int} {a b c:List UInt8} (hd:g=d) (h0:0≤g) (h1:g<4) (hg:g'=g+1) (hz:¬(jT k d).length=0) (hb:b=a++([111,114,100,101,114,32]++(Lib.itoa d++[10]))) (hc:c=b++fo 0 ((jT k d).drop (0:Int).toNat)):c++gA k g'=a++gA k g:=by
 subst hd
 rw[sq h0 h1,Jz hz,hc,hb,hg];simp
theorem cw {k:KyR} {g g' d:Int} {b c:List UInt8} (hd:g=d) (h0:0≤g) (h1:g<4) (hg:g'=g+1) (hz:(jT k d).length=0) (hc:c=b++fo 0 ((jT k d).drop (0:Int).toNat)):c++gA k g'=b++gA k g:=by
 subst hd
 have e:jT k g=[]:=List.eq_nil_of_length_eq_zero hz
 rw[sq h0 h1,Fe hz,hc,hg,e]
 show(b++[])++_=b++([]++_)
 simp
def FL:XC:=(.aft (.pre [.fix 4 4] (.seq (.seq (g_ 9 [p_ 0 24 (m_ 5),p_ 1 25 (m_ 0),p_ 2 26 (m_ 4),p_ 3 27 (n_ 25),p_ 4 28 (f_ 4 27),p_ 5 29 (.ixa 4 1 (.t 28) (.t 26)),r_ 6 30 (l_ 29),p_ 7 31 (k_ 30),p_ 8 32 (.bin 3 0 (.t 24) (.t 31))]) (.cond (.t 32) .skip (.exit 4))) (.seq (.block 5 (h_ 18 [p_ 0 35 (m_ 3),p_ 1 36 (m_ 5),p_ 5 40 (m_ 0),p_ 6 41 (m_ 4),p_ 7 42 (n_ 40),p_ 8 43 (f_ 4 42),p_ 9 44 (.ixa 4 1 (.t 43) (.t 41)),r_ 10 45 (l_ 44),p_ 11 46 (m_ 5),p_ 12 47 (.ixs 18 (.t 45) (.t 46)),r_ 13 48 (.ld true 18 (.t 47)),c_ 2 37 35 [.t 36],a_ 10 45 (l_ 44),a_ 13 48 (.ld true 18 (.t 47)),p_ 3 38 (.bin 4 0 (.t 35) (.t 37)),p_ 4 39 (.bin 4 0 (.t 38) (.c (.str [58,32]))),c_ 14 49 36 [.t 48],p_ 15 50 (.bin 4 0 (.t 39) (.t 49)),p_ 16 51 (.bin 4 0 (.t 50) (.c (.str [10]))),p_ 17 3 (m_ 51)])) (g_ 3 [p_ 0 33 (m_ 5),p_ 1 34 (.bin 0 0 (.t 33) (i_ 1)),p_ 2 5 (m_ 34)])))) [(0,[.up 4,.can 1 [0,3,4,5]]),(4,[.up 4,.can 1 [0,3,4]])])
def Cl:XC:=(.aft (.seq (.seq (g_ 2 [p_ 0 6 (m_ 4),p_ 1 7 (.bin 3 0 (.t 6) (i_ 4))]) (.cond (.t 7) .skip (.exit 2))) (.seq (.pre [.fix 4 4] (.block 3 (.seq (.seq (g_ 8 [p_ 0 10 (m_ 0),p_ 1 11 (m_ 4),p_ 2 12 (n_ 10),p_ 3 13 (f_ 4 12),p_ 4 14 (.ixa 4 1 (.t 13) (.t 11)),r_ 5 15 (l_ 14),p_ 6 16 (k_ 15),p_ 7 17 (.bin 3 2 (.t 16) (i_ 0))]) (.cond (.t 17) (g_ 7 [p_ 0 18 (m_ 3),p_ 1 19 (.bin 4 0 (.t 18) (.c (.str [111,114,100,101,114,32]))),p_ 2 20 (m_ 4),c_ 3 21 35 [.t 20],p_ 4 22 (.bin 4 0 (.t 19) (.t 21)),p_ 5 23 (.bin 4 0 (.t 22) (.c (.str [10]))),p_ 6 3 (m_ 23)]) .skip)) (.seq (g_ 1 [p_ 0 5 (.mv (i_ 0))]) (.block 4 (.pre [.can 1 [0,3,4,5],.up 4,.up 5,.can 1 [0,3,4,5]] (.inv 0 FL))))))) (g_ 3 [p_ 0 8 (m_ 4),p_ 1 9 (.bin 0 0 (.t 8) (i_ 1)),p_ 2 4 (m_ 9)]))) [(0,[.can 1 [0,3,4]]),(2,[.can 1 [3]])])
def GX:XF:=.mk 53 (.one 2) (.aft (.seq (g_ 1 [p_ 0 2 (.mv (.c (.str [])))]) (.seq (g_ 1 [p_ 0 3 (.mv (.c (.str [])))]) (.seq (.seq (g_ 1 [p_ 0 4 (.mv (i_ 0))]) (.block 2 (.pre [.can 1 [0,3,4],.up 3,.up 4,.can 1 [0,3,4]] (.inv 1 Cl)))) (.seq (g_ 2 [p_ 0 52 (m_ 3),p_ 1 2 (m_ 52)]) .ret)))) [(0,[.up 2]),(1,[.up 2])])
theorem KD:bT Tryz.prog 10 GX=true:=by kernel_rfl
structure eu where
 g:bW
 w:List UInt8
 j:Int
 i:Int
structure Jc where
 r:List UInt8
 jj:Int
def dg (p:eu) (r:Jc):Prop:=r.r=p.w++fo p.i ((jT (aS p.g) p.j).drop p.i.toNat)∧(r.r.length:Int)≤200000000*(p.j+1)∧r.jj=p.j
noncomputable def fy (p:eu):IL:=((.cons 5 (.sy (.int 0 p.i)) (.cons 4 (.sy (.int 0 p.j)) (.cons 3 (.sy (.str p.w)) (.cons 0 (.ptr 0 0) .nil)))),(ba p.g),9)
noncomputable def vM (p:eu) (K:KC):Bool:=aA fun r:Jc=>iP (dg p r) (K 4 (.cons 4 (.sy (.int 0 r.jj)) (.cons 3 (.sy (.str r.r)) (.cons 0 (.ptr 0 0) .nil))) (ba p.g) 9) true
def cC (p:eu):Prop:=(0≤p.j∧p.j≤3)∧oe p.g∧bD p.g 80∧0≤p.i∧(p.w.length:Int)≤100+200000000*p.j+1400000*p.i∧p.i≤80
theorem wq {p:eu} {K:KC} (hK:vM p K=true) (r:Jc) (h:dg p r):K 4 (.cons 4 (.sy (.int 0 r.jj)) (.cons 3 (.sy (.str r.r)) (.cons 0 (.ptr 0 0) .nil))) (ba p.g) 9=true:=aP h (aF hK r)
noncomputable def yy (p:eu) (K:KC):Bool:=ac (au (cC p)) (vM p K)
structure gU where
 g:bW
 w:List UInt8
 j:Int
structure Gf where
 r:List UInt8
def si (p:gU) (r:Gf):Prop:=r.r=p.w++gA (aS p.g) p.j
noncomputable def kT (p:gU):IL:=((.cons 4 (.sy (.int 0 p.j)) (.cons 3 (.sy (.str p.w)) (.cons 0 (.ptr 0 0) .nil))),(ba p.g),9)
noncomputable def tq (p:gU) (K:KC):Bool:=aA fun r:Gf=>iP (si p r) (K 2 (.cons 3 (.sy (.str r.r)) .nil) (ba p.g) 9) true
def dX (p:gU):Prop:=(0≤p.j∧p.j≤4)∧oe p.g∧bD p.g 80∧(p.w.length:Int)≤200000000*p.j
theorem Rp {p:gU} {K:KC} (hK:tq p K=true) (r:Gf) (h:si p r):K 2 (.cons 3 (.sy (.str r.r)) .nil) (ba p.g) 9=true:=aP h (aF hK r)
noncomputable def vF (p:gU) (K:KC):Bool:=ac (au (dX p)) (tq p K)
noncomputable def no:ft:=fun j S M nx K=>(Bool.rec ((Bool.rec (false) (aI fun p:gU=>ac (au ((S,M,nx)=kT p)) (vF p K)) (Nat.beq j 1))) (aI fun p:eu=>ac (au ((S,M,nx)=fy p)) (yy p K)) (Nat.beq j 0))
def eR (p:eu):Nat:=(81 - p.i).toNat
noncomputable def va (s:IL) (n:Nat) (K:KC):Bool:=aI fun q=>mP (s=fy q∧eR q<n) (yy q K)
theorem Ai {p q:eu} {K:KC} {s:IL} (hm:eR q<eR p) (hp:cC q) (hK:vM q K=true) (e:s=fy q):va s (eR p) K=true:=aG q (bf ⟨e,hm⟩ (bf hp hK))
theorem Uw (p:eu) (K:KC) (hpre:cC p) (hK:vM p K=true):(cQ (bH pZ) no 600 FL (fy p).1 (fy p).2.1 (fy p).2.2 (fun e S M nx=>Nat.casesOn e (aI fun q:eu=>ac (au ((S,M,nx)=fy q∧eR q<eR p)) (yy q K)) (fun e2=>K (Nat.succ e2) S M nx)))=true:=by
 refine Eq.trans (b:=(iP (p.j=0) (iP (p.i<(p.g.o0.length:Int)) (mP (0≤p.i∧p.i<(p.g.o0.length:Int)) (mP (p.i.toNat<p.g.o0.length) (aA fun x7:ai=>iP (p.g.o0[p.i.toNat]?=some x7) (mP (aL 0 p.i) (mP (((.prow 5 p.g.o0.length):SY)=(.prow 5 p.g.o0.length)) (mP (p.i.toNat<p.g.o0.length) (aA fun x8:ai=>iP (p.g.o0[p.i.toNat]?=some x8) (ac (qL [au (((.int 1 x8.kind):SY)=(.int 1 x7.kind)),au (((.int 1 x8.id.client.node):SY)=(.int 1 x7.id.client.node)),au (((.int 2 x8.id.client.life):SY)=(.int 2 x7.id.client.life)),au (((.int 3 x8.id.seq):SY)=(.int 3 x7.id.seq)),au (((.int 1 x8.id.depth):SY)=(.int 1 x7.id.depth)),au (((.int 1 x8.id.p0.group):SY)=(.int 1 x7.id.p0.group)),au (((.int 1 x8.id.p0.index):SY)=(.int 1 x7.id.p0.index)),au (((.int 1 x8.id.p1.group):SY)=(.int 1 x7.id.p1.group)),au (((.int 1 x8.id.p1.index):SY)=(.int 1 x7.id.p1.index)),au (((.int 1 x8.id.p2.group):SY)=(.int 1 x7.id.p2.group)),au (((.int 1 x8.id.p2.index):SY)=(.int 1 x7.id.p2.index)),au (((.int 3 x8.floor):SY)=(.int 3 x7.floor)),au (((.imm x8.hp 5 aW x8.ps encP):SY)=(.imm x7.hp 5 aW x7.ps encP)),au (((.int 1 x8.rc):SY)=(.int 1 x7.rc)),au (((.str x8.rv):SY)=(.str x7.rv)),au (((.imm x8.hw 3 bg x8.ws bb):SY)=(.imm x7.hw 3 bg x7.ws bb)),au (((.int 1 x8.vic.node):SY)=(.int 1 x7.vic.node)),au (((.int 2 x8.vic.life):SY)=(.int 2 x7.vic.life))]) (mP (p.w.length+(Lib.itoa p.i).length≤9223372036854775807) (mP ((p.w++(Lib.itoa p.i)).length+t_14.length≤9223372036854775807) (aX (([.agg (br ({x7 with id:=⟨⟨x7.id.client.node,x7.id.client.life⟩,x7.id.seq,x7.id.depth,⟨x7.id.p0.group,x7.id.p0.index⟩,⟨x7.id.p1.group,x7.id.p1.index⟩,⟨x7.id.p2.group,x7.id.p2.index⟩⟩,vic:=⟨x7.vic.node,x7.vic.life⟩}:ai))],.leaf,0)) pq gx eg fun p4 r4=>mP (((p.w++(Lib.itoa p.i))++t_14).length+r4.s.length≤9223372036854775807) (mP ((((p.w++(Lib.itoa p.i))++t_14)++r4.s).length+t_9.length≤9223372036854775807) (mP (aL 0 (p.i+(1:Int))) (va ((.cons 5 (.sy (.int 0 (p.i+(1:Int)))) (.cons 4 (.sy (.int 0 0)) (.cons 3 (.sy (.str ((((p.w++(Lib.itoa p.i))++t_14)++r4.s)++t_9))) (.cons 0 (.ptr 0 0) .nil)))),(ba p.g),9) (eR p) K))))))) true)))) true))) (K 4 (.cons 4 (.sy (.int 0 0)) (.cons 3 (.sy (.str p.w)) (.cons 0 (.ptr 0 0) .nil))) (ba p.g) 9)) (iP (p.j=1) (iP (p.i<(p.g.o1.length:Int)) (mP (0≤p.i∧p.i<(p.g.o1.length:Int)) (mP (p.i.toNat<p.g.o1.length) (aA fun x5:ai=>iP (p.g.o1[p.i.toNat]?=some x5) (mP (aL 0 p.i) (mP (((.prow 6 p.g.o1.length):SY)=(.prow 6 p.g.o1.length)) (mP (p.i.toNat<p.g.o1.length) (aA fun x6:ai=>iP (p.g.o1[p.i.toNat]?=some x6) (ac (qL [au (((.int 1 x6.kind):SY)=(.int 1 x5.kind)),au (((.int 1 x6.id.client.node):SY)=(.int 1 x5.id.client.node)),au (((.int 2 x6.id.client.life):SY)=(.int 2 x5.id.client.life)),au (((.int 3 x6.id.seq):SY)=(.int 3 x5.id.seq)),au (((.int 1 x6.id.depth):SY)=(.int 1 x5.id.depth)),au (((.int 1 x6.id.p0.group):SY)=(.int 1 x5.id.p0.group)),au (((.int 1 x6.id.p0.index):SY)=(.int 1 x5.id.p0.index)),au (((.int 1 x6.id.p1.group):SY)=(.int 1 x5.id.p1.group)),au (((.int 1 x6.id.p1.index):SY)=(.int 1 x5.id.p1.index)),au (((.int 1 x6.id.p2.group):SY)=(.int 1 x5.id.p2.group)),au (((.int 1 x6.id.p2.index):SY)=(.int 1 x5.id.p2.index)),au (((.int 3 x6.floor):SY)=(.int 3 x5.floor)),au (((.imm x6.hp 5 aW x6.ps encP):SY)=(.imm x5.hp 5 aW x5.ps encP)),au (((.int 1 x6.rc):SY)=(.int 1 x5.rc)),au (((.str x6.rv):SY)=(.str x5.rv)),au (((.imm x6.hw 3 bg x6.ws bb):SY)=(.imm x5.hw 3 bg x5.ws bb)),au (((.int 1 x6.vic.node):SY)=(.int 1 x5.vic.node)),au (((.int 2 x6.vic.life):SY)=(.int 2 x5.vic.life))]) (mP (p.w.length+(Lib.itoa p.i).length≤9223372036854775807) (mP ((p.w++(Lib.itoa p.i)).length+t_14.length≤9223372036854775807) (aX (([.agg (br ({x5 with id:=⟨⟨x5.id.client.node,x5.id.client.life⟩,x5.id.seq,x5.id.depth,⟨x5.id.p0.group,x5.id.p0.index⟩,⟨x5.id.p1.group,x5.id.p1.index⟩,⟨x5.id.p2.group,x5.id.p2.index⟩⟩,vic:=⟨x5.vic.node,x5.vic.life⟩}:ai))],.leaf,0)) pq gx eg fun p3 r3=>mP (((p.w++(Lib.itoa p.i))++t_14).length+r3.s.length≤9223372036854775807) (mP ((((p.w++(Lib.itoa p.i))++t_14)++r3.s).length+t_9.length≤9223372036854775807) (mP (aL 0 (p.i+(1:Int))) (va ((.cons 5 (.sy (.int 0 (p.i+(1:Int)))) (.cons 4 (.sy (.int 0 1)) (.cons 3 (.sy (.str ((((p.w++(Lib.itoa p.i))++t_14)++r3.s)++t_9))) (.cons 0 (.ptr 0 0) .nil)))),(ba p.g),9) (eR p) K))))))) true)))) true))) (K 4 (.cons 4 (.sy (.int 0 1)) (.cons 3 (.sy (.str p.w)) (.cons 0 (.ptr 0 0) .nil))) (ba p.g) 9)) (iP (p.j=2) (iP (p.i<(p.g.o2.length:Int)) (mP (0≤p.i∧p.i<(p.g.o2.length:Int)) (mP (p.i.toNat<p.g.o2.length) (aA fun x3:ai=>iP (p.g.o2[p.i.toNat]?=some x3) (mP (aL 0 p.i) (mP (((.prow 7 p.g.o2.length):SY)=(.prow 7 p.g.o2.length)) (mP (p.i.toNat<p.g.o2.length) (aA fun x4:ai=>iP (p.g.o2[p.i.toNat]?=some x4) (ac (qL [au (((.int 1 x4.kind):SY)=(.int 1 x3.kind)),au (((.int 1 x4.id.client.node):SY)=(.int 1 x3.id.client.node)),au (((.int 2 x4.id.client.life):SY)=(.int 2 x3.id.client.life)),au (((.int 3 x4.id.seq):SY)=(.int 3 x3.id.seq)),au (((.int 1 x4.id.depth):SY)=(.int 1 x3.id.depth)),au (((.int 1 x4.id.p0.group):SY)=(.int 1 x3.id.p0.group)),au (((.int 1 x4.id.p0.index):SY)=(.int 1 x3.id.p0.index)),au (((.int 1 x4.id.p1.group):SY)=(.int 1 x3.id.p1.group)),au (((.int 1 x4.id.p1.index):SY)=(.int 1 x3.id.p1.index)),au (((.int 1 x4.id.p2.group):SY)=(.int 1 x3.id.p2.group)),au (((.int 1 x4.id.p2.index):SY)=(.int 1 x3.id.p2.index)),au (((.int 3 x4.floor):SY)=(.int 3 x3.floor)),au (((.imm x4.hp 5 aW x4.ps encP):SY)=(.imm x3.hp 5 aW x3.ps encP)),au (((.int 1 x4.rc):SY)=(.int 1 x3.rc)),au (((.str x4.rv):SY)=(.str x3.rv)),au (((.imm x4.hw 3 bg x4.ws bb):SY)=(.imm x3.hw 3 bg x3.ws bb)),au (((.int 1 x4.vic.node):SY)=(.int 1 x3.vic.node)),au (((.int 2 x4.vic.life):SY)=(.int 2 x3.vic.life))]) (mP (p.w.length+(Lib.itoa p.i).length≤9223372036854775807) (mP ((p.w++(Lib.itoa p.i)).length+t_14.length≤9223372036854775807) (aX (([.agg (br ({x3 with id:=⟨⟨x3.id.client.node,x3.id.client.life⟩,x3.id.seq,x3.id.depth,⟨x3.id.p0.group,x3.id.p0.index⟩,⟨x3.id.p1.group,x3.id.p1.index⟩,⟨x3.id.p2.group,x3.id.p2.index⟩⟩,vic:=⟨x3.vic.node,x3.vic.life⟩}:ai))],.leaf,0)) pq gx eg fun p2 r2=>mP (((p.w++(Lib.itoa p.i))++t_14).length+r2.s.length≤9223372036854775807) (mP ((((p.w++(Lib.itoa p.i))++t_14)++r2.s).length+t_9.length≤9223372036854775807) (mP (aL 0 (p.i+(1:Int))) (va ((.cons 5 (.sy (.int 0 (p.i+(1:Int)))) (.cons 4 (.sy (.int 0 2)) (.cons 3 (.sy (.str ((((p.w++(Lib.itoa p.i))++t_14)++r2.s)++t_9))) (.cons 0 (.ptr 0 0) .nil)))),(ba p.g),9) (eR p) K))))))) true)))) true))) (K 4 (.cons 4 (.sy (.int 0 2)) (.cons 3 (.sy (.str p.w)) (.cons 0 (.ptr 0 0) .nil))) (ba p.g) 9)) (iP (p.j=3) (iP (p.i<(p.g.o3.length:Int)) (mP (0≤p.i∧p.i<(p.g.o3.length:Int)) (mP (p.i.toNat<p.g.o3.length) (aA fun x1:ai=>iP (p.g.o3[p.i.toNat]?=some x1) (mP (aL 0 p.i) (mP (((.prow 8 p.g.o3.length):SY)=(.prow 8 p.g.o3.length)) (mP (p.i.toNat<p.g.o3.length) (aA fun x2:ai=>iP (p.g.o3[p.i.toNat]?=some x2) (ac (qL [au (((.int 1 x2.kind):SY)=(.int 1 x1.kind)),au (((.int 1 x2.id.client.node):SY)=(.int 1 x1.id.client.node)),au (((.int 2 x2.id.client.life):SY)=(.int 2 x1.id.client.life)),au (((.int 3 x2.id.seq):SY)=(.int 3 x1.id.seq)),au (((.int 1 x2.id.depth):SY)=(.int 1 x1.id.depth)),au (((.int 1 x2.id.p0.group):SY)=(.int 1 x1.id.p0.group)),au (((.int 1 x2.id.p0.index):SY)=(.int 1 x1.id.p0.index)),au (((.int 1 x2.id.p1.group):SY)=(.int 1 x1.id.p1.group)),au (((.int 1 x2.id.p1.index):SY)=(.int 1 x1.id.p1.index)),au (((.int 1 x2.id.p2.group):SY)=(.int 1 x1.id.p2.group)),au (((.int 1 x2.id.p2.index):SY)=(.int 1 x1.id.p2.index)),au (((.int 3 x2.floor):SY)=(.int 3 x1.floor)),au (((.imm x2.hp 5 aW x2.ps encP):SY)=(.imm x1.hp 5 aW x1.ps encP)),au (((.int 1 x2.rc):SY)=(.int 1 x1.rc)),au (((.str x2.rv):SY)=(.str x1.rv)),au (((.imm x2.hw 3 bg x2.ws bb):SY)=(.imm x1.hw 3 bg x1.ws bb)),au (((.int 1 x2.vic.node):SY)=(.int 1 x1.vic.node)),au (((.int 2 x2.vic.life):SY)=(.int 2 x1.vic.life))]) (mP (p.w.length+(Lib.itoa p.i).length≤9223372036854775807) (mP ((p.w++(Lib.itoa p.i)).length+t_14.length≤9223372036854775807) (aX (([.agg (br ({x1 with id:=⟨⟨x1.id.client.node,x1.id.client.life⟩,x1.id.seq,x1.id.depth,⟨x1.id.p0.group,x1.id.p0.index⟩,⟨x1.id.p1.group,x1.id.p1.index⟩,⟨x1.id.p2.group,x1.id.p2.index⟩⟩,vic:=⟨x1.vic.node,x1.vic.life⟩}:ai))],.leaf,0)) pq gx eg fun p1 r1=>mP (((p.w++(Lib.itoa p.i))++t_14).length+r1.s.length≤9223372036854775807) (mP ((((p.w++(Lib.itoa p.i))++t_14)++r1.s).length+t_9.length≤9223372036854775807) (mP (aL 0 (p.i+(1:Int))) (va ((.cons 5 (.sy (.int 0 (p.i+(1:Int)))) (.cons 4 (.sy (.int 0 3)) (.cons 3 (.sy (.str ((((p.w++(Lib.itoa p.i))++t_14)++r1.s)++t_9))) (.cons 0 (.ptr 0 0) .nil)))),(ba p.g),9) (eR p) K))))))) true)))) true))) (K 4 (.cons 4 (.sy (.int 0 3)) (.cons 3 (.sy (.str p.w)) (.cons 0 (.ptr 0 0) .nil))) (ba p.g) 9)) (mP (False) (true))))))) (by kernel_rfl) ?_
 dsimp only[cC]at hpre
 obtain⟨⟨g0,g1⟩,ga,gl,g2,g3,g4⟩:=hpre
 have gl2:=gl
 unfold bD at gl2
 unfold oe at ga
 have qi:=Lib.itoa_length_le p.i (by omega) (by omega)
 refine iI (fun hc1=> ?_) (fun hc1=> ?_)
 refine iI (fun hc2=> ?_) (fun hc2=> ?_)
 refine dL (fX ?_)
 refine aB (fun x7=> ?_)
 refine iI (fun hi3=> ?_) (fun _=>rfl)
 have hx_x7:bp x7:=(by first|exact ga.2.2.1 _ (acH (by assumption:p.g.o0[p.i.toNat]?=some x7))|exact ga.2.2.2.1 _ (acH (by assumption:p.g.o1[p.i.toNat]?=some x7))|exact ga.2.2.2.2.1 _ (acH (by assumption:p.g.o2[p.i.toNat]?=some x7))|exact ga.2.2.2.2.2 _ (acH (by assumption:p.g.o3[p.i.toNat]?=some x7)))
 refine aN (az (fX ?_))
 refine aB (fun x8=> ?_)
 refine iI (fun hi4=> ?_) (fun _=>rfl)
 have hx_x8:bp x8:=(by first|exact ga.2.2.1 _ (acH (by assumption:p.g.o0[p.i.toNat]?=some x8))|exact ga.2.2.2.1 _ (acH (by assumption:p.g.o1[p.i.toNat]?=some x8))|exact ga.2.2.2.2.1 _ (acH (by assumption:p.g.o2[p.i.toNat]?=some x8))|exact ga.2.2.2.2.2 _ (acH (by assumption:p.g.o3[p.i.toNat]?=some x8)))
 refine aM (by have e2l:x8=x7:=ac1 ((by assumption:_=some x8).symm.trans (by assumption:_=some x7));subst e2l;simp[qL,au]) ?_
 refine bq (bq ?_)
 refine aJ (⟨({x7 with id:=⟨⟨x7.id.client.node,x7.id.client.life⟩,x7.id.seq,x7.id.depth,⟨x7.id.p0.group,x7.id.p0.index⟩,⟨x7.id.p1.group,x7.id.p1.index⟩,⟨x7.id.p2.group,x7.id.p2.index⟩⟩,vic:=⟨x7.vic.node,x7.vic.life⟩}:ai)⟩:lB) rfl (by(try dsimp only[gx]);assumption) fun r4 hi5=> ?_
 dsimp only[eg]at hi5
 refine bq (bq (aN ?_))
 exact Ai (q:=⟨p.g,(((p.w++(Lib.itoa p.i))++t_14)++r4.s)++t_9,(0:Int),p.i+(1:Int)⟩) (by dsimp only[eR];omega) (by dsimp only[cC];exact⟨⟨by omega,by omega⟩,ga,gl,by omega,(by(try simp only[acC,acE,acD,acF]);omega),by omega⟩) (by first|(have hg:=(by assumption:p.j=0);exact aV hK fun r hz=>⟨(fw (k:=jT (aS p.g) 0) (l:=p.g.o0) rfl g2 (by assumption) hi5.1 hz.1).trans (by rw[hg]),by have h7:=hz.2.1;(try dsimp only at h7);omega,hz.2.2.trans hg.symm⟩)|(have hg:=(by assumption:p.j=1);exact aV hK fun r hz=>⟨(fw (k:=jT (aS p.g) 1) (l:=p.g.o1) rfl g2 (by assumption) hi5.1 hz.1).trans (by rw[hg]),by have h7:=hz.2.1;(try dsimp only at h7);omega,hz.2.2.trans hg.symm⟩)|(have hg:=(by assumption:p.j=2);exact aV hK fun r hz=>⟨(fw (k:=jT (aS p.g) 2) (l:=p.g.o2) rfl g2 (by assumption) hi5.1 hz.1).trans (by rw[hg]),by have h7:=hz.2.1;(try dsimp only at h7);omega,hz.2.2.trans hg.symm⟩)|(have hg:=(by assumption:p.j=3);exact aV hK fun r hz=>⟨(fw (k:=jT (aS p.g) 3) (l:=p.g.o3) rfl g2 (by assumption) hi5.1 hz.1).trans (by rw[hg]),by have h7:=hz.2.1;(try dsimp only at h7);omega,hz.2.2.trans hg.symm⟩)) rfl
 exact wq hK ⟨p.w,(0:Int)⟩ (by dsimp only[dg]<;>(first|(have hg:=(by assumption:p.j=0);exact⟨by rw[dy (l:=p.g.o0) (by rw[hg];rfl) (by omega)];simp,by omega,hg.symm⟩)|(have hg:=(by assumption:p.j=1);exact⟨by rw[dy (l:=p.g.o1) (by rw[hg];rfl) (by omega)];simp,by omega,hg.symm⟩)|(have hg:=(by assumption:p.j=2);exact⟨by rw[dy (l:=p.g.o2) (by rw[hg];rfl) (by omega)];simp,by omega,hg.symm⟩)|(have hg:=(by assumption:p.j=3);exact⟨by rw[dy (l:=p.g.o3) (by rw[hg];rfl) (by omega)];simp,by omega,hg.symm⟩)))
 refine iI (fun hc6=> ?_) (fun hc6=> ?_)
 refine iI (fun hc7=> ?_) (fun hc7=> ?_)
 refine dL (fX ?_)
 refine aB (fun x5=> ?_)
 refine iI (fun hi8=> ?_) (fun _=>rfl)
 have hx_x5:bp x5:=(by first|exact ga.2.2.1 _ (acH (by assumption:p.g.o0[p.i.toNat]?=some x5))|exact ga.2.2.2.1 _ (acH (by assumption:p.g.o1[p.i.toNat]?=some x5))|exact ga.2.2.2.2.1 _ (acH (by assumption:p.g.o2[p.i.toNat]?=some x5))|exact ga.2.2.2.2.2 _ (acH (by assumption:p.g.o3[p.i.toNat]?=some x5)))
 refine aN (az (fX ?_))
 refine aB (fun x6=> ?_)
 refine iI (fun hi9=> ?_) (fun _=>rfl)
 have hx_x6:bp x6:=(by first|exact ga.2.2.1 _ (acH (by assumption:p.g.o0[p.i.toNat]?=some x6))|exact ga.2.2.2.1 _ (acH (by assumption:p.g.o1[p.i.toNat]?=some x6))|exact ga.2.2.2.2.1 _ (acH (by assumption:p.g.o2[p.i.toNat]?=some x6))|exact ga.2.2.2.2.2 _ (acH (by assumption:p.g.o3[p.i.toNat]?=some x6)))
 refine aM (by have e2l:x6=x5:=ac1 ((by assumption:_=some x6).symm.trans (by assumption:_=some x5));subst e2l;simp[qL,au]) ?_
 refine bq (bq ?_)
 refine aJ (⟨({x5 with id:=⟨⟨x5.id.client.node,x5.id.client.life⟩,x5.id.seq,x5.id.depth,⟨x5.id.p0.group,x5.id.p0.index⟩,⟨x5.id.p1.group,x5.id.p1.index⟩,⟨x5.id.p2.group,x5.id.p2.index⟩⟩,vic:=⟨x5.vic.node,x5.vic.life⟩}:ai)⟩:lB) rfl (by(try dsimp only[gx]);assumption) fun r3 hi10=> ?_
 dsimp only[eg]at hi10
 refine bq (bq (aN ?_))
 exact Ai (q:=⟨p.g,(((p.w++(Lib.itoa p.i))++t_14)++r3.s)++t_9,(1:Int),p.i+(1:Int)⟩) (by dsimp only[eR];omega) (by dsimp only[cC];exact⟨⟨by omega,by omega⟩,ga,gl,by omega,(by(try simp only[acC,acE,acD,acF]);omega),by omega⟩) (by first|(have hg:=(by assumption:p.j=0);exact aV hK fun r hz=>⟨(fw (k:=jT (aS p.g) 0) (l:=p.g.o0) rfl g2 (by assumption) hi10.1 hz.1).trans (by rw[hg]),by have h7:=hz.2.1;(try dsimp only at h7);omega,hz.2.2.trans hg.symm⟩)|(have hg:=(by assumption:p.j=1);exact aV hK fun r hz=>⟨(fw (k:=jT (aS p.g) 1) (l:=p.g.o1) rfl g2 (by assumption) hi10.1 hz.1).trans (by rw[hg]),by have h7:=hz.2.1;(try dsimp only at h7);omega,hz.2.2.trans hg.symm⟩)|(have hg:=(by assumption:p.j=2);exact aV hK fun r hz=>⟨(fw (k:=jT (aS p.g) 2) (l:=p.g.o2) rfl g2 (by assumption) hi10.1 hz.1).trans (by rw[hg]),by have h7:=hz.2.1;(try dsimp only at h7);omega,hz.2.2.trans hg.symm⟩)|(have hg:=(by assumption:p.j=3);exact aV hK fun r hz=>⟨(fw (k:=jT (aS p.g) 3) (l:=p.g.o3) rfl g2 (by assumption) hi10.1 hz.1).trans (by rw[hg]),by have h7:=hz.2.1;(try dsimp only at h7);omega,hz.2.2.trans hg.symm⟩)) rfl
 exact wq hK ⟨p.w,(1:Int)⟩ (by dsimp only[dg]<;>(first|(have hg:=(by assumption:p.j=0);exact⟨by rw[dy (l:=p.g.o0) (by rw[hg];rfl) (by omega)];simp,by omega,hg.symm⟩)|(have hg:=(by assumption:p.j=1);exact⟨by rw[dy (l:=p.g.o1) (by rw[hg];rfl) (by omega)];simp,by omega,hg.symm⟩)|(have hg:=(by assumption:p.j=2);exact⟨by rw[dy (l:=p.g.o2) (by rw[hg];rfl) (by omega)];simp,by omega,hg.symm⟩)|(have hg:=(by assumption:p.j=3);exact⟨by rw[dy (l:=p.g.o3) (by rw[hg];rfl) (by omega)];simp,by omega,hg.symm⟩)))
 refine iI (fun hc11=> ?_) (fun hc11=> ?_)
 refine iI (fun hc12=> ?_) (fun hc12=> ?_)
 refine dL (fX ?_)
 refine aB (fun x3=> ?_)
 refine iI (fun hi13=> ?_) (fun _=>rfl)
 have hx_x3:bp x3:=(by first|exact ga.2.2.1 _ (acH (by assumption:p.g.o0[p.i.toNat]?=some x3))|exact ga.2.2.2.1 _ (acH (by assumption:p.g.o1[p.i.toNat]?=some x3))|exact ga.2.2.2.2.1 _ (acH (by assumption:p.g.o2[p.i.toNat]?=some x3))|exact ga.2.2.2.2.2 _ (acH (by assumption:p.g.o3[p.i.toNat]?=some x3)))
 refine aN (az (fX ?_))
 refine aB (fun x4=> ?_)
 refine iI (fun hi14=> ?_) (fun _=>rfl)
 have hx_x4:bp x4:=(by first|exact ga.2.2.1 _ (acH (by assumption:p.g.o0[p.i.toNat]?=some x4))|exact ga.2.2.2.1 _ (acH (by assumption:p.g.o1[p.i.toNat]?=some x4))|exact ga.2.2.2.2.1 _ (acH (by assumption:p.g.o2[p.i.toNat]?=some x4))|exact ga.2.2.2.2.2 _ (acH (by assumption:p.g.o3[p.i.toNat]?=some x4)))
 refine aM (by have e2l:x4=x3:=ac1 ((by assumption:_=some x4).symm.trans (by assumption:_=some x3));subst e2l;simp[qL,au]) ?_
 refine bq (bq ?_)
 refine aJ (⟨({x3 with id:=⟨⟨x3.id.client.node,x3.id.client.life⟩,x3.id.seq,x3.id.depth,⟨x3.id.p0.group,x3.id.p0.index⟩,⟨x3.id.p1.group,x3.id.p1.index⟩,⟨x3.id.p2.group,x3.id.p2.index⟩⟩,vic:=⟨x3.vic.node,x3.vic.life⟩}:ai)⟩:lB) rfl (by(try dsimp only[gx]);assumption) fun r2 hi15=> ?_
 dsimp only[eg]at hi15
 refine bq (bq (aN ?_))
 exact Ai (q:=⟨p.g,(((p.w++(Lib.itoa p.i))++t_14)++r2.s)++t_9,(2:Int),p.i+(1:Int)⟩) (by dsimp only[eR];omega) (by dsimp only[cC];exact⟨⟨by omega,by omega⟩,ga,gl,by omega,(by(try simp only[acC,acE,acD,acF]);omega),by omega⟩) (by first|(have hg:=(by assumption:p.j=0);exact aV hK fun r hz=>⟨(fw (k:=jT (aS p.g) 0) (l:=p.g.o0) rfl g2 (by assumption) hi15.1 hz.1).trans (by rw[hg]),by have h7:=hz.2.1;(try dsimp only at h7);omega,hz.2.2.trans hg.symm⟩)|(have hg:=(by assumption:p.j=1);exact aV hK fun r hz=>⟨(fw (k:=jT (aS p.g) 1) (l:=p.g.o1) rfl g2 (by assumption) hi15.1 hz.1).trans (by rw[hg]),by have h7:=hz.2.1;(try dsimp only at h7);omega,hz.2.2.trans hg.symm⟩)|(have hg:=(by assumption:p.j=2);exact aV hK fun r hz=>⟨(fw (k:=jT (aS p.g) 2) (l:=p.g.o2) rfl g2 (by assumption) hi15.1 hz.1).trans (by rw[hg]),by have h7:=hz.2.1;(try dsimp only at h7);omega,hz.2.2.trans hg.symm⟩)|(have hg:=(by assumption:p.j=3);exact aV hK fun r hz=>⟨(fw (k:=jT (aS p.g) 3) (l:=p.g.o3) rfl g2 (by assumption) hi15.1 hz.1).trans (by rw[hg]),by have h7:=hz.2.1;(try dsimp only at h7);omega,hz.2.2.trans hg.symm⟩)) rfl
 exact wq hK ⟨p.w,(2:Int)⟩ (by dsimp only[dg]<;>(first|(have hg:=(by assumption:p.j=0);exact⟨by rw[dy (l:=p.g.o0) (by rw[hg];rfl) (by omega)];simp,by omega,hg.symm⟩)|(have hg:=(by assumption:p.j=1);exact⟨by rw[dy (l:=p.g.o1) (by rw[hg];rfl) (by omega)];simp,by omega,hg.symm⟩)|(have hg:=(by assumption:p.j=2);exact⟨by rw[dy (l:=p.g.o2) (by rw[hg];rfl) (by omega)];simp,by omega,hg.symm⟩)|(have hg:=(by assumption:p.j=3);exact⟨by rw[dy (l:=p.g.o3) (by rw[hg];rfl) (by omega)];simp,by omega,hg.symm⟩)))
 refine iI (fun hc16=> ?_) (fun hc16=> ?_)
 refine iI (fun hc17=> ?_) (fun hc17=> ?_)
 refine dL (fX ?_)
 refine aB (fun x1=> ?_)
 refine iI (fun hi18=> ?_) (fun _=>rfl)
 have hx_x1:bp x1:=(by first|exact ga.2.2.1 _ (acH (by assumption:p.g.o0[p.i.toNat]?=some x1))|exact ga.2.2.2.1 _ (acH (by assumption:p.g.o1[p.i.toNat]?=some x1))|exact ga.2.2.2.2.1 _ (acH (by assumption:p.g.o2[p.i.toNat]?=some x1))|exact ga.2.2.2.2.2 _ (acH (by assumption:p.g.o3[p.i.toNat]?=some x1)))
 refine aN (az (fX ?_))
 refine aB (fun x2=> ?_)
 refine iI (fun hi19=> ?_) (fun _=>rfl)
 have hx_x2:bp x2:=(by first|exact ga.2.2.1 _ (acH (by assumption:p.g.o0[p.i.toNat]?=some x2))|exact ga.2.2.2.1 _ (acH (by assumption:p.g.o1[p.i.toNat]?=some x2))|exact ga.2.2.2.2.1 _ (acH (by assumption:p.g.o2[p.i.toNat]?=some x2))|exact ga.2.2.2.2.2 _ (acH (by assumption:p.g.o3[p.i.toNat]?=some x2)))
 refine aM (by have e2l:x2=x1:=ac1 ((by assumption:_=some x2).symm.trans (by assumption:_=some x1));subst e2l;simp[qL,au]) ?_
 refine bq (bq ?_)
 refine aJ (⟨({x1 with id:=⟨⟨x1.id.client.node,x1.id.client.life⟩,x1.id.seq,x1.id.depth,⟨x1.id.p0.group,x1.id.p0.index⟩,⟨x1.id.p1.group,x1.id.p1.index⟩,⟨x1.id.p2.group,x1.id.p2.index⟩⟩,vic:=⟨x1.vic.node,x1.vic.life⟩}:ai)⟩:lB) rfl (by(try dsimp only[gx]);assumption) fun r1 hi20=> ?_
 dsimp only[eg]at hi20
 refine bq (bq (aN ?_))
 exact Ai (q:=⟨p.g,(((p.w++(Lib.itoa p.i))++t_14)++r1.s)++t_9,(3:Int),p.i+(1:Int)⟩) (by dsimp only[eR];omega) (by dsimp only[cC];exact⟨⟨by omega,by omega⟩,ga,gl,by omega,(by(try simp only[acC,acE,acD,acF]);omega),by omega⟩) (by first|(have hg:=(by assumption:p.j=0);exact aV hK fun r hz=>⟨(fw (k:=jT (aS p.g) 0) (l:=p.g.o0) rfl g2 (by assumption) hi20.1 hz.1).trans (by rw[hg]),by have h7:=hz.2.1;(try dsimp only at h7);omega,hz.2.2.trans hg.symm⟩)|(have hg:=(by assumption:p.j=1);exact aV hK fun r hz=>⟨(fw (k:=jT (aS p.g) 1) (l:=p.g.o1) rfl g2 (by assumption) hi20.1 hz.1).trans (by rw[hg]),by have h7:=hz.2.1;(try dsimp only at h7);omega,hz.2.2.trans hg.symm⟩)|(have hg:=(by assumption:p.j=2);exact aV hK fun r hz=>⟨(fw (k:=jT (aS p.g) 2) (l:=p.g.o2) rfl g2 (by assumption) hi20.1 hz.1).trans (by rw[hg]),by have h7:=hz.2.1;(try dsimp only at h7);omega,hz.2.2.trans hg.symm⟩)|(have hg:=(by assumption:p.j=3);exact aV hK fun r hz=>⟨(fw (k:=jT (aS p.g) 3) (l:=p.g.o3) rfl g2 (by assumption) hi20.1 hz.1).trans (by rw[hg]),by have h7:=hz.2.1;(try dsimp only at h7);omega,hz.2.2.trans hg.symm⟩)) rfl
 exact wq hK ⟨p.w,(3:Int)⟩ (by dsimp only[dg]<;>(first|(have hg:=(by assumption:p.j=0);exact⟨by rw[dy (l:=p.g.o0) (by rw[hg];rfl) (by omega)];simp,by omega,hg.symm⟩)|(have hg:=(by assumption:p.j=1);exact⟨by rw[dy (l:=p.g.o1) (by rw[hg];rfl) (by omega)];simp,by omega,hg.symm⟩)|(have hg:=(by assumption:p.j=2);exact⟨by rw[dy (l:=p.g.o2) (by rw[hg];rfl) (by omega)];simp,by omega,hg.symm⟩)|(have hg:=(by assumption:p.j=3);exact⟨by rw[dy (l:=p.g.o3) (by rw[hg];rfl) (by omega)];simp,by omega,hg.symm⟩)))
 refine fX ?_
 rfl
theorem Vr:dI Tryz.prog 53 1 no true 0 FL:=by
 exact dM (lf:=600) bv (aT oq) (by rfl) fy eR yy (fun b j x h=>by cases h) (fun S M nx K h=>by obtain⟨p,h⟩:=bL h;exact⟨p,(aa h).1,(aa h).2⟩) (fun p K h=>Uw p K (aa h).1 (aa h).2)
def cJ (p:gU):Nat:=(4 - p.j).toNat
noncomputable def jr (s:IL) (n:Nat) (K:KC):Bool:=aI fun q=>mP (s=kT q∧cJ q<n) (vF q K)
theorem kq {p q:gU} {K:KC} {s:IL} (hm:cJ q<cJ p) (hp:dX q) (hK:tq q K=true) (e:s=kT q):jr s (cJ p) K=true:=aG q (bf ⟨e,hm⟩ (bf hp hK))
theorem Sm (p:gU) (K:KC) (hpre:dX p) (hK:tq p K=true):(cQ (bH pZ) no 600 Cl (kT p).1 (kT p).2.1 (kT p).2.2 (fun e S M nx=>Nat.casesOn e (aI fun q:gU=>ac (au ((S,M,nx)=kT q∧cJ q<cJ p)) (vF q K)) (fun e2=>K (Nat.succ e2) S M nx)))=true:=by
 refine Eq.trans (b:=(iP (p.j<(4:Int)) (iP (p.j=0) (iP ((0:Int)<(p.g.o0.length:Int)) (mP (p.w.length+t_15.length≤9223372036854775807) (mP (aL 0 (0:Int)) (mP ((p.w++t_15).length+(Lib.itoa (0:Int)).length≤9223372036854775807) (mP (((p.w++t_15)++(Lib.itoa (0:Int))).length+t_9.length≤9223372036854775807) (aX (((.cons 5 (.sy (.int 0 0)) (.cons 4 (.sy (.int 0 0)) (.cons 3 (.sy (.str (((p.w++t_15)++(Lib.itoa (0:Int)))++t_9))) (.cons 0 (.ptr 0 0) .nil)))),(ba p.g),9)) fy cC dg fun p7 r7=>mP (aL 0 (r7.jj+(1:Int))) (jr ((.cons 4 (.sy (.int 0 (r7.jj+(1:Int)))) (.cons 3 (.sy (.str r7.r)) (.cons 0 (.ptr 0 0) .nil))),(ba p7.g),9) (cJ p) K)))))) (aX (((.cons 5 (.sy (.int 0 0)) (.cons 4 (.sy (.int 0 0)) (.cons 3 (.sy (.str p.w)) (.cons 0 (.ptr 0 0) .nil)))),(ba p.g),9)) fy cC dg fun p8 r8=>mP (aL 0 (r8.jj+(1:Int))) (jr ((.cons 4 (.sy (.int 0 (r8.jj+(1:Int)))) (.cons 3 (.sy (.str r8.r)) (.cons 0 (.ptr 0 0) .nil))),(ba p8.g),9) (cJ p) K))) (iP (p.j=1) (iP ((0:Int)<(p.g.o1.length:Int)) (mP (p.w.length+t_15.length≤9223372036854775807) (mP (aL 0 (1:Int)) (mP ((p.w++t_15).length+(Lib.itoa (1:Int)).length≤9223372036854775807) (mP (((p.w++t_15)++(Lib.itoa (1:Int))).length+t_9.length≤9223372036854775807) (aX (((.cons 5 (.sy (.int 0 0)) (.cons 4 (.sy (.int 0 1)) (.cons 3 (.sy (.str (((p.w++t_15)++(Lib.itoa (1:Int)))++t_9))) (.cons 0 (.ptr 0 0) .nil)))),(ba p.g),9)) fy cC dg fun p5 r5=>mP (aL 0 (r5.jj+(1:Int))) (jr ((.cons 4 (.sy (.int 0 (r5.jj+(1:Int)))) (.cons 3 (.sy (.str r5.r)) (.cons 0 (.ptr 0 0) .nil))),(ba p5.g),9) (cJ p) K)))))) (aX (((.cons 5 (.sy (.int 0 0)) (.cons 4 (.sy (.int 0 1)) (.cons 3 (.sy (.str p.w)) (.cons 0 (.ptr 0 0) .nil)))),(ba p.g),9)) fy cC dg fun p6 r6=>mP (aL 0 (r6.jj+(1:Int))) (jr ((.cons 4 (.sy (.int 0 (r6.jj+(1:Int)))) (.cons 3 (.sy (.str r6.r)) (.cons 0 (.ptr 0 0) .nil))),(ba p6.g),9) (cJ p) K))) (iP (p.j=2) (iP ((0:Int)<(p.g.o2.length:Int)) (mP (p.w.length+t_15.length≤9223372036854775807) (mP (aL 0 (2:Int)) (mP ((p.w++t_15).length+(Lib.itoa (2:Int)).length≤9223372036854775807) (mP (((p.w++t_15)++(Lib.itoa (2:Int))).length+t_9.length≤9223372036854775807) (aX (((.cons 5 (.sy (.int 0 0)) (.cons 4 (.sy (.int 0 2)) (.cons 3 (.sy (.str (((p.w++t_15)++(Lib.itoa (2:Int)))++t_9))) (.cons 0 (.ptr 0 0) .nil)))),(ba p.g),9)) fy cC dg fun p3 r3=>mP (aL 0 (r3.jj+(1:Int))) (jr ((.cons 4 (.sy (.int 0 (r3.jj+(1:Int)))) (.cons 3 (.sy (.str r3.r)) (.cons 0 (.ptr 0 0) .nil))),(ba p3.g),9) (cJ p) K)))))) (aX (((.cons 5 (.sy (.int 0 0)) (.cons 4 (.sy (.int 0 2)) (.cons 3 (.sy (.str p.w)) (.cons 0 (.ptr 0 0) .nil)))),(ba p.g),9)) fy cC dg fun p4 r4=>mP (aL 0 (r4.jj+(1:Int))) (jr ((.cons 4 (.sy (.int 0 (r4.jj+(1:Int)))) (.cons 3 (.sy (.str r4.r)) (.cons 0 (.ptr 0 0) .nil))),(ba p4.g),9) (cJ p) K))) (iP (p.j=3) (iP ((0:Int)<(p.g.o3.length:Int)) (mP (p.w.length+t_15.length≤9223372036854775807) (mP (aL 0 (3:Int)) (mP ((p.w++t_15).length+(Lib.itoa (3:Int)).length≤9223372036854775807) (mP (((p.w++t_15)++(Lib.itoa (3:Int))).length+t_9.length≤9223372036854775807) (aX (((.cons 5 (.sy (.int 0 0)) (.cons 4 (.sy (.int 0 3)) (.cons 3 (.sy (.str (((p.w++t_15)++(Lib.itoa (3:Int)))++t_9))) (.cons 0 (.ptr 0 0) .nil)))),(ba p.g),9)) fy cC dg fun p1 r1=>mP (aL 0 (r1.jj+(1:Int))) (jr ((.cons 4 (.sy (.int 0 (r1.jj+(1:Int)))) (.cons 3 (.sy (.str r1.r)) (.cons 0 (.ptr 0 0) .nil))),(ba p1.g),9) (cJ p) K)))))) (aX (((.cons 5 (.sy (.int 0 0)) (.cons 4 (.sy (.int 0 3)) (.cons 3 (.sy (.str p.w)) (.cons 0 (.ptr 0 0) .nil)))),(ba p.g),9)) fy cC dg fun p2 r2=>mP (aL 0 (r2.jj+(1:Int))) (jr ((.cons 4 (.sy (.int 0 (r2.jj+(1:Int)))) (.cons 3 (.sy (.str r2.r)) (.cons 0 (.ptr 0 0) .nil))),(ba p2.g),9) (cJ p) K))) (mP (False) (true)))))) (K 2 (.cons 3 (.sy (.str p.w)) .nil) (ba p.g) 9))) (by kernel_rfl) ?_
 dsimp only[dX]at hpre
 obtain⟨⟨g0,g1⟩,ga,gl,g2⟩:=hpre
 have gl2:=gl
 unfold bD at gl2
 have qi0:=dQ
 have qi1:=dP
 have qi2:=dO
 have qi3:=dN
 have qj:=Lib.itoa_length_le p.j (by omega) (by omega)
 refine iI (fun hc1=> ?_) (fun hc1=> ?_)
 refine iI (fun hc2=> ?_) (fun hc2=> ?_)
 refine iI (fun hc3=> ?_) (fun hc3=> ?_)
 refine AQ (aN (AQ (AQ ?_)))
 refine aJ (⟨p.g,((p.w++t_15)++(Lib.itoa (0:Int)))++t_9,(0:Int),(0:Int)⟩:eu) rfl (by(try dsimp only[cC]);exact⟨⟨by omega,by omega⟩,ga,gl,by omega,(by(try simp only[acC,acE,acD,acF,dQ,dP,dO,dN]);omega),by omega⟩) fun r7 hi4=> ?_
 dsimp only[dg]at hi4
 refine aN ?_
 exact kq (q:=⟨p.g,r7.r,r7.jj+(1:Int)⟩) (by dsimp only[cJ];omega) (by dsimp only[dX];exact⟨⟨by omega,by omega⟩,ga,gl,by omega⟩) (by first|(have hg:=(by assumption:p.j=0);exact aV hK fun r hz=>(by first|exact hz.trans (cw (k:=aS p.g) hg g0 (by omega) (by(try dsimp only);omega) (by show(List.map aq p.g.o0).length=0;rw[acE];omega) hi4.1)|exact hz.trans (cx (k:=aS p.g) hg g0 (by omega) (by(try dsimp only);omega) (by show¬(List.map aq p.g.o0).length=0;rw[acE];omega) (by simp[dQ]) hi4.1)))|(have hg:=(by assumption:p.j=1);exact aV hK fun r hz=>(by first|exact hz.trans (cw (k:=aS p.g) hg g0 (by omega) (by(try dsimp only);omega) (by show(List.map aq p.g.o1).length=0;rw[acE];omega) hi4.1)|exact hz.trans (cx (k:=aS p.g) hg g0 (by omega) (by(try dsimp only);omega) (by show¬(List.map aq p.g.o1).length=0;rw[acE];omega) (by simp[dP]) hi4.1)))|(have hg:=(by assumption:p.j=2);exact aV hK fun r hz=>(by first|exact hz.trans (cw (k:=aS p.g) hg g0 (by omega) (by(try dsimp only);omega) (by show(List.map aq p.g.o2).length=0;rw[acE];omega) hi4.1)|exact hz.trans (cx (k:=aS p.g) hg g0 (by omega) (by(try dsimp only);omega) (by show¬(List.map aq p.g.o2).length=0;rw[acE];omega) (by simp[dO]) hi4.1)))|(have hg:=(by assumption:p.j=3);exact aV hK fun r hz=>(by first|exact hz.trans (cw (k:=aS p.g) hg g0 (by omega) (by(try dsimp only);omega) (by show(List.map aq p.g.o3).length=0;rw[acE];omega) hi4.1)|exact hz.trans (cx (k:=aS p.g) hg g0 (by omega) (by(try dsimp only);omega) (by show¬(List.map aq p.g.o3).length=0;rw[acE];omega) (by simp[dN]) hi4.1)))) rfl
 refine aJ (⟨p.g,p.w,(0:Int),(0:Int)⟩:eu) rfl (by(try dsimp only[cC]);exact⟨⟨by omega,by omega⟩,ga,gl,by omega,(by(try simp only[acC,acE,acD,acF,dQ,dP,dO,dN]);omega),by omega⟩) fun r8 hi5=> ?_
 dsimp only[dg]at hi5
 refine aN ?_
 exact kq (q:=⟨p.g,r8.r,r8.jj+(1:Int)⟩) (by dsimp only[cJ];omega) (by dsimp only[dX];exact⟨⟨by omega,by omega⟩,ga,gl,by omega⟩) (by first|(have hg:=(by assumption:p.j=0);exact aV hK fun r hz=>(by first|exact hz.trans (cw (k:=aS p.g) hg g0 (by omega) (by(try dsimp only);omega) (by show(List.map aq p.g.o0).length=0;rw[acE];omega) hi5.1)|exact hz.trans (cx (k:=aS p.g) hg g0 (by omega) (by(try dsimp only);omega) (by show¬(List.map aq p.g.o0).length=0;rw[acE];omega) (by simp[dQ]) hi5.1)))|(have hg:=(by assumption:p.j=1);exact aV hK fun r hz=>(by first|exact hz.trans (cw (k:=aS p.g) hg g0 (by omega) (by(try dsimp only);omega) (by show(List.map aq p.g.o1).length=0;rw[acE];omega) hi5.1)|exact hz.trans (cx (k:=aS p.g) hg g0 (by omega) (by(try dsimp only);omega) (by show¬(List.map aq p.g.o1).length=0;rw[acE];omega) (by simp[dP]) hi5.1)))|(have hg:=(by assumption:p.j=2);exact aV hK fun r hz=>(by first|exact hz.trans (cw (k:=aS p.g) hg g0 (by omega) (by(try dsimp only);omega) (by show(List.map aq p.g.o2).length=0;rw[acE];omega) hi5.1)|exact hz.trans (cx (k:=aS p.g) hg g0 (by omega) (by(try dsimp only);omega) (by show¬(List.map aq p.g.o2).length=0;rw[acE];omega) (by simp[dO]) hi5.1)))|(have hg:=(by assumption:p.j=3);exact aV hK fun r hz=>(by first|exact hz.trans (cw (k:=aS p.g) hg g0 (by omega) (by(try dsimp only);omega) (by show(List.map aq p.g.o3).length=0;rw[acE];omega) hi5.1)|exact hz.trans (cx (k:=aS p.g) hg g0 (by omega) (by(try dsimp only);omega) (by show¬(List.map aq p.g.o3).length=0;rw[acE];omega) (by simp[dN]) hi5.1)))) rfl
 refine iI (fun hc6=> ?_) (fun hc6=> ?_)
 refine iI (fun hc7=> ?_) (fun hc7=> ?_)
 refine AQ (aN (AQ (AQ ?_)))
 refine aJ (⟨p.g,((p.w++t_15)++(Lib.itoa (1:Int)))++t_9,(1:Int),(0:Int)⟩:eu) rfl (by(try dsimp only[cC]);exact⟨⟨by omega,by omega⟩,ga,gl,by omega,(by(try simp only[acC,acE,acD,acF,dQ,dP,dO,dN]);omega),by omega⟩) fun r5 hi8=> ?_
 dsimp only[dg]at hi8
 refine aN ?_
 exact kq (q:=⟨p.g,r5.r,r5.jj+(1:Int)⟩) (by dsimp only[cJ];omega) (by dsimp only[dX];exact⟨⟨by omega,by omega⟩,ga,gl,by omega⟩) (by first|(have hg:=(by assumption:p.j=0);exact aV hK fun r hz=>(by first|exact hz.trans (cw (k:=aS p.g) hg g0 (by omega) (by(try dsimp only);omega) (by show(List.map aq p.g.o0).length=0;rw[acE];omega) hi8.1)|exact hz.trans (cx (k:=aS p.g) hg g0 (by omega) (by(try dsimp only);omega) (by show¬(List.map aq p.g.o0).length=0;rw[acE];omega) (by simp[dQ]) hi8.1)))|(have hg:=(by assumption:p.j=1);exact aV hK fun r hz=>(by first|exact hz.trans (cw (k:=aS p.g) hg g0 (by omega) (by(try dsimp only);omega) (by show(List.map aq p.g.o1).length=0;rw[acE];omega) hi8.1)|exact hz.trans (cx (k:=aS p.g) hg g0 (by omega) (by(try dsimp only);omega) (by show¬(List.map aq p.g.o1).length=0;rw[acE];omega) (by simp[dP]) hi8.1)))|(have hg:=(by assumption:p.j=2);exact aV hK fun r hz=>(by first|exact hz.trans (cw (k:=aS p.g) hg g0 (by omega) (by(try dsimp only);omega) (by show(List.map aq p.g.o2).length=0;rw[acE];omega) hi8.1)|exact hz.trans (cx (k:=aS p.g) hg g0 (by omega) (by(try dsimp only);omega) (by show¬(List.map aq p.g.o2).length=0;rw[acE];omega) (by simp[dO]) hi8.1)))|(have hg:=(by assumption:p.j=3);exact aV hK fun r hz=>(by first|exact hz.trans (cw (k:=aS p.g) hg g0 (by omega) (by(try dsimp only);omega) (by show(List.map aq p.g.o3).length=0;rw[acE];omega) hi8.1)|exact hz.trans (cx (k:=aS p.g) hg g0 (by omega) (by(try dsimp only);omega) (by show¬(List.map aq p.g.o3).length=0;rw[acE];omega) (by simp[dN]) hi8.1)))) rfl
 refine aJ (⟨p.g,p.w,(1:Int),(0:Int)⟩:eu) rfl (by(try dsimp only[cC]);exact⟨⟨by omega,by omega⟩,ga,gl,by omega,(by(try simp only[acC,acE,acD,acF,dQ,dP,dO,dN]);omega),by omega⟩) fun r6 hi9=> ?_
 dsimp only[dg]at hi9
 refine aN ?_
 exact kq (q:=⟨p.g,r6.r,r6.jj+(1:Int)⟩) (by dsimp only[cJ];omega) (by dsimp only[dX];exact⟨⟨by omega,by omega⟩,ga,gl,by omega⟩) (by first|(have hg:=(by assumption:p.j=0);exact aV hK fun r hz=>(by first|exact hz.trans (cw (k:=aS p.g) hg g0 (by omega) (by(try dsimp only);omega) (by show(List.map aq p.g.o0).length=0;rw[acE];omega) hi9.1)|exact hz.trans (cx (k:=aS p.g) hg g0 (by omega) (by(try dsimp only);omega) (by show¬(List.map aq p.g.o0).length=0;rw[acE];omega) (by simp[dQ]) hi9.1)))|(have hg:=(by assumption:p.j=1);exact aV hK fun r hz=>(by first|exact hz.trans (cw (k:=aS p.g) hg g0 (by omega) (by(try dsimp only);omega) (by show(List.map aq p.g.o1).length=0;rw[acE];omega) hi9.1)|exact hz.trans (cx (k:=aS p.g) hg g0 (by omega) (by(try dsimp only);omega) (by show¬(List.map aq p.g.o1).length=0;rw[acE];omega) (by simp[dP]) hi9.1)))|(have hg:=(by assumption:p.j=2);exact aV hK fun r hz=>(by first|exact hz.trans (cw (k:=aS p.g) hg g0 (by omega) (by(try dsimp only);omega) (by show(List.map aq p.g.o2).length=0;rw[acE];omega) hi9.1)|exact hz.trans (cx (k:=aS p.g) hg g0 (by omega) (by(try dsimp only);omega) (by show¬(List.map aq p.g.o2).length=0;rw[acE];omega) (by simp[dO]) hi9.1)))|(have hg:=(by assumption:p.j=3);exact aV hK fun r hz=>(by first|exact hz.trans (cw (k:=aS p.g) hg g0 (by omega) (by(try dsimp only);omega) (by show(List.map aq p.g.o3).length=0;rw[acE];omega) hi9.1)|exact hz.trans (cx (k:=aS p.g) hg g0 (by omega) (by(try dsimp only);omega) (by show¬(List.map aq p.g.o3).length=0;rw[acE];omega) (by simp[dN]) hi9.1)))) rfl
 refine iI (fun hc10=> ?_) (fun hc10=> ?_)
 refine iI (fun hc11=> ?_) (fun hc11=> ?_)
 refine AQ (aN (AQ (AQ ?_)))
 refine aJ (⟨p.g,((p.w++t_15)++(Lib.itoa (2:Int)))++t_9,(2:Int),(0:Int)⟩:eu) rfl (by(try dsimp only[cC]);exact⟨⟨by omega,by omega⟩,ga,gl,by omega,(by(try simp only[acC,acE,acD,acF,dQ,dP,dO,dN]);omega),by omega⟩) fun r3 hi12=> ?_
 dsimp only[dg]at hi12
 refine aN ?_
 exact kq (q:=⟨p.g,r3.r,r3.jj+(1:Int)⟩) (by dsimp only[cJ];omega) (by dsimp only[dX];exact⟨⟨by omega,by omega⟩,ga,gl,by omega⟩) (by first|(have hg:=(by assumption:p.j=0);exact aV hK fun r hz=>(by first|exact hz.trans (cw (k:=aS p.g) hg g0 (by omega) (by(try dsimp only);omega) (by show(List.map aq p.g.o0).length=0;rw[acE];omega) hi12.1)|exact hz.trans (cx (k:=aS p.g) hg g0 (by omega) (by(try dsimp only);omega) (by show¬(List.map aq p.g.o0).length=0;rw[acE];omega) (by simp[dQ]) hi12.1)))|(have hg:=(by assumption:p.j=1);exact aV hK fun r hz=>(by first|exact hz.trans (cw (k:=aS p.g) hg g0 (by omega) (by(try dsimp only);omega) (by show(List.map aq p.g.o1).length=0;rw[acE];omega) hi12.1)|exact hz.trans (cx (k:=aS p.g) hg g0 (by omega) (by(try dsimp only);omega) (by show¬(List.map aq p.g.o1).length=0;rw[acE];omega) (by simp[dP]) hi12.1)))|(have hg:=(by assumption:p.j=2);exact aV hK fun r hz=>(by first|exact hz.trans (cw (k:=aS p.g) hg g0 (by omega) (by(try dsimp only);omega) (by show(List.map aq p.g.o2).length=0;rw[acE];omega) hi12.1)|exact hz.trans (cx (k:=aS p.g) hg g0 (by omega) (by(try dsimp only);omega) (by show¬(List.map aq p.g.o2).length=0;rw[acE];omega) (by simp[dO]) hi12.1)))|(have hg:=(by assumption:p.j=3);exact aV hK fun r hz=>(by first|exact hz.trans (cw (k:=aS p.g) hg g0 (by omega) (by(try dsimp only);omega) (by show(List.map aq p.g.o3).length=0;rw[acE];omega) hi12.1)|exact hz.trans (cx (k:=aS p.g) hg g0 (by omega) (by(try dsimp only);omega) (by show¬(List.map aq p.g.o3).length=0;rw[acE];omega) (by simp[dN]) hi12.1)))) rfl
 refine aJ (⟨p.g,p.w,(2:Int),(0:Int)⟩:eu) rfl (by(try dsimp only[cC]);exact⟨⟨by omega,by omega⟩,ga,gl,by omega,(by(try simp only[acC,acE,acD,acF,dQ,dP,dO,dN]);omega),by omega⟩) fun r4 hi13=> ?_
 dsimp only[dg]at hi13
 refine aN ?_
 exact kq (q:=⟨p.g,r4.r,r4.jj+(1:Int)⟩) (by dsimp only[cJ];omega) (by dsimp only[dX];exact⟨⟨by omega,by omega⟩,ga,gl,by omega⟩) (by first|(have hg:=(by assumption:p.j=0);exact aV hK fun r hz=>(by first|exact hz.trans (cw (k:=aS p.g) hg g0 (by omega) (by(try dsimp only);omega) (by show(List.map aq p.g.o0).length=0;rw[acE];omega) hi13.1)|exact hz.trans (cx (k:=aS p.g) hg g0 (by omega) (by(try dsimp only);omega) (by show¬(List.map aq p.g.o0).length=0;rw[acE];omega) (by simp[dQ]) hi13.1)))|(have hg:=(by assumption:p.j=1);exact aV hK fun r hz=>(by first|exact hz.trans (cw (k:=aS p.g) hg g0 (by omega) (by(try dsimp only);omega) (by show(List.map aq p.g.o1).length=0;rw[acE];omega) hi13.1)|exact hz.trans (cx (k:=aS p.g) hg g0 (by omega) (by(try dsimp only);omega) (by show¬(List.map aq p.g.o1).length=0;rw[acE];omega) (by simp[dP]) hi13.1)))|(have hg:=(by assumption:p.j=2);exact aV hK fun r hz=>(by first|exact hz.trans (cw (k:=aS p.g) hg g0 (by omega) (by(try dsimp only);omega) (by show(List.map aq p.g.o2).length=0;rw[acE];omega) hi13.1)|exact hz.trans (cx (k:=aS p.g) hg g0 (by omega) (by(try dsimp only);omega) (by show¬(List.map aq p.g.o2).length=0;rw[acE];omega) (by simp[dO]) hi13.1)))|(have hg:=(by assumption:p.j=3);exact aV hK fun r hz=>(by first|exact hz.trans (cw (k:=aS p.g) hg g0 (by omega) (by(try dsimp only);omega) (by show(List.map aq p.g.o3).length=0;rw[acE];omega) hi13.1)|exact hz.trans (cx (k:=aS p.g) hg g0 (by omega) (by(try dsimp only);omega) (by show¬(List.map aq p.g.o3).length=0;rw[acE];omega) (by simp[dN]) hi13.1)))) rfl
 refine iI (fun hc14=> ?_) (fun hc14=> ?_)
 refine iI (fun hc15=> ?_) (fun hc15=> ?_)
 refine AQ (aN (AQ (AQ ?_)))
 refine aJ (⟨p.g,((p.w++t_15)++(Lib.itoa (3:Int)))++t_9,(3:Int),(0:Int)⟩:eu) rfl (by(try dsimp only[cC]);exact⟨⟨by omega,by omega⟩,ga,gl,by omega,(by(try simp only[acC,acE,acD,acF,dQ,dP,dO,dN]);omega),by omega⟩) fun r1 hi16=> ?_
 dsimp only[dg]at hi16
 refine aN ?_
 exact kq (q:=⟨p.g,r1.r,r1.jj+(1:Int)⟩) (by dsimp only[cJ];omega) (by dsimp only[dX];exact⟨⟨by omega,by omega⟩,ga,gl,by omega⟩) (by first|(have hg:=(by assumption:p.j=0);exact aV hK fun r hz=>(by first|exact hz.trans (cw (k:=aS p.g) hg g0 (by omega) (by(try dsimp only);omega) (by show(List.map aq p.g.o0).length=0;rw[acE];omega) hi16.1)|exact hz.trans (cx (k:=aS p.g) hg g0 (by omega) (by(try dsimp only);omega) (by show¬(List.map aq p.g.o0).length=0;rw[acE];omega) (by simp[dQ]) hi16.1)))|(have hg:=(by assumption:p.j=1);exact aV hK fun r hz=>(by first|exact hz.trans (cw (k:=aS p.g) hg g0 (by omega) (by(try dsimp only);omega) (by show(List.map aq p.g.o1).length=0;rw[acE];omega) hi16.1)|exact hz.trans (cx (k:=aS p.g) hg g0 (by omega) (by(try dsimp only);omega) (by show¬(List.map aq p.g.o1).length=0;rw[acE];omega) (by simp[dP]) hi16.1)))|(have hg:=(by assumption:p.j=2);exact aV hK fun r hz=>(by first|exact hz.trans (cw (k:=aS p.g) hg g0 (by omega) (by(try dsimp only);omega) (by show(List.map aq p.g.o2).length=0;rw[acE];omega) hi16.1)|exact hz.trans (cx (k:=aS p.g) hg g0 (by omega) (by(try dsimp only);omega) (by show¬(List.map aq p.g.o2).length=0;rw[acE];omega) (by simp[dO]) hi16.1)))|(have hg:=(by assumption:p.j=3);exact aV hK fun r hz=>(by first|exact hz.trans (cw (k:=aS p.g) hg g0 (by omega) (by(try dsimp only);omega) (by show(List.map aq p.g.o3).length=0;rw[acE];omega) hi16.1)|exact hz.trans (cx (k:=aS p.g) hg g0 (by omega) (by(try dsimp only);omega) (by show¬(List.map aq p.g.o3).length=0;rw[acE];omega) (by simp[dN]) hi16.1)))) rfl
 refine aJ (⟨p.g,p.w,(3:Int),(0:Int)⟩:eu) rfl (by(try dsimp only[cC]);exact⟨⟨by omega,by omega⟩,ga,gl,by omega,(by(try simp only[acC,acE,acD,acF,dQ,dP,dO,dN]);omega),by omega⟩) fun r2 hi17=> ?_
 dsimp only[dg]at hi17
 refine aN ?_
 exact kq (q:=⟨p.g,r2.r,r2.jj+(1:Int)⟩) (by dsimp only[cJ];omega) (by dsimp only[dX];exact⟨⟨by omega,by omega⟩,ga,gl,by omega⟩) (by first|(have hg:=(by assumption:p.j=0);exact aV hK fun r hz=>(by first|exact hz.trans (cw (k:=aS p.g) hg g0 (by omega) (by(try dsimp only);omega) (by show(List.map aq p.g.o0).length=0;rw[acE];omega) hi17.1)|exact hz.trans (cx (k:=aS p.g) hg g0 (by omega) (by(try dsimp only);omega) (by show¬(List.map aq p.g.o0).length=0;rw[acE];omega) (by simp[dQ]) hi17.1)))|(have hg:=(by assumption:p.j=1);exact aV hK fun r hz=>(by first|exact hz.trans (cw (k:=aS p.g) hg g0 (by omega) (by(try dsimp only);omega) (by show(List.map aq p.g.o1).length=0;rw[acE];omega) hi17.1)|exact hz.trans (cx (k:=aS p.g) hg g0 (by omega) (by(try dsimp only);omega) (by show¬(List.map aq p.g.o1).length=0;rw[acE];omega) (by simp[dP]) hi17.1)))|(have hg:=(by assumption:p.j=2);exact aV hK fun r hz=>(by first|exact hz.trans (cw (k:=aS p.g) hg g0 (by omega) (by(try dsimp only);omega) (by show(List.map aq p.g.o2).length=0;rw[acE];omega) hi17.1)|exact hz.trans (cx (k:=aS p.g) hg g0 (by omega) (by(try dsimp only);omega) (by show¬(List.map aq p.g.o2).length=0;rw[acE];omega) (by simp[dO]) hi17.1)))|(have hg:=(by assumption:p.j=3);exact aV hK fun r hz=>(by first|exact hz.trans (cw (k:=aS p.g) hg g0 (by omega) (by(try dsimp only);omega) (by show(List.map aq p.g.o3).length=0;rw[acE];omega) hi17.1)|exact hz.trans (cx (k:=aS p.g) hg g0 (by omega) (by(try dsimp only);omega) (by show¬(List.map aq p.g.o3).length=0;rw[acE];omega) (by simp[dN]) hi17.1)))) rfl
 refine fX ?_
 rfl
 exact Rp hK ⟨p.w⟩ (by dsimp only[si]<;>(rw[Ff (by omega)];simp))
theorem Tb:dI Tryz.prog 53 1 no true 1 Cl:=by
 exact dM (lf:=600) bv (aT oq) (by rfl) kT cJ vF (fun b j x h=>(cd Vr (fun h=>(by cases h)) h)) (fun S M nx K h=>by obtain⟨p,h⟩:=bL h;exact⟨p,(aa h).1,(aa h).2⟩) (fun p K h=>Sm p K (aa h).1 (aa h).2)
structure mM where
 g:bW
structure Cw where
 s:List UInt8
def pO (p:mM) (r:Cw):Prop:=r.s=gA (aS p.g) 0
noncomputable def sJ (p:mM):IE:=([.ptr 0 0],(ba p.g),9)
noncomputable def wG (p:mM) (K:KE):Bool:=aA fun r:Cw=>iP (pO p r) (K (.sy (.str r.s)) (ba p.g) 9) true
def nK (p:mM):Prop:=oe p.g∧bD p.g 80
theorem OA {p:mM} {K:KE} (hK:wG p K=true) (r:Cw) (h:pO p r):K (.sy (.str r.s)) (ba p.g) 9=true:=aP h (aF hK r)
theorem PQ (p:mM) (K:KE) (hpre:nK p) (hK:wG p K=true):(bZ 1 (bH pZ) no 600 GX (sJ p).1 (sJ p).2.1 (sJ p).2.2 K)=true:=by
 refine Eq.trans (b:=(aX (((.cons 4 (.sy (.int 0 0)) (.cons 3 (.sy (.str qE)) (.cons 0 (.ptr 0 0) .nil))),(ba p.g),9)) kT dX si fun p1 r1=>K (.sy (.str r1.r)) (ba p1.g) 9)) (by kernel_rfl) ?_
 dsimp only[nK]at hpre
 refine aJ (⟨p.g,qE,(0:Int)⟩:gU) rfl (by(try dsimp only[dX]);exact⟨⟨by omega,by omega⟩,hpre.1,hpre.2,by simp⟩) fun r1 hi1=> ?_
 dsimp only[si]at hi1
 exact OA hK ⟨r1.r⟩ (by dsimp only[pO]<;>exact hi1)
noncomputable def wQ:=bM pZ 1 (ce sJ (dD nK wG)) 10 []
theorem xL:be Tryz.prog wQ:=aY (bV (f:=10) (k:=1) (lp:=no) (lf:=600) bv (aT oq) KD (by rfl) (fun b j x h=>(cd Tb (fun h=>(by cases h)) h)) fun p K h=>PQ p K (aa h).1 (aa h).2) oq
def mz (x:EdR):List PL:=[.sint 1 x.id.client.node,.sint 2 x.id.client.life,.sint 3 x.id.seq,.sint 1 x.id.depth,.sint 1 x.id.p0.group,.sint 1 x.id.p0.index,.sint 1 x.id.p1.group,.sint 1 x.id.p1.index,.sint 1 x.id.p2.group,.sint 1 x.id.p2.index]
def dB (d:ID) (y:EdR):Prop:=dj d y.id
theorem VA {o m:List EdR} {i:Int} {x:EdR} (hn:(o.map EdR.id).Nodup) (h0:0≤i) (hm:m=o.take i.toNat) (hx:o[i.toNat]?=some x):∀y∈m,¬dB x.id y:=fun y hy he=>by
 subst hm
 obtain⟨h1,e1⟩:=List.getElem?_eq_some_iff.1 hx
 obtain⟨j,hj,e2⟩:=List.mem_iff_getElem.1 hy
 rw[List.getElem_take]at e2
 rw[List.length_take]at hj
 exact List.pairwise_iff_getElem.1 hn j i.toNat (by rw[acE];omega) (by rw[acE];omega) (by omega) (by rw[List.getElem_map,List.getElem_map,e2,e1];exact he)
def Hi (E:List EdR) (d:ID):Option EdR:=E.find? fun e=>decide (e.id=d)
theorem VR {E:List EdR} {d:ID} (h:∀y∈E,¬dB d y):Hi E d=none:=by
 unfold Hi
 rw[List.find?_eq_none]
 intro y hy
 rw[decide_eq_true_eq]
 exact h y hy
theorem Ac {E:List EdR} {d:ID} {x:EdR} (hn:(E.map EdR.id).Nodup) (h:x∈E∧dB d x):Hi E d=some x:=by
 obtain⟨hx,he⟩:=h
 have he:x.id=d:=he
 unfold Hi
 induction E with
 |nil=>cases hx
 |cons y r ih=>
  rw[List.find?_cons]
  rw[acJ,List.nodup_cons]at hn
  by_cases e:y.id=d
  ·rw[decide_eq_true e]
   rcases List.mem_cons.1 hx with hx|hx
   ·rw[hx]
   ·exact absurd (List.mem_map.2 ⟨x,hx,he.trans e.symm⟩) hn.1
  ·rw[decide_eq_false e]
   rcases List.mem_cons.1 hx with hx|hx
   ·exact absurd (by rw[←hx];exact he) e
   ·exact ih hn.2 hx
def cH (k:Int):List UInt8:=if k=0 then [102,105,114,115,116] else if k=1 then [109,97,106,111,114,105,116,121] else if k=2 then [97,108,108] else [111,100,100]
theorem bt (k:Int):(cH k).length≤10:=by
 unfold cH
 split
 ·decide
 ·split
  ·decide
  ·split<;>decide
theorem ir {k:Int} (h:k<0∨2<k):cH k=[111,100,100]:=by
 unfold cH
 rw[if_neg (by omega),if_neg (by omega),if_neg (by omega)]
def Qc (e:EdR):List UInt8:=if e.code=0 then [32]++(Lib.itoa e.rc++(if e.rv=[] then [] else [32,91]++(e.rv++[93]))) else []
def Ru:Option EdR→List UInt8
 |none=>[32,111,112,101,110]
 |some e=>[32]++(Lib.itoa e.at_++([32]++(Lib.itoa e.code++Qc e)))
def nw (E:List EdR) (b:BgK):List UInt8:=[99,97,108,108,32]++(ah b.id++([32]++(cH b.mode++([32]++(Lib.itoa b.at_++(Ru (Hi E b.id)++[10]))))))
def ei (E:List EdR):List BgK→List UInt8
 |[]=>[]
 |b::r=>nw E b++ei E r
theorem Nd {E:List EdR} {b:BgK} (h:∀y∈E,¬dB b.id y):nw E b=[99,97,108,108,32]++(ah b.id++([32]++(cH b.mode++([32]++(Lib.itoa b.at_++([32,111,112,101,110]++[10])))))):=by
 unfold nw
 rw[VR h]
 rfl
theorem Km {E:List EdR} {b:BgK} {x:EdR} (hn:(E.map EdR.id).Nodup) (h:x∈E∧dB b.id x) (hc:¬x.code=0):nw E b=[99,97,108,108,32]++(ah b.id++([32]++(cH b.mode++([32]++(Lib.itoa b.at_++(([32]++(Lib.itoa x.at_++([32]++(Lib.itoa x.code++[]))))++[10])))))):=by
 unfold nw
 rw[Ac hn h]
 simp only[Ru,Qc,if_neg hc]
theorem Kl {E:List EdR} {b:BgK} {x:EdR} (hn:(E.map EdR.id).Nodup) (h:x∈E∧dB b.id x) (hc:x.code=0) (hv:x.rv=[]):nw E b=[99,97,108,108,32]++(ah b.id++([32]++(cH b.mode++([32]++(Lib.itoa b.at_++(([32]++(Lib.itoa x.at_++([32]++(Lib.itoa x.code++([32]++(Lib.itoa x.rc++[]))))))++[10])))))):=by
 unfold nw
 rw[Ac hn h]
 simp only[Ru,Qc,if_pos hc,if_pos hv]
theorem PG {E:List EdR} {b:BgK} {x:EdR} (hn:(E.map EdR.id).Nodup) (h:x∈E∧dB b.id x) (hc:x.code=0) (hv:¬x.rv=[]):nw E b=[99,97,108,108,32]++(ah b.id++([32]++(cH b.mode++([32]++(Lib.itoa b.at_++(([32]++(Lib.itoa x.at_++([32]++(Lib.itoa x.code++([32]++(Lib.itoa x.rc++([32,91]++(x.rv++[93]))))))))++[10])))))):=by
 unfold nw
 rw[Ac hn h]
 simp only[Ru,Qc,if_pos hc,if_neg hv]
theorem yg {P:Prop} {x:EdR} (h:P) (hx:lE x):P∧(-9223372036854775808≤x.at_∧x.at_≤9223372036854775807)∧(-9223372036854775808≤x.code∧x.code≤9223372036854775807)∧(0≤x.rc∧x.rc≤255)∧x.rv.length≤2000∧(Lib.itoa x.at_).length≤21∧(Lib.itoa x.code).length≤21∧(Lib.itoa x.rc).length≤21:=by
 unfold lE UV oO at hx
 obtain⟨⟨h1,h2,h3,h4⟩,h5⟩:=hx
 have a:=Lib.itoa_length_le x.at_ (by omega) (by omega)
 have b:=Lib.itoa_length_le x.code (by omega) (by omega)
 have c:=Lib.itoa_length_le x.rc (by omega) (by omega)
 exact⟨h,h2,h3,h4,h5,by omega,by omega,by omega⟩
theorem ww {E m:List EdR} {fb bl:List BgR} {s:List UInt8} (hm:m=E) (hb:bl.map bN=fb.map bN) (h:s=ei m ((bl.drop (0:Int).toNat).map bN)):s=ei E (fb.map bN):=by
 rw[h,hm,←hb];rfl
theorem Rz {E:List EdR} {l:List BgR} {i:Int} {x:BgR} (h0:0≤i) (hx:l[i.toNat]?=some x):ei E ((l.drop i.toNat).map bN)=nw E (bN x)++ei E ((l.drop (i+1).toNat).map bN):=by
 obtain⟨h,e⟩:=List.getElem?_eq_some_iff.1 hx
 rw[show(i+1).toNat=i.toNat+1 by omega,List.drop_eq_getElem_cons h,e,acJ]
 rfl
theorem Ch {E:List EdR} {l:List BgR} {i:Int} (h:(l.length:Int)≤i):ei E ((l.drop i.toNat).map bN)=[]:=by
 rw[List.drop_eq_nil_of_le (by omega)];rfl
theorem Hr {E:List EdR} {l:List BgR} {i:Int} {x:BgR} {a b c:List UInt8} (h0:0≤i) (hx:l[i.toNat]?=some x) (hb:b=a++nw E (bN x)) (h:c=b++ei E ((l.drop (i+1).toNat).map bN)):c=a++ei E ((l.drop i.toNat).map bN):=by
 rw[h,Rz h0 hx,hb,List.append_assoc]
theorem kQ {E:List EdR} {l:List BgR} {i:Int} {x:BgR} {a b c:List UInt8} (h0:0≤i) (hx:l[i.toNat]?=some x) (h:c=b++ei E ((l.drop (i+1).toNat).map bN)) (hb:b=a++nw E (bN x):=by(try dsimp only);have hm:=(by assumption:_=cH _∧_).1;first|(rw[Nd (E:=p.m) (b:=bN x1) (by assumption)];simp[bN,hm,aC,aD];done)|(rw[Km (E:=p.m) (b:=bN x1) gn (by assumption:_∈p.m∧dB x1.id _) (by first|assumption|exact Classical.not_not.1 (by assumption))];simp[bN,hm,aC,aD];done)|(rw[Kl (E:=p.m) (b:=bN x1) gn (by assumption:_∈p.m∧dB x1.id _) (by first|assumption|exact Classical.not_not.1 (by assumption)) (by first|assumption|exact Classical.not_not.1 (by assumption))];simp[bN,hm,aC,aD];done)|(rw[PG (E:=p.m) (b:=bN x1) gn (by assumption:_∈p.m∧dB x1.id _) (by first|assumption|exact Classical.not_not.1 (by assumption)) (by first|assumption|exact Classical.not_not.1 (by assumption))];simp[bN,hm,aC,aD];done)):c=a++ei E ((l.drop i.toNat).map bN):=Hr h0 hx hb h
theorem Wa {E:List EdR} {l:List BgR} {i:Int} {x:BgR} {a b c:List UInt8} (h0:0≤i) (hx:l[i.toNat]?=some x) (h:c=b++ei E ((l.drop (i+1).toNat).map bN)) (hb:b=a++nw E (bN x):=by(try dsimp only);have hs:=(by assumption:_=ah _∧_).1;have hm:=(by assumption:_=cH _∧_).1;first|(rw[Nd (E:=p.g.e) (b:=bN x1) (by assumption)];simp[bN,hm,hs];done)|(rw[Km (E:=p.g.e) (b:=bN x1) gn (by assumption:(_∈p.g.e∧dB x1.id _)∧_).1 (by first|assumption|exact Classical.not_not.1 (by assumption))];simp[bN,hm,hs];done)|(rw[Kl (E:=p.g.e) (b:=bN x1) gn (by assumption:(_∈p.g.e∧dB x1.id _)∧_).1 (by first|assumption|exact Classical.not_not.1 (by assumption)) (by first|assumption|exact Classical.not_not.1 (by assumption))];simp[bN,hm,hs];done)|(rw[PG (E:=p.g.e) (b:=bN x1) gn (by assumption:(_∈p.g.e∧dB x1.id _)∧_).1 (by first|assumption|exact Classical.not_not.1 (by assumption)) (by first|assumption|exact Classical.not_not.1 (by assumption))];simp[bN,hm,hs];done)):c=a++ei E ((l.drop i.toNat).map bN):=Hr h0 hx hb h
def Pq:XF:=.mk 17 (.one 4) (.aft (.seq (g_ 1 [p_ 0 4 (.mv (.c (.str [])))]) (.seq (.seq (g_ 8 [p_ 0 5 (m_ 0),p_ 1 6 (.bin 3 0 (.t 5) (i_ 0)),p_ 2 7 (m_ 6),aK 3 8 7 false (m_ 0),aK 4 9 7 false (m_ 1),aK 5 10 7 false (k_ 9),aK 6 11 7 false (.bin 3 3 (.t 8) (.t 10)),p_ 7 12 (.pick (.t 7) (.c (.bool true)) (.t 11))]) (.cond (.t 12) (.seq (g_ 1 [p_ 0 4 (.mv (.c (.str [111,100,100])))]) .ret) .skip)) (.seq (g_ 5 [p_ 0 13 (m_ 1),p_ 1 14 (m_ 0),p_ 2 15 (.ixs 1 (.t 13) (.t 14)),r_ 3 16 (l_ 15),p_ 4 4 (m_ 16)]) .ret))) [(0,[.up 4]),(1,[.up 4])])
theorem QZ:bT Tryz.prog 40 Pq=true:=by kernel_rfl
structure jZ where
 k:Int
structure ve where
 s:List UInt8
def fR (p:jZ) (r:ve):Prop:=r.s=cH p.k∧r.s.length≤10
noncomputable def sK (p:jZ):IE:=([.sy (.int 0 p.k),.sl 0 0 3 (.ex 3)],(.node .leaf (some (.blk false 9 1 [[.str [102,105,114,115,116]],[.str [109,97,106,111,114,105,116,121]],[.str [97,108,108]]])) .leaf),1)
noncomputable def EZ (p:jZ) (K:KE):Bool:=aA fun r:ve=>iP (fR p r) (K (.sy (.str r.s)) .leaf 0) true
theorem uS {p:jZ} {K:KE} (hK:EZ p K=true) (r:ve) (h:fR p r):K (.sy (.str r.s)) .leaf 0=true:=aP h (aF hK r)
theorem Xh (p:jZ) (K:KE) (hK:EZ p K=true):(bZ 0 (bH wQ) dT 600 Pq (sK p).1 (sK p).2.1 (sK p).2.2 K)=true:=by
 refine Eq.trans (b:=(let z0:Bool:=(K (.sy (.str HW)) .leaf 0);iP (p.k<(0:Int)) z0 (iP ((3:Int)≤p.k) z0 (iP (p.k=0) (K (.sy (.str Qh)) .leaf 0) (iP (p.k=1) (K (.sy (.str Qg)) .leaf 0) (iP (p.k=2) (K (.sy (.str jP)) .leaf 0) (mP (False) (true)))))))) (by kernel_rfl) ?_
 refine iI (fun hc1=> ?_) (fun hc1=> ?_)
 exact uS hK ⟨HW⟩ (by dsimp only[fR]<;>(first|(have hq:p.k=0:=(by omega);exact bF (by(try dsimp only);rw[hq];first|done|rfl|(simp[cH];done)) (bt _))|(have hq:p.k=1:=(by omega);exact bF (by(try dsimp only);rw[hq];first|done|rfl|(simp[cH];done)) (bt _))|(have hq:p.k=2:=(by omega);exact bF (by(try dsimp only);rw[hq];first|done|rfl|(simp[cH];done)) (bt _))|exact bF (by rw[ir (by omega)];first|rfl|(simp;done)) (bt _)))
 refine iI (fun hc2=> ?_) (fun hc2=> ?_)
 exact uS hK ⟨HW⟩ (by dsimp only[fR]<;>(first|(have hq:p.k=0:=(by omega);exact bF (by(try dsimp only);rw[hq];first|done|rfl|(simp[cH];done)) (bt _))|(have hq:p.k=1:=(by omega);exact bF (by(try dsimp only);rw[hq];first|done|rfl|(simp[cH];done)) (bt _))|(have hq:p.k=2:=(by omega);exact bF (by(try dsimp only);rw[hq];first|done|rfl|(simp[cH];done)) (bt _))|exact bF (by rw[ir (by omega)];first|rfl|(simp;done)) (bt _)))
 refine iI (fun hc3=> ?_) (fun hc3=> ?_)
 exact uS hK ⟨Qh⟩ (by dsimp only[fR]<;>(first|(have hq:p.k=0:=(by omega);exact bF (by(try dsimp only);rw[hq];first|done|rfl|(simp[cH];done)) (bt _))|(have hq:p.k=1:=(by omega);exact bF (by(try dsimp only);rw[hq];first|done|rfl|(simp[cH];done)) (bt _))|(have hq:p.k=2:=(by omega);exact bF (by(try dsimp only);rw[hq];first|done|rfl|(simp[cH];done)) (bt _))|exact bF (by rw[ir (by omega)];first|rfl|(simp;done)) (bt _)))
 refine iI (fun hc4=> ?_) (fun hc4=> ?_)
 exact uS hK ⟨Qg⟩ (by dsimp only[fR]<;>(first|(have hq:p.k=0:=(by omega);exact bF (by(try dsimp only);rw[hq];first|done|rfl|(simp[cH];done)) (bt _))|(have hq:p.k=1:=(by omega);exact bF (by(try dsimp only);rw[hq];first|done|rfl|(simp[cH];done)) (bt _))|(have hq:p.k=2:=(by omega);exact bF (by(try dsimp only);rw[hq];first|done|rfl|(simp[cH];done)) (bt _))|exact bF (by rw[ir (by omega)];first|rfl|(simp;done)) (bt _)))
 refine iI (fun hc5=> ?_) (fun hc5=> ?_)
 exact uS hK ⟨jP⟩ (by dsimp only[fR]<;>(first|(have hq:p.k=0:=(by omega);exact bF (by(try dsimp only);rw[hq];first|done|rfl|(simp[cH];done)) (bt _))|(have hq:p.k=1:=(by omega);exact bF (by(try dsimp only);rw[hq];first|done|rfl|(simp[cH];done)) (bt _))|(have hq:p.k=2:=(by omega);exact bF (by(try dsimp only);rw[hq];first|done|rfl|(simp[cH];done)) (bt _))|exact bF (by rw[ir (by omega)];first|rfl|(simp;done)) (bt _)))
 refine fX ?_
 rfl
noncomputable def Fq:=bM wQ 0 (ce sK EZ) 40 [(1,5)]
theorem Ec:be Tryz.prog Fq:=aY (Dd (f:=40) (k:=0) (aT xL) QZ (by rfl) (by rfl) Xh) xL
def Mf:XF:=.mk 15 (.one 2) (.aft (.seq (g_ 1 [p_ 0 2 (.mv (.c (.str [])))]) (.seq (g_ 2 [e_ 0 4 (.bsl 9 1 3 [.str [],.str [],.str []] [(0,1),(1,1),(2,1)] [.c (.str [102,105,114,115,116]),.c (.str [109,97,106,111,114,105,116,121]),.c (.str [97,108,108])]),p_ 1 3 (m_ 4)]) (.seq (.seq (g_ 6 [p_ 0 5 (m_ 0),p_ 1 6 (.bin 3 0 (.t 5) (i_ 0)),p_ 2 7 (m_ 6),aK 3 8 7 false (m_ 0),aK 4 9 7 false (.bin 3 2 (.t 8) (i_ 2)),p_ 5 10 (.pick (.t 7) (.c (.bool true)) (.t 9))]) (.cond (.t 10) (.seq (g_ 1 [p_ 0 2 (.mv (.c (.str [111,100,100])))]) .ret) .skip)) (.seq (g_ 5 [p_ 0 11 (m_ 3),p_ 1 12 (m_ 0),p_ 2 13 (.ixs 1 (.t 11) (.t 12)),r_ 3 14 (l_ 13),p_ 4 2 (m_ 14)]) .ret)))) [(0,[.up 2]),(1,[.up 2])])
theorem Oo:bT Tryz.prog 43 Mf=true:=by kernel_rfl
structure rn where
 k:Int
structure DG where
 s:List UInt8
def kH (p:rn) (r:DG):Prop:=r.s=cH p.k∧r.s.length≤10
noncomputable def yn (p:rn):IE:=([.sy (.int 0 p.k)],.leaf,0)
noncomputable def Bm (p:rn) (K:KE):Bool:=aA fun r:DG=>iP (kH p r) (K (.sy (.str r.s)) .leaf 0) true
theorem sD {p:rn} {K:KE} (hK:Bm p K=true) (r:DG) (h:kH p r):K (.sy (.str r.s)) .leaf 0=true:=aP h (aF hK r)
theorem Um (p:rn) (K:KE) (hK:Bm p K=true):(bZ 0 (bH Fq) dT 600 Mf (yn p).1 (yn p).2.1 (yn p).2.2 K)=true:=by
 refine Eq.trans (b:=(let z0:Bool:=(K (.sy (.str HW)) .leaf 0);iP (p.k<(0:Int)) z0 (iP ((2:Int)<p.k) z0 (iP (p.k=0) (K (.sy (.str Qh)) .leaf 0) (iP (p.k=1) (K (.sy (.str Qg)) .leaf 0) (iP (p.k=2) (K (.sy (.str jP)) .leaf 0) (mP (False) (true)))))))) (by kernel_rfl) ?_
 refine iI (fun hc1=> ?_) (fun hc1=> ?_)
 exact sD hK ⟨HW⟩ (by dsimp only[kH]<;>(first|(have hq:p.k=0:=(by omega);exact bF (by(try dsimp only);rw[hq];first|done|rfl|(simp[cH];done)) (bt _))|(have hq:p.k=1:=(by omega);exact bF (by(try dsimp only);rw[hq];first|done|rfl|(simp[cH];done)) (bt _))|(have hq:p.k=2:=(by omega);exact bF (by(try dsimp only);rw[hq];first|done|rfl|(simp[cH];done)) (bt _))|exact bF (by rw[ir (by omega)];first|rfl|(simp;done)) (bt _)))
 refine iI (fun hc2=> ?_) (fun hc2=> ?_)
 exact sD hK ⟨HW⟩ (by dsimp only[kH]<;>(first|(have hq:p.k=0:=(by omega);exact bF (by(try dsimp only);rw[hq];first|done|rfl|(simp[cH];done)) (bt _))|(have hq:p.k=1:=(by omega);exact bF (by(try dsimp only);rw[hq];first|done|rfl|(simp[cH];done)) (bt _))|(have hq:p.k=2:=(by omega);exact bF (by(try dsimp only);rw[hq];first|done|rfl|(simp[cH];done)) (bt _))|exact bF (by rw[ir (by omega)];first|rfl|(simp;done)) (bt _)))
 refine iI (fun hc3=> ?_) (fun hc3=> ?_)
 exact sD hK ⟨Qh⟩ (by dsimp only[kH]<;>(first|(have hq:p.k=0:=(by omega);exact bF (by(try dsimp only);rw[hq];first|done|rfl|(simp[cH];done)) (bt _))|(have hq:p.k=1:=(by omega);exact bF (by(try dsimp only);rw[hq];first|done|rfl|(simp[cH];done)) (bt _))|(have hq:p.k=2:=(by omega);exact bF (by(try dsimp only);rw[hq];first|done|rfl|(simp[cH];done)) (bt _))|exact bF (by rw[ir (by omega)];first|rfl|(simp;done)) (bt _)))
 refine iI (fun hc4=> ?_) (fun hc4=> ?_)
 exact sD hK ⟨Qg⟩ (by dsimp only[kH]<;>(first|(have hq:p.k=0:=(by omega);exact bF (by(try dsimp only);rw[hq];first|done|rfl|(simp[cH];done)) (bt _))|(have hq:p.k=1:=(by omega);exact bF (by(try dsimp only);rw[hq];first|done|rfl|(simp[cH];done)) (bt _))|(have hq:p.k=2:=(by omega);exact bF (by(try dsimp only);rw[hq];first|done|rfl|(simp[cH];done)) (bt _))|exact bF (by rw[ir (by omega)];first|rfl|(simp;done)) (bt _)))
 refine iI (fun hc5=> ?_) (fun hc5=> ?_)
 exact sD hK ⟨jP⟩ (by dsimp only[kH]<;>(first|(have hq:p.k=0:=(by omega);exact bF (by(try dsimp only);rw[hq];first|done|rfl|(simp[cH];done)) (bt _))|(have hq:p.k=1:=(by omega);exact bF (by(try dsimp only);rw[hq];first|done|rfl|(simp[cH];done)) (bt _))|(have hq:p.k=2:=(by omega);exact bF (by(try dsimp only);rw[hq];first|done|rfl|(simp[cH];done)) (bt _))|exact bF (by rw[ir (by omega)];first|rfl|(simp;done)) (bt _)))
 refine fX ?_
 rfl
noncomputable def vS:=bM Fq 0 (ce yn Bm) 43 []
theorem uB:be Tryz.prog vS:=aY (Dd (f:=43) (k:=0) (aT Ec) Oo (by rfl) (by rfl) Um) Ec
def Al:XC:=(.aft (.seq (.seq (g_ 7 [p_ 0 7 (m_ 6),p_ 1 8 (m_ 0),p_ 2 9 (n_ 8),p_ 3 10 (f_ 1 9),r_ 4 11 (l_ 10),p_ 5 12 (k_ 11),p_ 6 13 (.bin 3 0 (.t 7) (.t 12))]) (.cond (.t 13) .skip (.exit 2))) (.seq (.block 3 (.seq (h_ 10 [p_ 0 16 (m_ 0),p_ 1 17 (n_ 16),p_ 2 18 (f_ 1 17),r_ 3 19 (l_ 18),p_ 4 20 (m_ 6),p_ 5 21 (.ixs 17 (.t 19) (.t 20)),p_ 6 22 (f_ 0 21),r_ 7 23 (.ld true 10 (.t 22)),r_ 8 24 (.ld true 10 (.t 3)),p_ 9 25 (.eqs false 4 (.st [(0,2,true,.st [(0,1,false,.int),(1,1,false,.int)]),(2,1,false,.int),(3,1,false,.int),(4,6,true,.ar [0,2,4] 2 true (.st [(0,1,false,.int),(1,1,false,.int)]))]) (.t 23) (.t 24))]) (.cond (.t 25) (.seq (g_ 9 [p_ 0 26 (m_ 0),p_ 1 27 (n_ 26),p_ 2 28 (f_ 1 27),r_ 3 29 (l_ 28),p_ 4 30 (m_ 6),p_ 5 31 (.ixs 17 (.t 29) (.t 30)),r_ 6 32 (.ld true 17 (.t 31)),cA 7 (.st 17 (.t 4) (.t 32)),p_ 8 5 (.mv (.c (.bool true)))]) .ret) .skip))) (g_ 3 [p_ 0 14 (m_ 6),p_ 1 15 (.bin 0 0 (.t 14) (i_ 1)),p_ 2 6 (m_ 15)]))) [(0,[.can 1 [0,3,4,6]]),(1,[.can 1 [4,5]]),(2,[.can 1 [4]])])
def Mg:XF:=.mk 34 (.ct 4 true 17 5) (.seq (g_ 3 [e_ 0 3 (.box 45 (.t 1)),e_ 1 4 (.al 52 [.int 1 (.ofNat 0),.int 2 (.ofNat 0),.int 3 (.ofNat 0),.int 1 (.ofNat 0),.int 1 (.ofNat 0),.int 1 (.ofNat 0),.int 1 (.ofNat 0),.int 1 (.ofNat 0),.int 1 (.ofNat 0),.int 1 (.ofNat 0),.int 1 (.ofNat 0),.int 0 (.ofNat 0),.int 0 (.ofNat 0),.int 0 (.ofNat 0),.int 0 (.ofNat 0),.int 1 (.ofNat 0),.str []]),p_ 2 5 (.mv (.c (.bool false)))]) (.seq (.seq (g_ 1 [p_ 0 6 (.mv (i_ 0))]) (.block 2 (.pre [.can 1 [0,3,4,6],.up 6,.can 1 [0,3,4,6]] (.inv 0 Al)))) (.seq (g_ 3 [p_ 0 33 (.bld [.int 1 (.ofNat 0),.int 2 (.ofNat 0),.int 3 (.ofNat 0),.int 1 (.ofNat 0),.int 1 (.ofNat 0),.int 1 (.ofNat 0),.int 1 (.ofNat 0),.int 1 (.ofNat 0),.int 1 (.ofNat 0),.int 1 (.ofNat 0),.int 1 (.ofNat 0),.int 0 (.ofNat 0),.int 0 (.ofNat 0),.int 0 (.ofNat 0),.int 0 (.ofNat 0),.int 1 (.ofNat 0),.str []] [] []),cA 1 (.st 17 (.t 4) (.t 33)),p_ 2 5 (.mv (.c (.bool false)))]) .ret)))
theorem Oq:bT Tryz.prog 44 Mg=true:=by kernel_rfl
structure fe where
 g:bW
 d:ID
 i:Int
structure tI where
 x:EdR
def Gx (p:fe):Prop:=∀y∈p.g.e,¬y.id=p.d
def DR (p:fe) (r:tI):Prop:=(r.x∈p.g.e∧dB p.d r.x)∧(-9223372036854775808≤r.x.at_∧r.x.at_≤9223372036854775807)∧(-9223372036854775808≤r.x.code∧r.x.code≤9223372036854775807)∧(0≤r.x.rc∧r.x.rc≤255)∧r.x.rv.length≤2000∧(Lib.itoa r.x.at_).length≤21∧(Lib.itoa r.x.code).length≤21∧(Lib.itoa r.x.rc).length≤21
noncomputable def jw (p:fe):IL:=((.cons 6 (.sy (.int 0 p.i)) (.cons 4 (.ptr 2 0) (.cons 3 (.ptr 1 0) (.cons 0 (.ptr 0 0) .nil)))),(.node (.node (.node (.node .leaf (some (.prow 62 18 ai p.g.o0 am)) .leaf) (some (.prow 48 14 BgR p.g.b bo)) .leaf) (some (.blk false 45 10 [(ee p.d)])) (.node (.node .leaf (some (.prow 62 18 ai p.g.o2 am)) .leaf) (some (.prow 57 17 cL p.g.t co)) .leaf)) (some (.blk false 35 9 [[.sy (.prow 3 p.g.b.length),.sy (.prow 4 p.g.e.length),.sy (.prow 5 p.g.t.length),.sy (.prow 6 p.g.s.length),.sy (.prow 7 p.g.o0.length),.sy (.prow 8 p.g.o1.length),.sy (.prow 9 p.g.o2.length),.sy (.prow 10 p.g.o3.length),.sy (.int 0 p.g.sp)]])) (.node (.node (.node .leaf (some (.prow 62 18 ai p.g.o1 am)) .leaf) (some (.prow 52 17 EdR p.g.e bA)) .leaf) (some (.blk false 52 17 [[.int 1 (.ofNat 0),.int 2 (.ofNat 0),.int 3 (.ofNat 0),.int 1 (.ofNat 0),.int 1 (.ofNat 0),.int 1 (.ofNat 0),.int 1 (.ofNat 0),.int 1 (.ofNat 0),.int 1 (.ofNat 0),.int 1 (.ofNat 0),.int 1 (.ofNat 0),.int 0 (.ofNat 0),.int 0 (.ofNat 0),.int 0 (.ofNat 0),.int 0 (.ofNat 0),.int 1 (.ofNat 0),.str []]])) (.node (.node .leaf (some (.prow 62 18 ai p.g.o3 am)) .leaf) (some (.prow 59 5 cM p.g.s cp)) .leaf))),11)
noncomputable def wI (p:fe) (K:KC):Bool:=ac (iP (Gx p) (K 2 (.cons 4 (.ptr 1 0) .nil) (.node (.node (.node (.node .leaf (some (.prow 62 18 ai p.g.o1 am)) .leaf) (some (.prow 52 17 EdR p.g.e bA)) .leaf) (some (.blk false 52 17 [[.int 1 (.ofNat 0),.int 2 (.ofNat 0),.int 3 (.ofNat 0),.int 1 (.ofNat 0),.int 1 (.ofNat 0),.int 1 (.ofNat 0),.int 1 (.ofNat 0),.int 1 (.ofNat 0),.int 1 (.ofNat 0),.int 1 (.ofNat 0),.int 1 (.ofNat 0),.int 0 (.ofNat 0),.int 0 (.ofNat 0),.int 0 (.ofNat 0),.int 0 (.ofNat 0),.int 1 (.ofNat 0),.str []]])) (.node (.node .leaf (some (.prow 62 18 ai p.g.o3 am)) .leaf) (some (.prow 59 5 cM p.g.s cp)) .leaf)) (some (.blk false 35 9 [[.sy (.prow 2 p.g.b.length),.sy (.prow 3 p.g.e.length),.sy (.prow 4 p.g.t.length),.sy (.prow 5 p.g.s.length),.sy (.prow 6 p.g.o0.length),.sy (.prow 7 p.g.o1.length),.sy (.prow 8 p.g.o2.length),.sy (.prow 9 p.g.o3.length),.sy (.int 0 p.g.sp)]])) (.node (.node (.node .leaf (some (.prow 62 18 ai p.g.o2 am)) .leaf) (some (.prow 57 17 cL p.g.t co)) .leaf) (some (.prow 48 14 BgR p.g.b bo)) (.node .leaf (some (.prow 62 18 ai p.g.o0 am)) .leaf))) 10) true) (aA fun r:tI=>iP (DR p r) (K 1 (.cons 5 (.bool true) (.cons 4 (.ptr 1 0) .nil)) (Ren p.g r.x) 10) true)
def jB (p:fe):Prop:=(bD p.g 80∧∀x∈p.g.e,lE x)∧0≤p.i∧p.i≤(p.g.e.length:Int)∧(∀(j:Nat) y,(j:Int)<p.i→p.g.e[j]?=some y→¬y.id=p.d)
noncomputable def tj (p:fe) (K:KC):Bool:=ac (au (jB p)) (wI p K)
noncomputable def zT:ft:=fun j S M nx K=>(Bool.rec (false) (aI fun p:fe=>ac (au ((S,M,nx)=jw p)) (tj p K)) (Nat.beq j 0))
def hX (p:fe):Nat:=((p.g.e.length:Int) - p.i).toNat
noncomputable def Ht (s:IL) (n:Nat) (K:KC):Bool:=aI fun q=>mP (s=jw q∧hX q<n) (tj q K)
theorem RE {p q:fe} {K:KC} {s:IL} (hm:hX q<hX p:=by dsimp only[hX]<;>(omega)) (hp:jB q:=by dsimp only[jB]<;>(exact⟨⟨gl,ge⟩,by omega,by omega,vd g3 g1 (by assumption:p.g.e[p.i.toNat]?=some x1) (by assumption)⟩)) (hK:wI q K=true:=by exact(by first|exact hK|exact aM hK0 hK1)) (e:s=jw q:=by rfl):Ht s (hX p) K=true:=aG q (bf ⟨e,hm⟩ (bf hp hK))
theorem PZ (p:fe) (K:KC) (hpre:jB p) (hK:wI p K=true):(cQ (bH vS) zT 600 Al (jw p).1 (jw p).2.1 (jw p).2.2 (fun e S M nx=>Nat.casesOn e (aI fun q:fe=>ac (au ((S,M,nx)=jw q∧hX q<hX p)) (tj q K)) (fun e2=>K (Nat.succ e2) S M nx)))=true:=by
 refine Eq.trans (b:=(iP (p.i<(p.g.e.length:Int)) (mP (0≤p.i∧p.i<(p.g.e.length:Int)) (mP (p.i.toNat<p.g.e.length) (aA fun x1:EdR=>iP (p.g.e[p.i.toNat]?=some x1) (sH (⟨⟨x1.id.client.node,x1.id.client.life⟩,x1.id.seq,x1.id.depth,⟨x1.id.p0.group,x1.id.p0.index⟩,⟨x1.id.p1.group,x1.id.p1.index⟩,⟨x1.id.p2.group,x1.id.p2.index⟩⟩:ID) p.d (mP (0≤p.i∧p.i<(p.g.e.length:Int)) (mP (p.i.toNat<p.g.e.length) (aA fun x2:EdR=>iP (p.g.e[p.i.toNat]?=some x2) (K 1 (.cons 5 (.bool true) (.cons 4 (.ptr 1 0) .nil)) (.node (.node (.node (.node .leaf (some (.prow 62 18 ai p.g.o1 am)) .leaf) (some (.prow 52 17 EdR p.g.e bA)) .leaf) (some (.blk false 52 17 [(tG ({x2 with id:=⟨⟨x2.id.client.node,x2.id.client.life⟩,x2.id.seq,x2.id.depth,⟨x2.id.p0.group,x2.id.p0.index⟩,⟨x2.id.p1.group,x2.id.p1.index⟩,⟨x2.id.p2.group,x2.id.p2.index⟩⟩}:EdR))])) (.node (.node .leaf (some (.prow 62 18 ai p.g.o3 am)) .leaf) (some (.prow 59 5 cM p.g.s cp)) .leaf)) (some (.blk false 35 9 [[.sy (.prow 2 p.g.b.length),.sy (.prow 3 p.g.e.length),.sy (.prow 4 p.g.t.length),.sy (.prow 5 p.g.s.length),.sy (.prow 6 p.g.o0.length),.sy (.prow 7 p.g.o1.length),.sy (.prow 8 p.g.o2.length),.sy (.prow 9 p.g.o3.length),.sy (.int 0 p.g.sp)]])) (.node (.node (.node .leaf (some (.prow 62 18 ai p.g.o2 am)) .leaf) (some (.prow 57 17 cL p.g.t co)) .leaf) (some (.prow 48 14 BgR p.g.b bo)) (.node .leaf (some (.prow 62 18 ai p.g.o0 am)) .leaf))) 10) true))) (mP (aL 0 (p.i+(1:Int))) (Ht ((.cons 6 (.sy (.int 0 (p.i+(1:Int)))) (.cons 4 (.ptr 2 0) (.cons 3 (.ptr 1 0) (.cons 0 (.ptr 0 0) .nil)))),(.node (.node (.node (.node .leaf (some (.prow 62 18 ai p.g.o0 am)) .leaf) (some (.prow 48 14 BgR p.g.b bo)) .leaf) (some (.blk false 45 10 [(ee p.d)])) (.node (.node .leaf (some (.prow 62 18 ai p.g.o2 am)) .leaf) (some (.prow 57 17 cL p.g.t co)) .leaf)) (some (.blk false 35 9 [[.sy (.prow 3 p.g.b.length),.sy (.prow 4 p.g.e.length),.sy (.prow 5 p.g.t.length),.sy (.prow 6 p.g.s.length),.sy (.prow 7 p.g.o0.length),.sy (.prow 8 p.g.o1.length),.sy (.prow 9 p.g.o2.length),.sy (.prow 10 p.g.o3.length),.sy (.int 0 p.g.sp)]])) (.node (.node (.node .leaf (some (.prow 62 18 ai p.g.o1 am)) .leaf) (some (.prow 52 17 EdR p.g.e bA)) .leaf) (some (.blk false 52 17 [[.int 1 (.ofNat 0),.int 2 (.ofNat 0),.int 3 (.ofNat 0),.int 1 (.ofNat 0),.int 1 (.ofNat 0),.int 1 (.ofNat 0),.int 1 (.ofNat 0),.int 1 (.ofNat 0),.int 1 (.ofNat 0),.int 1 (.ofNat 0),.int 1 (.ofNat 0),.int 0 (.ofNat 0),.int 0 (.ofNat 0),.int 0 (.ofNat 0),.int 0 (.ofNat 0),.int 1 (.ofNat 0),.str []]])) (.node (.node .leaf (some (.prow 62 18 ai p.g.o3 am)) .leaf) (some (.prow 59 5 cM p.g.s cp)) .leaf))),11) (hX p) K))) true))) (K 2 (.cons 4 (.ptr 1 0) .nil) (.node (.node (.node (.node .leaf (some (.prow 62 18 ai p.g.o1 am)) .leaf) (some (.prow 52 17 EdR p.g.e bA)) .leaf) (some (.blk false 52 17 [[.int 1 (.ofNat 0),.int 2 (.ofNat 0),.int 3 (.ofNat 0),.int 1 (.ofNat 0),.int 1 (.ofNat 0),.int 1 (.ofNat 0),.int 1 (.ofNat 0),.int 1 (.ofNat 0),.int 1 (.ofNat 0),.int 1 (.ofNat 0),.int 1 (.ofNat 0),.int 0 (.ofNat 0),.int 0 (.ofNat 0),.int 0 (.ofNat 0),.int 0 (.ofNat 0),.int 1 (.ofNat 0),.str []]])) (.node (.node .leaf (some (.prow 62 18 ai p.g.o3 am)) .leaf) (some (.prow 59 5 cM p.g.s cp)) .leaf)) (some (.blk false 35 9 [[.sy (.prow 2 p.g.b.length),.sy (.prow 3 p.g.e.length),.sy (.prow 4 p.g.t.length),.sy (.prow 5 p.g.s.length),.sy (.prow 6 p.g.o0.length),.sy (.prow 7 p.g.o1.length),.sy (.prow 8 p.g.o2.length),.sy (.prow 9 p.g.o3.length),.sy (.int 0 p.g.sp)]])) (.node (.node (.node .leaf (some (.prow 62 18 ai p.g.o2 am)) .leaf) (some (.prow 57 17 cL p.g.t co)) .leaf) (some (.prow 48 14 BgR p.g.b bo)) (.node .leaf (some (.prow 62 18 ai p.g.o0 am)) .leaf))) 10))) (by kernel_rfl) ?_
 obtain⟨hK0,hKr0⟩:=aw hK
 have hK1:=hKr0
 dsimp only[jB]at hpre
 obtain⟨⟨gl,ge⟩,g1,g2,g3⟩:=hpre
 have gl2:=gl
 unfold bD at gl2
 refine iI (fun hc1=> ?_) (fun hc1=> ?_)
 refine dL (fX ?_)
 refine aB (fun x1=> ?_)
 refine iI (fun hi2=> ?_) (fun _=>rfl)
 refine pm (fun hc3=> ?_) (fun hc3=> ?_)
 refine dL (fX ?_)
 refine aB (fun x2=> ?_)
 refine iI (fun hi4=> ?_) (fun _=>rfl)
 exact aP (show(({x2 with id:=⟨⟨x2.id.client.node,x2.id.client.life⟩,x2.id.seq,x2.id.depth,⟨x2.id.p0.group,x2.id.p0.index⟩,⟨x2.id.p1.group,x2.id.p1.index⟩,⟨x2.id.p2.group,x2.id.p2.index⟩⟩}:EdR)∈p.g.e∧dB p.d ({x2 with id:=⟨⟨x2.id.client.node,x2.id.client.life⟩,x2.id.seq,x2.id.depth,⟨x2.id.p0.group,x2.id.p0.index⟩,⟨x2.id.p1.group,x2.id.p1.index⟩,⟨x2.id.p2.group,x2.id.p2.index⟩⟩}:EdR))∧(-9223372036854775808≤({x2 with id:=⟨⟨x2.id.client.node,x2.id.client.life⟩,x2.id.seq,x2.id.depth,⟨x2.id.p0.group,x2.id.p0.index⟩,⟨x2.id.p1.group,x2.id.p1.index⟩,⟨x2.id.p2.group,x2.id.p2.index⟩⟩}:EdR).at_∧({x2 with id:=⟨⟨x2.id.client.node,x2.id.client.life⟩,x2.id.seq,x2.id.depth,⟨x2.id.p0.group,x2.id.p0.index⟩,⟨x2.id.p1.group,x2.id.p1.index⟩,⟨x2.id.p2.group,x2.id.p2.index⟩⟩}:EdR).at_≤9223372036854775807)∧(-9223372036854775808≤({x2 with id:=⟨⟨x2.id.client.node,x2.id.client.life⟩,x2.id.seq,x2.id.depth,⟨x2.id.p0.group,x2.id.p0.index⟩,⟨x2.id.p1.group,x2.id.p1.index⟩,⟨x2.id.p2.group,x2.id.p2.index⟩⟩}:EdR).code∧({x2 with id:=⟨⟨x2.id.client.node,x2.id.client.life⟩,x2.id.seq,x2.id.depth,⟨x2.id.p0.group,x2.id.p0.index⟩,⟨x2.id.p1.group,x2.id.p1.index⟩,⟨x2.id.p2.group,x2.id.p2.index⟩⟩}:EdR).code≤9223372036854775807)∧(0≤({x2 with id:=⟨⟨x2.id.client.node,x2.id.client.life⟩,x2.id.seq,x2.id.depth,⟨x2.id.p0.group,x2.id.p0.index⟩,⟨x2.id.p1.group,x2.id.p1.index⟩,⟨x2.id.p2.group,x2.id.p2.index⟩⟩}:EdR).rc∧({x2 with id:=⟨⟨x2.id.client.node,x2.id.client.life⟩,x2.id.seq,x2.id.depth,⟨x2.id.p0.group,x2.id.p0.index⟩,⟨x2.id.p1.group,x2.id.p1.index⟩,⟨x2.id.p2.group,x2.id.p2.index⟩⟩}:EdR).rc≤255)∧({x2 with id:=⟨⟨x2.id.client.node,x2.id.client.life⟩,x2.id.seq,x2.id.depth,⟨x2.id.p0.group,x2.id.p0.index⟩,⟨x2.id.p1.group,x2.id.p1.index⟩,⟨x2.id.p2.group,x2.id.p2.index⟩⟩}:EdR).rv.length≤2000∧(Lib.itoa ({x2 with id:=⟨⟨x2.id.client.node,x2.id.client.life⟩,x2.id.seq,x2.id.depth,⟨x2.id.p0.group,x2.id.p0.index⟩,⟨x2.id.p1.group,x2.id.p1.index⟩,⟨x2.id.p2.group,x2.id.p2.index⟩⟩}:EdR).at_).length≤21∧(Lib.itoa ({x2 with id:=⟨⟨x2.id.client.node,x2.id.client.life⟩,x2.id.seq,x2.id.depth,⟨x2.id.p0.group,x2.id.p0.index⟩,⟨x2.id.p1.group,x2.id.p1.index⟩,⟨x2.id.p2.group,x2.id.p2.index⟩⟩}:EdR).code).length≤21∧(Lib.itoa ({x2 with id:=⟨⟨x2.id.client.node,x2.id.client.life⟩,x2.id.seq,x2.id.depth,⟨x2.id.p0.group,x2.id.p0.index⟩,⟨x2.id.p1.group,x2.id.p1.index⟩,⟨x2.id.p2.group,x2.id.p2.index⟩⟩}:EdR).rc).length≤21 from(by have e:=ac1 ((by assumption:p.g.e[p.i.toNat]?=some x1).symm.trans (by assumption:p.g.e[p.i.toNat]?=some x2));subst e;exact yg ⟨acH (by assumption:p.g.e[p.i.toNat]?=some x1),by assumption⟩ (ge _ (acH (by assumption:p.g.e[p.i.toNat]?=some x1))))) (aF hK1 (⟨({x2 with id:=⟨⟨x2.id.client.node,x2.id.client.life⟩,x2.id.seq,x2.id.depth,⟨x2.id.p0.group,x2.id.p0.index⟩,⟨x2.id.p1.group,x2.id.p1.index⟩,⟨x2.id.p2.group,x2.id.p2.index⟩⟩}:EdR)⟩:tI))
 refine aN ?_
 exact RE (q:=⟨p.g,p.d,p.i+(1:Int)⟩)
 exact aP (show∀y∈p.g.e,¬y.id=p.d from(by exact ra g3 (by omega))) hK0
theorem QL:dI Tryz.prog 34 1 zT true 0 Al:=by
 exact dM (lf:=600) bv (aT uB) (by rfl) jw hX tj (fun b j x h=>by cases h) (fun S M nx K h=>by obtain⟨p,h⟩:=bL h;exact⟨p,(aa h).1,(aa h).2⟩) (fun p K h=>PZ p K (aa h).1 (aa h).2)
structure pu where
 g:bW
 d:ID
structure Av where
 x:EdR
def Lt (p:pu):Prop:=∀y∈p.g.e,¬y.id=p.d
def Jq (p:pu) (r:Av):Prop:=(r.x∈p.g.e∧dB p.d r.x)∧(-9223372036854775808≤r.x.at_∧r.x.at_≤9223372036854775807)∧(-9223372036854775808≤r.x.code∧r.x.code≤9223372036854775807)∧(0≤r.x.rc∧r.x.rc≤255)∧r.x.rv.length≤2000∧(Lib.itoa r.x.at_).length≤21∧(Lib.itoa r.x.code).length≤21∧(Lib.itoa r.x.rc).length≤21
noncomputable def yo (p:pu):IE:=([.ptr 0 0,.agg (ee p.d)],(ba p.g),9)
noncomputable def Jv (p:pu) (K:KE):Bool:=ac (iP (Lt p) (K (.tup [.agg [.int 1 (.ofNat 0),.int 2 (.ofNat 0),.int 3 (.ofNat 0),.int 1 (.ofNat 0),.int 1 (.ofNat 0),.int 1 (.ofNat 0),.int 1 (.ofNat 0),.int 1 (.ofNat 0),.int 1 (.ofNat 0),.int 1 (.ofNat 0),.int 1 (.ofNat 0),.int 0 (.ofNat 0),.int 0 (.ofNat 0),.int 0 (.ofNat 0),.int 0 (.ofNat 0),.int 1 (.ofNat 0),.str []],.bool false]) (ba p.g) 9) true) (aA fun r:Av=>iP (Jq p r) (K (.tup [.agg (tG r.x),.bool true]) (ba p.g) 9) true)
def rV (p:pu):Prop:=bD p.g 80∧∀x∈p.g.e,lE x
theorem Un (p:pu) (K:KE) (hpre:rV p) (hK:Jv p K=true):(bZ 1 (bH vS) zT 600 Mg (yo p).1 (yo p).2.1 (yo p).2.2 K)=true:=by
 refine Eq.trans (b:=(aI fun p1:fe=>mP (((.cons 6 (.sy (.int 0 0)) (.cons 4 (.ptr 2 0) (.cons 3 (.ptr 1 0) (.cons 0 (.ptr 0 0) .nil)))),(.node (.node (.node (.node .leaf (some (.prow 62 18 ai p.g.o0 am)) .leaf) (some (.prow 48 14 BgR p.g.b bo)) .leaf) (some (.blk false 45 10 [(ee p.d)])) (.node (.node .leaf (some (.prow 62 18 ai p.g.o2 am)) .leaf) (some (.prow 57 17 cL p.g.t co)) .leaf)) (some (.blk false 35 9 [[.sy (.prow 3 p.g.b.length),.sy (.prow 4 p.g.e.length),.sy (.prow 5 p.g.t.length),.sy (.prow 6 p.g.s.length),.sy (.prow 7 p.g.o0.length),.sy (.prow 8 p.g.o1.length),.sy (.prow 9 p.g.o2.length),.sy (.prow 10 p.g.o3.length),.sy (.int 0 p.g.sp)]])) (.node (.node (.node .leaf (some (.prow 62 18 ai p.g.o1 am)) .leaf) (some (.prow 52 17 EdR p.g.e bA)) .leaf) (some (.blk false 52 17 [[.int 1 (.ofNat 0),.int 2 (.ofNat 0),.int 3 (.ofNat 0),.int 1 (.ofNat 0),.int 1 (.ofNat 0),.int 1 (.ofNat 0),.int 1 (.ofNat 0),.int 1 (.ofNat 0),.int 1 (.ofNat 0),.int 1 (.ofNat 0),.int 1 (.ofNat 0),.int 0 (.ofNat 0),.int 0 (.ofNat 0),.int 0 (.ofNat 0),.int 0 (.ofNat 0),.int 1 (.ofNat 0),.str []]])) (.node (.node .leaf (some (.prow 62 18 ai p.g.o3 am)) .leaf) (some (.prow 59 5 cM p.g.s cp)) .leaf))),11)=jw p1) (mP (jB p1) (ac (iP (Gx p1) (K (.tup [.agg [.int 1 (.ofNat 0),.int 2 (.ofNat 0),.int 3 (.ofNat 0),.int 1 (.ofNat 0),.int 1 (.ofNat 0),.int 1 (.ofNat 0),.int 1 (.ofNat 0),.int 1 (.ofNat 0),.int 1 (.ofNat 0),.int 1 (.ofNat 0),.int 1 (.ofNat 0),.int 0 (.ofNat 0),.int 0 (.ofNat 0),.int 0 (.ofNat 0),.int 0 (.ofNat 0),.int 1 (.ofNat 0),.str []],.bool false]) (ba p1.g) 9) true) (aA fun r1:tI=>iP (DR p1 r1) (K (.tup [.agg (tG r1.x),.bool true]) (ba p1.g) 9) true))))) (by kernel_rfl) ?_
 obtain⟨hK0,hKr0⟩:=aw hK
 have hK1:=hKr0
 dsimp only[rV]at hpre
 refine dG (⟨p.g,p.d,(0:Int)⟩:fe) rfl (by(try dsimp only[jB]);exact⟨hpre,by omega,by omega,fun j y h1 h2=>by omega⟩) ?_
 refine aM ?_ ?_
 refine iI (p:=∀y∈p.g.e,¬y.id=p.d) (fun hi1=> ?_) (fun _=>rfl)
 exact aP (show∀y∈p.g.e,¬y.id=p.d from(by exact hi1)) hK0
 refine aB (fun r1=> ?_)
 refine iI (p:=(r1.x∈p.g.e∧dB p.d r1.x)∧(-9223372036854775808≤r1.x.at_∧r1.x.at_≤9223372036854775807)∧(-9223372036854775808≤r1.x.code∧r1.x.code≤9223372036854775807)∧(0≤r1.x.rc∧r1.x.rc≤255)∧r1.x.rv.length≤2000∧(Lib.itoa r1.x.at_).length≤21∧(Lib.itoa r1.x.code).length≤21∧(Lib.itoa r1.x.rc).length≤21) (fun hi2=> ?_) (fun _=>rfl)
 exact aP (show(r1.x∈p.g.e∧dB p.d r1.x)∧(-9223372036854775808≤r1.x.at_∧r1.x.at_≤9223372036854775807)∧(-9223372036854775808≤r1.x.code∧r1.x.code≤9223372036854775807)∧(0≤r1.x.rc∧r1.x.rc≤255)∧r1.x.rv.length≤2000∧(Lib.itoa r1.x.at_).length≤21∧(Lib.itoa r1.x.code).length≤21∧(Lib.itoa r1.x.rc).length≤21 from(by exact hi2)) (aF hK1 (⟨r1.x⟩:Av))
noncomputable def BD:=bM vS 1 (ce yo (dD rV Jv)) 44 [(1,15)]
theorem BC:be Tryz.prog BD:=aY (bV (f:=44) (k:=1) (lp:=zT) (lf:=600) bv (aT uB) Oq (by rfl) (fun b j x h=>(cd QL (fun h=>(by cases h)) h)) fun p K h=>Un p K (aa h).1 (aa h).2) uB
def Pt:XF:=.mk 11 (.one 2) (.aft (.seq (g_ 1 [p_ 0 2 (.mv (.c .nilS))]) (.seq (.seq (g_ 2 [p_ 0 3 (m_ 0),c_ 1 4 46 [.t 3]]) (.cond (.t 4) (.seq (g_ 1 [p_ 0 2 (.mv (.c .nilS))]) .ret) .skip)) (.seq (g_ 7 [p_ 0 5 (m_ 0),p_ 1 6 (n_ 5),p_ 2 7 (f_ 2 6),p_ 3 8 (f_ 1 7),r_ 4 9 (l_ 8),c_ 5 10 72 [.t 9],p_ 6 2 (m_ 10)]) .ret))) [(0,[.bors 2 103 17 EdR bA,.frz 2]),(1,[.bors 2 103 17 EdR bA,.frz 2])])
theorem Rf:bT Tryz.prog 37 Pt=true:=by kernel_rfl
structure vw where
 f:bE
structure ND where
 h:Value
 o:List EdR
def qO (p:vw) (r:ND):Prop:=r.o=p.f.e
noncomputable def CL (p:vw):IE:=([.ptr 0 0],(bj p.f),13)
noncomputable def Fc (p:vw) (K:KE):Bool:=aA fun r:ND=>iP (qO p r) (K (.sy (.imm r.h 17 EdR r.o bA)) (bj p.f) 13) true
def uh (p:vw):Prop:=p.f.e.length≤80
theorem FC {p:vw} {K:KE} (hK:Fc p K=true) (r:ND) (h:qO p r):K (.sy (.imm r.h 17 EdR r.o bA)) (bj p.f) 13=true:=aP h (aF hK r)
theorem Xk (p:vw) (K:KE) (hpre:uh p) (hK:Fc p K=true):(bZ 13 (bH BD) dT 600 Pt (CL p).1 (CL p).2.1 (CL p).2.2 K)=true:=by
 refine Eq.trans (b:=(aA fun pn1:Prop=>iP (pn1→p.f.e.length=0) (iP (pn1) (mP (0=([]:List EdR).length) (aA fun h1:Value=>K (.sy (.imm h1 17 EdR ([]:List EdR) bA)) (bj p.f) 13)) (mP (p.f.e.length=p.f.e.length) (iP (p.f.e=[]) (mP (0=([]:List EdR).length) (aA fun h2:Value=>K (.sy (.imm h2 17 EdR ([]:List EdR) bA)) (bj p.f) 13)) (mP (dh 80 p.f.e.length) (mP (p.f.e.length=p.f.e.length) (aA fun h3:Value=>K (.sy (.imm h3 17 EdR p.f.e bA)) (bj p.f) 13)))))) true)) (by kernel_rfl) ?_
 dsimp only[uh]at hpre
 refine aB (fun pn1=> ?_)
 refine iI (fun hi1=> ?_) (fun _=>rfl)
 refine iI (fun hc2=> ?_) (fun hc2=> ?_)
 refine az ?_
 refine aB (fun h1=> ?_)
 exact FC hK ⟨h1,([]:List EdR)⟩ (by dsimp only[qO]<;>(first|(simp_all;done)|rfl))
 refine mI (by(first|omega|(simp[dh]<;>omega))) ?_
 refine iI (fun hc3=> ?_) (fun hc3=> ?_)
 have hc3l:(p.f.e).length=0:=(by rw[hc3];rfl)
 refine az ?_
 refine aB (fun h2=> ?_)
 exact FC hK ⟨h2,([]:List EdR)⟩ (by dsimp only[qO]<;>(first|(simp_all;done)|rfl))
 have hc3l:0<(p.f.e).length:=List.length_pos_iff.2 hc3
 refine mI (by(first|omega|(simp[dh]<;>omega))) (az ?_)
 refine aB (fun h3=> ?_)
 exact FC hK ⟨h3,p.f.e⟩ (by dsimp only[qO]<;>(first|(simp_all;done)|rfl))
noncomputable def zM:=bM BD 13 (ce CL (dD uh Fc)) 37 []
theorem wV:be Tryz.prog zM:=aY (cX (f:=37) (k:=13) (aT BC) Rf (by rfl) (by rfl) Xk) BC
def xv:XC:=(.aft (.seq (g_ 1 [p_ 0 15 (.bin 3 0 (.t 14) (.t 13))]) (.seq (.cond (.t 15) .skip (.exit 2)) (.seq (.block 3 (.seq (g_ 4 [p_ 0 16 (.ixs 14 (.t 12) (.t 14)),r_ 1 17 (.ld true 14 (.t 16)),e_ 2 5 (.al 78 [.int 1 (.ofNat 0),.int 2 (.ofNat 0),.int 3 (.ofNat 0),.int 1 (.ofNat 0),.int 1 (.ofNat 0),.int 1 (.ofNat 0),.int 1 (.ofNat 0),.int 1 (.ofNat 0),.int 1 (.ofNat 0),.int 1 (.ofNat 0),.int 1 (.ofNat 0),.int 0 (.ofNat 0),.int 0 (.ofNat 0),.nilS]),cA 3 (.st 14 (.t 5) (.t 17))]) (.seq (g_ 5 [p_ 0 18 (f_ 13 5),r_ 1 19 (l_ 18),c_ 2 20 45 [.t 19],p_ 3 21 (f_ 13 5),cA 4 (.st 1 (.t 21) (.t 20))]) (g_ 5 [p_ 0 22 (m_ 3),r_ 1 23 (.ld true 14 (.t 5)),e_ 2 24 (.bsl 78 14 1 [.int 1 (.ofNat 0),.int 2 (.ofNat 0),.int 3 (.ofNat 0),.int 1 (.ofNat 0),.int 1 (.ofNat 0),.int 1 (.ofNat 0),.int 1 (.ofNat 0),.int 1 (.ofNat 0),.int 1 (.ofNat 0),.int 1 (.ofNat 0),.int 1 (.ofNat 0),.int 0 (.ofNat 0),.int 0 (.ofNat 0),.nilS] [(0,14)] [.t 23]),e_ 3 25 (.app 78 14 64 (.t 22) (.t 24)),p_ 4 3 (m_ 25)])))) (g_ 2 [p_ 0 26 (.bin 0 0 (.t 14) (i_ 1)),p_ 1 14 (m_ 26)])))) [(0,[.can 13 [3,12,13,14]]),(2,[.can 13 [3]])])
def Kc:XF:=.mk 28 (.one 2) (.aft (.seq (g_ 1 [p_ 0 2 (.mv (.c .nilS))]) (.seq (.seq (g_ 2 [p_ 0 6 (m_ 0),c_ 1 7 46 [.t 6]]) (.cond (.t 7) (.seq (g_ 1 [p_ 0 2 (.mv (.c .nilS))]) .ret) .skip)) (.seq (g_ 1 [p_ 0 3 (.mv (.c .nilS))]) (.seq (.seq (g_ 7 [p_ 0 8 (m_ 0),p_ 1 9 (n_ 8),p_ 2 10 (f_ 0 9),p_ 3 11 (f_ 1 10),r_ 4 12 (l_ 11),p_ 5 13 (k_ 12),p_ 6 14 (.mv (i_ 0))]) (.block 2 (.pre [.can 13 [3,12,13,14],.born 3 78 14 BgR bo,.up 13,.up 14,.can 13 [3,12,13,14]] (.inv 0 xv)))) (.seq (g_ 2 [p_ 0 27 (m_ 3),p_ 1 2 (m_ 27)]) .ret))))) [(0,[.frz 2]),(1,[.frz 2])])
theorem My:bT Tryz.prog 38 Kc=true:=by kernel_rfl
structure eQ where
 f:bE
 o:List BgR
 i:Int
structure AG where
 o:List BgR
def nW (p:eQ) (r:AG):Prop:=r.o.map bN=p.f.b.map bN∧∀x∈r.o,jS x
noncomputable def im (p:eQ):IL:=((.cons 14 (.sy (.int 0 p.i)) (.cons 13 (.sy (.int 0 (p.f.b.length:Int))) (.cons 12 (.sy (.prow 2 p.f.b.length)) (.cons 3 (.sy (.prow 13 p.o.length)) .nil)))),(.node (.node (.node (.node .leaf (some (.kmap false true false eI p.f.ms ed cP)) .leaf) (some (.kmap false true false ID p.f.me bG bw)) (.node .leaf (some (.prow 108 18 ai p.f.o2 am)) .leaf)) (some (.kmap false true false ID p.f.mb bG bw)) (.node (.node .leaf (some (.prow 108 18 ai p.f.o0 am)) .leaf) (some (.kmap false true false eD p.f.mt dZ cO)) (.node .leaf (some (.prow 78 14 BgR p.o bo)) .leaf))) (some (.blk false 97 14 [[.sy (.kmp 1),.sy (.prow 2 p.f.b.length),.sy (.kmp 3),.sy (.prow 4 p.f.e.length),.sy (.kmp 5),.sy (.prow 6 p.f.t.length),.sy (.kmp 7),.sy (.prow 8 p.f.s.length),.sy (.prow 9 p.f.o0.length),.sy (.prow 10 p.f.o1.length),.sy (.prow 11 p.f.o2.length),.sy (.prow 12 p.f.o3.length),.sy (.int 0 p.f.sp),.bool true]])) (.node (.node (.node .leaf (some (.prow 119 5 cM p.f.s cp)) .leaf) (some (.prow 103 17 EdR p.f.e bA)) (.node .leaf (some (.prow 108 18 ai p.f.o3 am)) .leaf)) (some (.prow 78 14 BgR p.f.b bo)) (.node (.node .leaf (some (.prow 108 18 ai p.f.o1 am)) .leaf) (some (.prow 115 17 cL p.f.t co)) .leaf))),14)
noncomputable def pY (p:eQ) (K:KC):Bool:=aA fun r:AG=>iP (nW p r) (K 2 (.cons 3 (.sy (.prow 13 r.o.length)) .nil) (.node (.node (.node (.node .leaf (some (.kmap false true false eI p.f.ms ed cP)) .leaf) (some (.kmap false true false ID p.f.me bG bw)) (.node .leaf (some (.prow 108 18 ai p.f.o2 am)) .leaf)) (some (.kmap false true false ID p.f.mb bG bw)) (.node (.node .leaf (some (.prow 108 18 ai p.f.o0 am)) .leaf) (some (.kmap false true false eD p.f.mt dZ cO)) (.node .leaf (some (.prow 78 14 BgR r.o bo)) .leaf))) (some (.blk false 97 14 [[.sy (.kmp 1),.sy (.prow 2 p.f.b.length),.sy (.kmp 3),.sy (.prow 4 p.f.e.length),.sy (.kmp 5),.sy (.prow 6 p.f.t.length),.sy (.kmp 7),.sy (.prow 8 p.f.s.length),.sy (.prow 9 p.f.o0.length),.sy (.prow 10 p.f.o1.length),.sy (.prow 11 p.f.o2.length),.sy (.prow 12 p.f.o3.length),.sy (.int 0 p.f.sp),.bool true]])) (.node (.node (.node .leaf (some (.prow 119 5 cM p.f.s cp)) .leaf) (some (.prow 103 17 EdR p.f.e bA)) (.node .leaf (some (.prow 108 18 ai p.f.o3 am)) .leaf)) (some (.prow 78 14 BgR p.f.b bo)) (.node (.node .leaf (some (.prow 108 18 ai p.f.o1 am)) .leaf) (some (.prow 115 17 cL p.f.t co)) .leaf))) 14) true
def iG (p:eQ):Prop:=(p.f.b.length≤80∧0≤p.i∧p.i≤(p.f.b.length:Int)∧(p.o.length:Int)=p.i)∧(∀x∈p.f.b,jS x)∧(∀x∈p.o,jS x)∧p.o.map bN=(p.f.b.take p.i.toNat).map bN
theorem MP {p:eQ} {K:KC} (hK:pY p K=true) (r:AG) (h:nW p r):K 2 (.cons 3 (.sy (.prow 13 r.o.length)) .nil) (.node (.node (.node (.node .leaf (some (.kmap false true false eI p.f.ms ed cP)) .leaf) (some (.kmap false true false ID p.f.me bG bw)) (.node .leaf (some (.prow 108 18 ai p.f.o2 am)) .leaf)) (some (.kmap false true false ID p.f.mb bG bw)) (.node (.node .leaf (some (.prow 108 18 ai p.f.o0 am)) .leaf) (some (.kmap false true false eD p.f.mt dZ cO)) (.node .leaf (some (.prow 78 14 BgR r.o bo)) .leaf))) (some (.blk false 97 14 [[.sy (.kmp 1),.sy (.prow 2 p.f.b.length),.sy (.kmp 3),.sy (.prow 4 p.f.e.length),.sy (.kmp 5),.sy (.prow 6 p.f.t.length),.sy (.kmp 7),.sy (.prow 8 p.f.s.length),.sy (.prow 9 p.f.o0.length),.sy (.prow 10 p.f.o1.length),.sy (.prow 11 p.f.o2.length),.sy (.prow 12 p.f.o3.length),.sy (.int 0 p.f.sp),.bool true]])) (.node (.node (.node .leaf (some (.prow 119 5 cM p.f.s cp)) .leaf) (some (.prow 103 17 EdR p.f.e bA)) (.node .leaf (some (.prow 108 18 ai p.f.o3 am)) .leaf)) (some (.prow 78 14 BgR p.f.b bo)) (.node (.node .leaf (some (.prow 108 18 ai p.f.o1 am)) .leaf) (some (.prow 115 17 cL p.f.t co)) .leaf))) 14=true:=aP h (aF hK r)
noncomputable def rB (p:eQ) (K:KC):Bool:=ac (au (iG p)) (pY p K)
noncomputable def wj:ft:=fun j S M nx K=>(Bool.rec (false) (aI fun p:eQ=>ac (au ((S,M,nx)=im p)) (rB p K)) (Nat.beq j 0))
def gu (p:eQ):Nat:=((p.f.b.length:Int) - p.i).toNat
noncomputable def Ev (s:IL) (n:Nat) (K:KC):Bool:=aI fun q=>mP (s=im q∧gu q<n) (rB q K)
theorem OK {p q:eQ} {K:KC} {s:IL} (hm:gu q<gu p:=by dsimp only[gu]<;>(omega)) (hp:iG q:=by dsimp only[iG]<;>(have e1:=(by assumption:_=x1.ps);have hx:=g5 _ (acH (by assumption:p.f.b[p.i.toNat]?=some x1));exact⟨⟨g1,by omega,by omega,by simp;omega⟩,g5,jJ g6 (by unfold jS UW at hx ⊢;simp only;rw[e1];exact hx),xY g2 g7 (by assumption:p.f.b[p.i.toNat]?=some x1) (by simp only[bN])⟩)) (hK:pY q K=true:=by exact hK) (e:s=im q:=by rfl):Ev s (gu p) K=true:=aG q (bf ⟨e,hm⟩ (bf hp hK))
theorem NV (p:eQ) (K:KC) (hpre:iG p) (hK:pY p K=true):(cQ (bH zM) wj 600 xv (im p).1 (im p).2.1 (im p).2.2 (fun e S M nx=>Nat.casesOn e (aI fun q:eQ=>ac (au ((S,M,nx)=im q∧gu q<gu p)) (rB q K)) (fun e2=>K (Nat.succ e2) S M nx)))=true:=by
 refine Eq.trans (b:=(iP (p.i<(p.f.b.length:Int)) (mP (0≤p.i∧p.i<(p.f.b.length:Int)) (mP (p.i.toNat<p.f.b.length) (aA fun x1:BgR=>iP (p.f.b[p.i.toNat]?=some x1) (aX (([.sy (.imm x1.hp 5 aW x1.ps encP)],.leaf,0)) eT bX bY fun p1 r1=>mP (p.o.length=p.o.length) (aI fun m1:List BgR=>mP (dx (m1.map bo) [[.sint 1 x1.id.client.node,.sint 2 x1.id.client.life,.sint 3 x1.id.seq,.sint 1 x1.id.depth,.sint 1 x1.id.p0.group,.sint 1 x1.id.p0.index,.sint 1 x1.id.p1.group,.sint 1 x1.id.p1.index,.sint 1 x1.id.p2.group,.sint 1 x1.id.p2.index,.sint 1 x1.g,.sint 0 x1.mode,.sint 0 x1.at_,.imm r1.h 5 aW r1.o encP]]) (mP (dh 64 (p.o.length+m1.length)) (mP (aL 0 (p.i+(1:Int))) (Ev ((.cons 14 (.sy (.int 0 (p.i+(1:Int)))) (.cons 13 (.sy (.int 0 (p.f.b.length:Int))) (.cons 12 (.sy (.prow 2 p.f.b.length)) (.cons 3 (.sy (.prow 13 ((p.o++m1).length))) .nil)))),(.node (.node (.node (.node .leaf (some (.kmap false true false eI p.f.ms ed cP)) .leaf) (some (.kmap false true false ID p.f.me bG bw)) (.node .leaf (some (.prow 108 18 ai p.f.o2 am)) .leaf)) (some (.kmap false true false ID p.f.mb bG bw)) (.node (.node .leaf (some (.prow 108 18 ai p.f.o0 am)) .leaf) (some (.kmap false true false eD p.f.mt dZ cO)) (.node .leaf (some (.prow 78 14 BgR (p.o++m1) bo)) .leaf))) (some (.blk false 97 14 [[.sy (.kmp 1),.sy (.prow 2 p.f.b.length),.sy (.kmp 3),.sy (.prow 4 p.f.e.length),.sy (.kmp 5),.sy (.prow 6 p.f.t.length),.sy (.kmp 7),.sy (.prow 8 p.f.s.length),.sy (.prow 9 p.f.o0.length),.sy (.prow 10 p.f.o1.length),.sy (.prow 11 p.f.o2.length),.sy (.prow 12 p.f.o3.length),.sy (.int 0 p.f.sp),.bool true]])) (.node (.node (.node .leaf (some (.prow 119 5 cM p.f.s cp)) .leaf) (some (.prow 103 17 EdR p.f.e bA)) (.node .leaf (some (.prow 108 18 ai p.f.o3 am)) .leaf)) (some (.prow 78 14 BgR p.f.b bo)) (.node (.node .leaf (some (.prow 108 18 ai p.f.o1 am)) .leaf) (some (.prow 115 17 cL p.f.t co)) .leaf))),14) (gu p) K))))) true))) (K 2 (.cons 3 (.sy (.prow 13 p.o.length)) .nil) (.node (.node (.node (.node .leaf (some (.kmap false true false eI p.f.ms ed cP)) .leaf) (some (.kmap false true false ID p.f.me bG bw)) (.node .leaf (some (.prow 108 18 ai p.f.o2 am)) .leaf)) (some (.kmap false true false ID p.f.mb bG bw)) (.node (.node .leaf (some (.prow 108 18 ai p.f.o0 am)) .leaf) (some (.kmap false true false eD p.f.mt dZ cO)) (.node .leaf (some (.prow 78 14 BgR p.o bo)) .leaf))) (some (.blk false 97 14 [[.sy (.kmp 1),.sy (.prow 2 p.f.b.length),.sy (.kmp 3),.sy (.prow 4 p.f.e.length),.sy (.kmp 5),.sy (.prow 6 p.f.t.length),.sy (.kmp 7),.sy (.prow 8 p.f.s.length),.sy (.prow 9 p.f.o0.length),.sy (.prow 10 p.f.o1.length),.sy (.prow 11 p.f.o2.length),.sy (.prow 12 p.f.o3.length),.sy (.int 0 p.f.sp),.bool true]])) (.node (.node (.node .leaf (some (.prow 119 5 cM p.f.s cp)) .leaf) (some (.prow 103 17 EdR p.f.e bA)) (.node .leaf (some (.prow 108 18 ai p.f.o3 am)) .leaf)) (some (.prow 78 14 BgR p.f.b bo)) (.node (.node .leaf (some (.prow 108 18 ai p.f.o1 am)) .leaf) (some (.prow 115 17 cL p.f.t co)) .leaf))) 14))) (by kernel_rfl) ?_
 dsimp only[iG]at hpre
 obtain⟨⟨g1,g2,g3,g4⟩,g5,g6,g7⟩:=hpre
 refine iI (fun hc1=> ?_) (fun hc1=> ?_)
 refine dL (fX ?_)
 refine aB (fun x1=> ?_)
 refine iI (fun hi2=> ?_) (fun _=>rfl)
 refine aJ (⟨x1.hp,x1.ps⟩:ek) rfl (by(try dsimp only[bX]);first|omega|(have hx:=(g5 _ (acH (by assumption:p.f.b[p.i.toNat]?=some x1))).2;omega)) fun r1 hi3=> ?_
 dsimp only[bY]at hi3
 refine az ?_
 refine aG [⟨⟨⟨x1.id.client.node,x1.id.client.life⟩,x1.id.seq,x1.id.depth,⟨x1.id.p0.group,x1.id.p0.index⟩,⟨x1.id.p1.group,x1.id.p1.index⟩,⟨x1.id.p2.group,x1.id.p2.index⟩⟩,x1.g,x1.mode,x1.at_,r1.h,r1.o⟩] ?_
 refine jN ?_
 refine li (aN ?_)
 exact OK (q:=⟨p.f,p.o++[⟨⟨⟨x1.id.client.node,x1.id.client.life⟩,x1.id.seq,x1.id.depth,⟨x1.id.p0.group,x1.id.p0.index⟩,⟨x1.id.p1.group,x1.id.p1.index⟩,⟨x1.id.p2.group,x1.id.p2.index⟩⟩,x1.g,x1.mode,x1.at_,r1.h,r1.o⟩],p.i+(1:Int)⟩)
 exact MP hK ⟨p.o⟩ (by dsimp only[nW]<;>exact⟨xX g7 (by omega),g6⟩)
theorem Oh:dI Tryz.prog 28 13 wj true 0 xv:=by
 exact dM (lf:=600) bv (aT wV) (by rfl) im gu rB (fun b j x h=>by cases h) (fun S M nx K h=>by obtain⟨p,h⟩:=bL h;exact⟨p,(aa h).1,(aa h).2⟩) (fun p K h=>NV p K (aa h).1 (aa h).2)
structure oU where
 f:bE
structure Gj where
 h:Value
 o:List BgR
def sj (p:oU) (r:Gj):Prop:=r.o.map bN=p.f.b.map bN∧∀x∈r.o,jS x
noncomputable def vo (p:oU):IE:=([.ptr 0 0],(bj p.f),13)
noncomputable def zq (p:oU) (K:KE):Bool:=aA fun r:Gj=>iP (sj p r) (K (.sy (.imm r.h 14 BgR r.o bo)) (bj p.f) 13) true
def pN (p:oU):Prop:=(∀x∈p.f.b,jS x)∧p.f.b.length≤80
theorem Rr {p:oU} {K:KE} (hK:zq p K=true) (r:Gj) (h:sj p r):K (.sy (.imm r.h 14 BgR r.o bo)) (bj p.f) 13=true:=aP h (aF hK r)
theorem Sj (p:oU) (K:KE) (hpre:pN p) (hK:zq p K=true):(bZ 13 (bH zM) wj 600 Kc (vo p).1 (vo p).2.1 (vo p).2.2 K)=true:=by
 refine Eq.trans (b:=(aX (((.cons 14 (.sy (.int 0 0)) (.cons 13 (.sy (.int 0 (p.f.b.length:Int))) (.cons 12 (.sy (.prow 2 p.f.b.length)) (.cons 3 (.sy (.prow 13 0)) .nil)))),(.node (.node (.node (.node .leaf (some (.kmap false true false eI p.f.ms ed cP)) .leaf) (some (.kmap false true false ID p.f.me bG bw)) (.node .leaf (some (.prow 108 18 ai p.f.o2 am)) .leaf)) (some (.kmap false true false ID p.f.mb bG bw)) (.node (.node .leaf (some (.prow 108 18 ai p.f.o0 am)) .leaf) (some (.kmap false true false eD p.f.mt dZ cO)) (.node .leaf (some (.prow 78 14 BgR ([]:List BgR) bo)) .leaf))) (some (.blk false 97 14 [[.sy (.kmp 1),.sy (.prow 2 p.f.b.length),.sy (.kmp 3),.sy (.prow 4 p.f.e.length),.sy (.kmp 5),.sy (.prow 6 p.f.t.length),.sy (.kmp 7),.sy (.prow 8 p.f.s.length),.sy (.prow 9 p.f.o0.length),.sy (.prow 10 p.f.o1.length),.sy (.prow 11 p.f.o2.length),.sy (.prow 12 p.f.o3.length),.sy (.int 0 p.f.sp),.bool true]])) (.node (.node (.node .leaf (some (.prow 119 5 cM p.f.s cp)) .leaf) (some (.prow 103 17 EdR p.f.e bA)) (.node .leaf (some (.prow 108 18 ai p.f.o3 am)) .leaf)) (some (.prow 78 14 BgR p.f.b bo)) (.node (.node .leaf (some (.prow 108 18 ai p.f.o1 am)) .leaf) (some (.prow 115 17 cL p.f.t co)) .leaf))),14)) im iG nW fun p1 r1=>mP (r1.o.length=r1.o.length) (aA fun h1:Value=>K (.sy (.imm h1 14 BgR r1.o bo)) (bj p1.f) 13))) (by kernel_rfl) ?_
 dsimp only[pN]at hpre
 obtain⟨u1,u2⟩:=hpre
 refine aJ (⟨p.f,([]:List BgR),(0:Int)⟩:eQ) rfl (by(try dsimp only[iG]);exact⟨⟨by omega,by omega,by omega,by simp⟩,u1,by simp,by simp⟩) fun r1 hi1=> ?_
 dsimp only[nW]at hi1
 refine az ?_
 refine aB (fun h1=> ?_)
 exact Rr hK ⟨h1,r1.o⟩ (by dsimp only[sj]<;>exact hi1)
noncomputable def ni:=bM zM 13 (ce vo (dD pN zq)) 38 []
theorem ou:be Tryz.prog ni:=aY (bV (f:=38) (k:=13) (lp:=wj) (lf:=600) bv (aT wV) My (by rfl) (fun b j x h=>(cd Oh (fun h=>(by cases h)) h)) fun p K h=>Sj p K (aa h).1 (aa h).2) wV
noncomputable def Co (f:bE) (m:List EdR) (k0:Nat) (k1:Nat) (k2:Nat) (k3:Nat) (k4:Nat) (k5:Nat) (k6:Nat) (k7:Nat):T:=(.node (.node (.node (.node .leaf (some (.kmap false true false eI f.ms ed cP)) .leaf) (some (.kmap false true false ID f.me bG bw)) (.node .leaf (some (.prow 108 18 ai f.o2 am)) .leaf)) (some (.kmap false true false ID f.mb bG bw)) (.node (.node .leaf (some (.prow 108 18 ai f.o0 am)) .leaf) (some (.kmap false true false eD f.mt dZ cO)) (.node .leaf (some (.kmap true true true EdR m mz bA)) .leaf))) (some (.blk false 97 14 [[.sy (.kmp 1),.sy (.prow 2 k0),.sy (.kmp 3),.sy (.prow 4 k1),.sy (.kmp 5),.sy (.prow 6 k2),.sy (.kmp 7),.sy (.prow 8 k3),.sy (.prow 9 k4),.sy (.prow 10 k5),.sy (.prow 11 k6),.sy (.prow 12 k7),.sy (.int 0 f.sp),.bool true]])) (.node (.node (.node .leaf (some (.prow 119 5 cM f.s cp)) .leaf) (some (.prow 103 17 EdR f.e bA)) (.node .leaf (some (.prow 108 18 ai f.o3 am)) .leaf)) (some (.prow 78 14 BgR f.b bo)) (.node (.node .leaf (some (.prow 108 18 ai f.o1 am)) .leaf) (some (.prow 115 17 cL f.t co)) (.node .leaf (some (.blk false 131 2 [[.nilP,.nilS]])) .leaf))))
noncomputable def Con (f:bE) (m:List EdR):T:=Co f m f.b.length f.e.length f.t.length f.s.length f.o0.length f.o1.length f.o2.length f.o3.length
noncomputable def Cp (f:bE) (m:List EdR) (b:List UInt8) (k0:Nat) (k1:Nat) (k2:Nat) (k3:Nat) (k4:Nat) (k5:Nat) (k6:Nat) (k7:Nat) (k8:Nat):T:=(.node (.node (.node (.node (.node .leaf (some (.prow 5 1 UInt8 b bi)) .leaf) (some (.kmap false true false eI f.ms ed cP)) .leaf) (some (.kmap false true false ID f.me bG bw)) (.node .leaf (some (.prow 108 18 ai f.o2 am)) .leaf)) (some (.kmap false true false ID f.mb bG bw)) (.node (.node .leaf (some (.prow 108 18 ai f.o0 am)) .leaf) (some (.kmap false true false eD f.mt dZ cO)) (.node .leaf (some (.kmap true true true EdR m mz bA)) .leaf))) (some (.blk false 97 14 [[.sy (.kmp 1),.sy (.prow 2 k0),.sy (.kmp 3),.sy (.prow 4 k1),.sy (.kmp 5),.sy (.prow 6 k2),.sy (.kmp 7),.sy (.prow 8 k3),.sy (.prow 9 k4),.sy (.prow 10 k5),.sy (.prow 11 k6),.sy (.prow 12 k7),.sy (.int 0 f.sp),.bool true]])) (.node (.node (.node .leaf (some (.prow 119 5 cM f.s cp)) .leaf) (some (.prow 103 17 EdR f.e bA)) (.node .leaf (some (.prow 108 18 ai f.o3 am)) .leaf)) (some (.prow 78 14 BgR f.b bo)) (.node (.node .leaf (some (.prow 108 18 ai f.o1 am)) .leaf) (some (.prow 115 17 cL f.t co)) (.node .leaf (some (.blk false 131 2 [[.ptr 14 0,.sy (.prow 15 k8)]])) .leaf))))
noncomputable def sQ (f:bE) (m:List EdR) (b:List UInt8):T:=Cp f m b f.b.length f.e.length f.t.length f.s.length f.o0.length f.o1.length f.o2.length f.o3.length b.length
def IR:XC:=(.aft (.seq (g_ 1 [p_ 0 17 (.bin 3 0 (.t 16) (.t 15))]) (.seq (.cond (.t 17) .skip (.exit 2)) (.seq (.block 3 (.seq (g_ 4 [p_ 0 18 (.ixs 17 (.t 14) (.t 16)),r_ 1 19 (.ld true 17 (.t 18)),e_ 2 5 (.al 103 [.int 1 (.ofNat 0),.int 2 (.ofNat 0),.int 3 (.ofNat 0),.int 1 (.ofNat 0),.int 1 (.ofNat 0),.int 1 (.ofNat 0),.int 1 (.ofNat 0),.int 1 (.ofNat 0),.int 1 (.ofNat 0),.int 1 (.ofNat 0),.int 1 (.ofNat 0),.int 0 (.ofNat 0),.int 0 (.ofNat 0),.int 0 (.ofNat 0),.int 0 (.ofNat 0),.int 1 (.ofNat 0),.str []]),cA 3 (.st 17 (.t 5) (.t 19))]) (g_ 5 [p_ 0 20 (m_ 3),p_ 1 21 (f_ 0 5),r_ 2 22 (.ld true 10 (.t 21)),r_ 3 23 (.ld true 17 (.t 5)),cA 4 (.mu 4 (.st [(0,2,true,.st [(0,1,false,.int),(1,1,false,.int)]),(2,1,false,.int),(3,1,false,.int),(4,6,true,.ar [0,2,4] 2 true (.st [(0,1,false,.int),(1,1,false,.int)]))]) (.t 20) (.t 22) (.t 23))]))) (g_ 2 [p_ 0 24 (.bin 0 0 (.t 16) (i_ 1)),p_ 1 16 (m_ 24)])))) [(0,[.can 13 [0,3,14,15,16]]),(2,[.can 13 [0,3]])])
def Dy:XC:=(.aft (.seq (g_ 1 [p_ 0 29 (.bin 3 0 (.t 28) (.t 27))]) (.seq (.cond (.t 29) .skip (.exit 4)) (.seq (.block 5 (.seq (g_ 4 [p_ 0 30 (.ixs 14 (.t 26) (.t 28)),r_ 1 31 (.ld true 14 (.t 30)),e_ 2 8 (.al 78 [.int 1 (.ofNat 0),.int 2 (.ofNat 0),.int 3 (.ofNat 0),.int 1 (.ofNat 0),.int 1 (.ofNat 0),.int 1 (.ofNat 0),.int 1 (.ofNat 0),.int 1 (.ofNat 0),.int 1 (.ofNat 0),.int 1 (.ofNat 0),.int 1 (.ofNat 0),.int 0 (.ofNat 0),.int 0 (.ofNat 0),.nilS]),cA 3 (.st 14 (.t 8) (.t 31))]) (.seq (.reg true 12 (.split 2 5 (.leaf [p_ 0 32 (f_ 0 8),r_ 1 33 (.ld true 10 (.t 32)),p_ 3 35 (f_ 11 8),r_ 4 36 (l_ 35),p_ 7 39 (f_ 12 8),r_ 8 40 (l_ 39),c_ 2 34 39 [.t 33],a_ 4 36 (l_ 35),a_ 8 40 (l_ 39),e_ 5 37 (.bsl 9 1 3 [.str [],.str [],.str []] [(0,1),(1,1),(2,1)] [.c (.str [102,105,114,115,116]),.c (.str [109,97,106,111,114,105,116,121]),.c (.str [97,108,108])]),a_ 4 36 (l_ 35),a_ 8 40 (l_ 39),c_ 6 38 40 [.t 36,.t 37],a_ 8 40 (l_ 39),c_ 9 41 32 [.t 40],e_ 10 42 (.bsl 9 1 4 [.str [],.str [],.str [],.str []] [(0,1),(1,1),(2,1),(3,1)] [.c (.str [99,97,108,108]),.t 34,.t 38,.t 41]),p_ 11 9 (m_ 42)]) (.leaf [p_ 0 32 (f_ 0 8),r_ 1 33 (.ld true 10 (.t 32)),p_ 3 35 (f_ 11 8),r_ 4 36 (l_ 35),p_ 7 39 (f_ 12 8),r_ 8 40 (l_ 39),e_ 5 37 (.bsl 9 1 3 [.str [],.str [],.str []] [(0,1),(1,1),(2,1)] [.c (.str [102,105,114,115,116]),.c (.str [109,97,106,111,114,105,116,121]),.c (.str [97,108,108])]),a_ 1 33 (.ld true 10 (.t 32)),a_ 4 36 (l_ 35),a_ 8 40 (l_ 39),c_ 2 34 39 [.t 33],a_ 4 36 (l_ 35),a_ 8 40 (l_ 39),c_ 6 38 40 [.t 36,.t 37],a_ 8 40 (l_ 39),c_ 9 41 32 [.t 40],e_ 10 42 (.bsl 9 1 4 [.str [],.str [],.str [],.str []] [(0,1),(1,1),(2,1),(3,1)] [.c (.str [99,97,108,108]),.t 34,.t 38,.t 41]),p_ 11 9 (m_ 42)]))) (.seq (g_ 10 [p_ 0 44 (m_ 3),p_ 1 45 (f_ 0 8),r_ 2 46 (.ld true 10 (.t 45)),r_ 3 47 (.lk 4 (.st [(0,2,true,.st [(0,1,false,.int),(1,1,false,.int)]),(2,1,false,.int),(3,1,false,.int),(4,6,true,.ar [0,2,4] 2 true (.st [(0,1,false,.int),(1,1,false,.int)]))]) (.agg [.int 1 (.ofNat 0),.int 2 (.ofNat 0),.int 3 (.ofNat 0),.int 1 (.ofNat 0),.int 1 (.ofNat 0),.int 1 (.ofNat 0),.int 1 (.ofNat 0),.int 1 (.ofNat 0),.int 1 (.ofNat 0),.int 1 (.ofNat 0),.int 1 (.ofNat 0),.int 0 (.ofNat 0),.int 0 (.ofNat 0),.int 0 (.ofNat 0),.int 0 (.ofNat 0),.int 1 (.ofNat 0),.str []]) true (.t 44) (.t 46)),p_ 4 43 (m_ 47),p_ 5 48 (.ext 0 (.t 43)),p_ 6 49 (.ext 1 (.t 43)),e_ 7 10 (.al 103 [.int 1 (.ofNat 0),.int 2 (.ofNat 0),.int 3 (.ofNat 0),.int 1 (.ofNat 0),.int 1 (.ofNat 0),.int 1 (.ofNat 0),.int 1 (.ofNat 0),.int 1 (.ofNat 0),.int 1 (.ofNat 0),.int 1 (.ofNat 0),.int 1 (.ofNat 0),.int 0 (.ofNat 0),.int 0 (.ofNat 0),.int 0 (.ofNat 0),.int 0 (.ofNat 0),.int 1 (.ofNat 0),.str []]),cA 8 (.st 17 (.t 10) (.t 48)),p_ 9 11 (m_ 49)]) (.seq (.block 6 (.seq (g_ 3 [p_ 0 68 (m_ 11),p_ 1 69 (.un 0 (.t 68)),p_ 2 67 (m_ 69)]) (.cond (.t 67) (g_ 4 [p_ 0 70 (m_ 9),e_ 1 71 (.bsl 9 1 1 [.str []] [(0,1)] [.c (.str [111,112,101,110])]),e_ 2 72 (.app 9 1 16 (.t 70) (.t 71)),p_ 3 9 (m_ 72)]) (.seq (h_ 10 [p_ 0 50 (m_ 9),p_ 1 51 (f_ 13 10),r_ 2 52 (l_ 51),p_ 4 54 (f_ 14 10),r_ 5 55 (l_ 54),c_ 3 53 32 [.t 52],a_ 5 55 (l_ 54),c_ 6 56 32 [.t 55],e_ 7 57 (.bsl 9 1 2 [.str [],.str []] [(0,1),(1,1)] [.t 53,.t 56]),e_ 8 58 (.app 9 1 16 (.t 50) (.t 57)),p_ 9 9 (m_ 58)]) (.seq (g_ 3 [p_ 0 59 (f_ 14 10),r_ 1 60 (l_ 59),p_ 2 61 (.bin 3 4 (.t 60) (i_ 0))]) (.cond (.t 61) (g_ 6 [p_ 0 62 (m_ 9),p_ 1 63 (f_ 15 10),r_ 2 64 (.ld true 2 (.t 63)),c_ 3 65 41 [.t 64],e_ 4 66 (.app 9 1 16 (.t 62) (.t 65)),p_ 5 9 (m_ 66)]) .skip)))))) (g_ 2 [p_ 0 73 (m_ 9),c_ 1 74 31 [.t 6,.t 73]])))))) (g_ 2 [p_ 0 75 (.bin 0 0 (.t 28) (i_ 1)),p_ 1 28 (m_ 75)])))) [(0,[.can 13 [3,6,26,27,28]]),(4,[.can 13 [6]])])
def Mx:XF:=.mk 78 (.one 2) (.aft (.seq (g_ 1 [p_ 0 2 (.mv (.c (.str [])))]) (.seq (g_ 2 [e_ 0 12 .mkm,p_ 1 3 (m_ 12)]) (.seq (.seq (g_ 4 [p_ 0 13 (m_ 0),c_ 1 14 37 [.t 13],p_ 2 15 (k_ 14),p_ 3 16 (.mv (i_ 0))]) (.block 2 (.pre [.can 13 [0,3,14,15,16],.kb 13 true true EdR mz bA,.up 15,.up 16,.can 13 [0,3,14,15,16]] (.inv 0 IR)))) (.seq (g_ 1 [e_ 0 6 (.al 131 [.nilP,.nilS])]) (.seq (.seq (g_ 4 [p_ 0 25 (m_ 0),c_ 1 26 38 [.t 25],p_ 2 27 (k_ 26),p_ 3 28 (.mv (i_ 0))]) (.block 4 (.pre [.can 13 [3,6,26,27,28],.up 27,.up 28,.can 13 [3,6,26,27,28]] (.inv 1 Dy)))) (.seq (g_ 3 [p_ 0 76 (f_ 0 6),c_ 1 77 34 [.t 76],p_ 2 2 (m_ 77)]) .ret)))))) [(0,[.up 2]),(1,[.up 2])])
theorem Ox:bT Tryz.prog 11 Mx=true:=by kernel_rfl
structure lr where
 f:bE
 h:Value
 o:List EdR
 m:List EdR
 i:Int
structure NC where
 m:List EdR
def xK (p:lr) (r:NC):Prop:=r.m=p.f.e∧r.m.length≤80
noncomputable def qx (p:lr):IL:=((.cons 16 (.sy (.int 0 p.i)) (.cons 15 (.sy (.int 0 (p.o.length:Int))) (.cons 14 (.sy (.imm p.h 17 EdR p.o bA)) (.cons 3 (.map 13) (.cons 0 (.ptr 0 0) .nil))))),(.node (.node (.node (.node .leaf (some (.kmap false true false eI p.f.ms ed cP)) .leaf) (some (.kmap false true false ID p.f.me bG bw)) (.node .leaf (some (.prow 108 18 ai p.f.o2 am)) .leaf)) (some (.kmap false true false ID p.f.mb bG bw)) (.node (.node .leaf (some (.prow 108 18 ai p.f.o0 am)) .leaf) (some (.kmap false true false eD p.f.mt dZ cO)) (.node .leaf (some (.kmap true true true EdR p.m mz bA)) .leaf))) (some (.blk false 97 14 [[.sy (.kmp 1),.sy (.prow 2 p.f.b.length),.sy (.kmp 3),.sy (.prow 4 p.f.e.length),.sy (.kmp 5),.sy (.prow 6 p.f.t.length),.sy (.kmp 7),.sy (.prow 8 p.f.s.length),.sy (.prow 9 p.f.o0.length),.sy (.prow 10 p.f.o1.length),.sy (.prow 11 p.f.o2.length),.sy (.prow 12 p.f.o3.length),.sy (.int 0 p.f.sp),.bool true]])) (.node (.node (.node .leaf (some (.prow 119 5 cM p.f.s cp)) .leaf) (some (.prow 103 17 EdR p.f.e bA)) (.node .leaf (some (.prow 108 18 ai p.f.o3 am)) .leaf)) (some (.prow 78 14 BgR p.f.b bo)) (.node (.node .leaf (some (.prow 108 18 ai p.f.o1 am)) .leaf) (some (.prow 115 17 cL p.f.t co)) .leaf))),14)
noncomputable def zm (p:lr) (K:KC):Bool:=aA fun r:NC=>iP (xK p r) (K 2 (.cons 3 (.map 13) (.cons 0 (.ptr 0 0) .nil)) (.node (.node (.node (.node .leaf (some (.kmap false true false eI p.f.ms ed cP)) .leaf) (some (.kmap false true false ID p.f.me bG bw)) (.node .leaf (some (.prow 108 18 ai p.f.o2 am)) .leaf)) (some (.kmap false true false ID p.f.mb bG bw)) (.node (.node .leaf (some (.prow 108 18 ai p.f.o0 am)) .leaf) (some (.kmap false true false eD p.f.mt dZ cO)) (.node .leaf (some (.kmap true true true EdR r.m mz bA)) .leaf))) (some (.blk false 97 14 [[.sy (.kmp 1),.sy (.prow 2 p.f.b.length),.sy (.kmp 3),.sy (.prow 4 p.f.e.length),.sy (.kmp 5),.sy (.prow 6 p.f.t.length),.sy (.kmp 7),.sy (.prow 8 p.f.s.length),.sy (.prow 9 p.f.o0.length),.sy (.prow 10 p.f.o1.length),.sy (.prow 11 p.f.o2.length),.sy (.prow 12 p.f.o3.length),.sy (.int 0 p.f.sp),.bool true]])) (.node (.node (.node .leaf (some (.prow 119 5 cM p.f.s cp)) .leaf) (some (.prow 103 17 EdR p.f.e bA)) (.node .leaf (some (.prow 108 18 ai p.f.o3 am)) .leaf)) (some (.prow 78 14 BgR p.f.b bo)) (.node (.node .leaf (some (.prow 108 18 ai p.f.o1 am)) .leaf) (some (.prow 115 17 cL p.f.t co)) .leaf))) 14) true
def oz (p:lr):Prop:=0≤p.i∧p.i≤(p.o.length:Int)∧p.m=p.o.take p.i.toNat∧p.o.length≤80∧p.o=p.f.e∧(p.o.map EdR.id).Nodup
theorem VO {p:lr} {K:KC} (hK:zm p K=true) (r:NC) (h:xK p r):K 2 (.cons 3 (.map 13) (.cons 0 (.ptr 0 0) .nil)) (.node (.node (.node (.node .leaf (some (.kmap false true false eI p.f.ms ed cP)) .leaf) (some (.kmap false true false ID p.f.me bG bw)) (.node .leaf (some (.prow 108 18 ai p.f.o2 am)) .leaf)) (some (.kmap false true false ID p.f.mb bG bw)) (.node (.node .leaf (some (.prow 108 18 ai p.f.o0 am)) .leaf) (some (.kmap false true false eD p.f.mt dZ cO)) (.node .leaf (some (.kmap true true true EdR r.m mz bA)) .leaf))) (some (.blk false 97 14 [[.sy (.kmp 1),.sy (.prow 2 p.f.b.length),.sy (.kmp 3),.sy (.prow 4 p.f.e.length),.sy (.kmp 5),.sy (.prow 6 p.f.t.length),.sy (.kmp 7),.sy (.prow 8 p.f.s.length),.sy (.prow 9 p.f.o0.length),.sy (.prow 10 p.f.o1.length),.sy (.prow 11 p.f.o2.length),.sy (.prow 12 p.f.o3.length),.sy (.int 0 p.f.sp),.bool true]])) (.node (.node (.node .leaf (some (.prow 119 5 cM p.f.s cp)) .leaf) (some (.prow 103 17 EdR p.f.e bA)) (.node .leaf (some (.prow 108 18 ai p.f.o3 am)) .leaf)) (some (.prow 78 14 BgR p.f.b bo)) (.node (.node .leaf (some (.prow 108 18 ai p.f.o1 am)) .leaf) (some (.prow 115 17 cL p.f.t co)) .leaf))) 14=true:=aP h (aF hK r)
noncomputable def CQ (p:lr) (K:KC):Bool:=ac (au (oz p)) (zm p K)
structure je where
 f:bE
 m:List EdR
 hb:Value
 bl:List BgR
 i:Int
structure iM where
 c:List UInt8
def Lu (p:je):Prop:=ei p.m ((p.bl.drop p.i.toNat).map bN)=[]
def Jt (p:je) (r:iM):Prop:=r.c=ei p.m ((p.bl.drop p.i.toNat).map bN)∧r.c≠[]
noncomputable def tW (p:je):IL:=((.cons 28 (.sy (.int 0 p.i)) (.cons 27 (.sy (.int 0 (p.bl.length:Int))) (.cons 26 (.sy (.imm p.hb 14 BgR p.bl bo)) (.cons 6 (.ptr 14 0) (.cons 3 (.map 13) .nil))))),(Con p.f p.m),15)
noncomputable def Jy (p:je) (K:KC):Bool:=ac (iP (Lu p) (K 4 (.cons 6 (.ptr 13 0) .nil) (sR p.f) 14) true) (aA fun r:iM=>iP (Jt p r) (K 4 (.cons 6 (.ptr 13 0) .nil) (fu p.f r.c) 15) true)
def rW (p:je):Prop:=(p.bl.length≤80∧0≤p.i∧p.i≤(p.bl.length:Int))∧(∀x∈p.bl,jS x)∧(∀x∈p.m,lE x)∧(p.m.map EdR.id).Nodup
noncomputable def EH (p:je) (K:KC):Bool:=ac (au (rW p)) (Jy p K)
def eh (p:je):Nat:=((p.bl.length:Int) - p.i).toNat
structure jd where
 f:bE
 m:List EdR
 hb:Value
 bl:List BgR
 b:List UInt8
 i:Int
structure jX where
 c:List UInt8
def EP (p:jd) (r:jX):Prop:=r.c=p.b++ei p.m ((p.bl.drop p.i.toNat).map bN)∧r.c≠[]
noncomputable def rj (p:jd):IL:=((.cons 28 (.sy (.int 0 p.i)) (.cons 27 (.sy (.int 0 (p.bl.length:Int))) (.cons 26 (.sy (.imm p.hb 14 BgR p.bl bo)) (.cons 6 (.ptr 14 0) (.cons 3 (.map 13) .nil))))),(sQ p.f p.m p.b),16)
noncomputable def sn (p:jd) (K:KC):Bool:=aA fun r:jX=>iP (EP p r) (K 4 (.cons 6 (.ptr 13 0) .nil) (fu p.f r.c) 15) true
def eC (p:jd):Prop:=(p.bl.length≤80∧0≤p.i∧p.i≤(p.bl.length:Int))∧(∀x∈p.bl,jS x)∧(∀x∈p.m,lE x)∧(p.m.map EdR.id).Nodup∧(p.b.length:Int)≤3000*p.i∧p.b≠[]
theorem TP {p:jd} {K:KC} (hK:sn p K=true) (r:jX) (h:EP p r):K 4 (.cons 6 (.ptr 13 0) .nil) (fu p.f r.c) 15=true:=aP h (aF hK r)
noncomputable def EG (p:jd) (K:KC):Bool:=ac (au (eC p)) (sn p K)
def dm (p:jd):Nat:=((p.bl.length:Int) - p.i).toNat
noncomputable def Fu (S:SL) (M:T) (nx:Nat) (K:KC):Bool:=(Bool.rec (Bool.rec false (aI fun p:jd=>ac (au ((S,M,nx)=rj p)) (EG p K)) (Nat.beq (Dj M 15) 1)) (aI fun p:je=>ac (au ((S,M,nx)=tW p)) (EH p K)) (Nat.beq (Dj M 15) 0))
inductive A_l_ca where
 |v0 (p:je)
 |v1 (p:jd)
noncomputable def NH (q:A_l_ca):IL:=A_l_ca.casesOn q (fun p=>tW p) (fun p=>rj p)
def cI:A_l_ca→Nat
 |.v0 p=>eh p
 |.v1 p=>dm p
noncomputable def HZ (q:A_l_ca) (K:KC):Bool:=A_l_ca.casesOn q (fun p=>EH p K) (fun p=>EG p K)
noncomputable def Ph (n:Nat) (K:KC):KC:=fun e S M nx=>Nat.casesOn e (aI fun q:A_l_ca=>ac (au ((S,M,nx)=NH q∧cI q<n)) (HZ q K)) (fun e2=>K (Nat.succ e2) S M nx)
noncomputable def eE (s:IL) (n:Nat) (K:KC):Bool:=aI fun q=>mP (s=NH q∧cI q<n) (HZ q K)
theorem mD {n:Nat} {q:jd} {K:KC} {s:IL} (hm:dm q<n) (hp:eC q) (hK:sn q K=true) (e:s=rj q):eE s n K=true:=aG (.v1 q) (bf ⟨e,hm⟩ (bf hp hK))
theorem mG {p q:jd} {K:KC} {s:IL} (hm:dm q<dm p:=by dsimp only[dm]<;>(omega)) (hp:eC q:=by dsimp only[eC]<;>(exact⟨⟨g0,by omega,by omega⟩,g5,g6,gn,by simp[aC,aD]<;>omega,by simp⟩)) (hK:sn q K=true:=by exact(aV hK fun r hz=>⟨kQ g1 (by assumption) hz.1,hz.2⟩)) (e:s=rj q:=by rfl):eE s (cI (.v1 p)) K=true:=aG (.v1 q) (bf ⟨e,hm⟩ (bf hp hK))
noncomputable def oG:ft:=fun j S M nx K=>(Bool.rec ((Bool.rec (false) (Fu S M nx K) (Nat.beq j 1))) (aI fun p:lr=>ac (au ((S,M,nx)=qx p)) (CQ p K)) (Nat.beq j 0))
def nm (p:lr):Nat:=((p.o.length:Int) - p.i).toNat
noncomputable def PH (s:IL) (n:Nat) (K:KC):Bool:=aI fun q=>mP (s=qx q∧nm q<n) (CQ q K)
theorem YI {p q:lr} {K:KC} {s:IL} (hm:nm q<nm p:=by dsimp only[nm]<;>(omega)) (hp:oz q:=by dsimp only[oz]<;>(exact⟨by omega,by omega,by(try dsimp only);rw[show(p.i+1).toNat=p.i.toNat+1 by omega,←tk (by assumption:p.o[p.i.toNat]?=some x1),g2],g3,g4,g5⟩)) (hK:zm q K=true:=by exact hK) (e:s=qx q:=by rfl):PH s (nm p) K=true:=aG q (bf ⟨e,hm⟩ (bf hp hK))
theorem Xm (p:lr) (K:KC) (hpre:oz p) (hK:zm p K=true):(cQ (bH ni) oG 600 IR (qx p).1 (qx p).2.1 (qx p).2.2 (fun e S M nx=>Nat.casesOn e (aI fun q:lr=>ac (au ((S,M,nx)=qx q∧nm q<nm p)) (CQ q K)) (fun e2=>K (Nat.succ e2) S M nx)))=true:=by
 refine Eq.trans (b:=(iP (p.i<(p.o.length:Int)) (mP (0≤p.i∧p.i<(p.o.length:Int)) (aA fun x1:EdR=>iP (p.o[p.i.toNat]?=some x1) (aI fun Q1:EdR→Prop=>ac (aA fun x3:EdR=>iP (x3∈p.m) (jV x1.id x3.id (Q1 x3)) true) (mP (∀y∈p.m,¬Q1 y) (aI fun x2:EdR=>mP (ch true (mz x2)=(.agg (ee x1.id))) (mP (ch true (bA x2)=(.agg (tG x1))) (mP (aL 0 (p.i+(1:Int))) (PH ((.cons 16 (.sy (.int 0 (p.i+(1:Int)))) (.cons 15 (.sy (.int 0 (p.o.length:Int))) (.cons 14 (.sy (.imm p.h 17 EdR p.o bA)) (.cons 3 (.map 13) (.cons 0 (.ptr 0 0) .nil))))),(.node (.node (.node (.node .leaf (some (.kmap false true false eI p.f.ms ed cP)) .leaf) (some (.kmap false true false ID p.f.me bG bw)) (.node .leaf (some (.prow 108 18 ai p.f.o2 am)) .leaf)) (some (.kmap false true false ID p.f.mb bG bw)) (.node (.node .leaf (some (.prow 108 18 ai p.f.o0 am)) .leaf) (some (.kmap false true false eD p.f.mt dZ cO)) (.node .leaf (some (.kmap true true true EdR (p.m++[x2]) mz bA)) .leaf))) (some (.blk false 97 14 [[.sy (.kmp 1),.sy (.prow 2 p.f.b.length),.sy (.kmp 3),.sy (.prow 4 p.f.e.length),.sy (.kmp 5),.sy (.prow 6 p.f.t.length),.sy (.kmp 7),.sy (.prow 8 p.f.s.length),.sy (.prow 9 p.f.o0.length),.sy (.prow 10 p.f.o1.length),.sy (.prow 11 p.f.o2.length),.sy (.prow 12 p.f.o3.length),.sy (.int 0 p.f.sp),.bool true]])) (.node (.node (.node .leaf (some (.prow 119 5 cM p.f.s cp)) .leaf) (some (.prow 103 17 EdR p.f.e bA)) (.node .leaf (some (.prow 108 18 ai p.f.o3 am)) .leaf)) (some (.prow 78 14 BgR p.f.b bo)) (.node (.node .leaf (some (.prow 108 18 ai p.f.o1 am)) .leaf) (some (.prow 115 17 cL p.f.t co)) .leaf))),14) (nm p) K)))))) true)) (K 2 (.cons 3 (.map 13) (.cons 0 (.ptr 0 0) .nil)) (.node (.node (.node (.node .leaf (some (.kmap false true false eI p.f.ms ed cP)) .leaf) (some (.kmap false true false ID p.f.me bG bw)) (.node .leaf (some (.prow 108 18 ai p.f.o2 am)) .leaf)) (some (.kmap false true false ID p.f.mb bG bw)) (.node (.node .leaf (some (.prow 108 18 ai p.f.o0 am)) .leaf) (some (.kmap false true false eD p.f.mt dZ cO)) (.node .leaf (some (.kmap true true true EdR p.m mz bA)) .leaf))) (some (.blk false 97 14 [[.sy (.kmp 1),.sy (.prow 2 p.f.b.length),.sy (.kmp 3),.sy (.prow 4 p.f.e.length),.sy (.kmp 5),.sy (.prow 6 p.f.t.length),.sy (.kmp 7),.sy (.prow 8 p.f.s.length),.sy (.prow 9 p.f.o0.length),.sy (.prow 10 p.f.o1.length),.sy (.prow 11 p.f.o2.length),.sy (.prow 12 p.f.o3.length),.sy (.int 0 p.f.sp),.bool true]])) (.node (.node (.node .leaf (some (.prow 119 5 cM p.f.s cp)) .leaf) (some (.prow 103 17 EdR p.f.e bA)) (.node .leaf (some (.prow 108 18 ai p.f.o3 am)) .leaf)) (some (.prow 78 14 BgR p.f.b bo)) (.node (.node .leaf (some (.prow 108 18 ai p.f.o1 am)) .leaf) (some (.prow 115 17 cL p.f.t co)) .leaf))) 14))) (by kernel_rfl) ?_
 dsimp only[oz]at hpre
 obtain⟨g0,g1,g2,g3,g4,g5⟩:=hpre
 refine iI (fun hc1=> ?_) (fun hc1=> ?_)
 refine dL ?_
 refine aB (fun x1=> ?_)
 refine iI (fun hi2=> ?_) (fun _=>rfl)
 refine aG (dB x1.id) ?_
 refine aM ?_ ?_
 refine aB (fun x3=> ?_)
 refine iI (fun hi3=> ?_) (fun _=>rfl)
 exact gE
 refine mI (by(try dsimp only);exact VA g5 g0 g2 (by assumption:p.o[p.i.toNat]?=some x1)) ?_
 refine aG x1 ?_
 refine az (az (aN ?_))
 exact YI (q:=⟨p.f,p.h,p.o,p.m++[x1],p.i+(1:Int)⟩)
 exact VO hK ⟨p.m⟩ (by dsimp only[xK]<;>(have e:p.m=p.o:=by{rw[g2];exact List.take_of_length_le (by omega)};rw[e];exact⟨g4,g3⟩))
theorem Yb:dI Tryz.prog 78 13 oG true 0 IR:=by
 exact dM (lf:=600) bv (aT ou) (by rfl) qx nm CQ (fun b j x h=>by cases h) (fun S M nx K h=>by obtain⟨p,h⟩:=bL h;exact⟨p,(aa h).1,(aa h).2⟩) (fun p K h=>Xm p K (aa h).1 (aa h).2)
theorem UF (p:je) (K:KC) (hpre:rW p) (hK:Jy p K=true):(cQ (bH ni) oG 600 Dy (tW p).1 (tW p).2.1 (tW p).2.2 (Ph (cI (.v0 p)) K))=true:=by
 refine Eq.trans (b:=(iP (p.i<(p.bl.length:Int)) (mP (0≤p.i∧p.i<(p.bl.length:Int)) (aA fun x1:BgR=>iP (p.bl[p.i.toNat]?=some x1) (ac (mP (ID.ok x1.id) (mP (((.int 0 x1.mode):SY)=(.int 0 x1.mode)) (mP (((.int 0 x1.at_):SY)=(.int 0 x1.at_)) (mP (((.int 0 x1.mode):SY)=(.int 0 x1.mode)) (mP (((.int 0 x1.at_):SY)=(.int 0 x1.at_)) (aI fun p1:jZ=>mP (([.sy (.int 0 x1.mode),.sl 0 0 3 (.ex 3)],(.node .leaf (some (.blk false 9 1 [[.str [102,105,114,115,116]],[.str [109,97,106,111,114,105,116,121]],[.str [97,108,108]]])) .leaf),1)=sK p1) (aA fun r1:ve=>iP (fR p1 r1) (mP (((.int 0 x1.at_):SY)=(.int 0 x1.at_)) (mP (aL 0 x1.at_) (aI fun Q1:EdR→Prop=>ac (aA fun x3:EdR=>iP (x3∈p.m) (jV x1.id x3.id (Q1 x3)) true) (ac (iP (∀y∈p.m,¬Q1 y) (mP ((Lib.join [bm,ah x1.id,r1.s,Lib.itoa x1.at_,eB] t_0).length≤140737488355328) (mP ([bm,ah x1.id,r1.s,Lib.itoa x1.at_,eB].length≤140737488355328) (mP (([]:List UInt8).length+(Lib.join [bm,ah x1.id,r1.s,Lib.itoa x1.at_,eB] t_0).length≤140737488355328) (aI fun b1:List UInt8=>mP ((([]:List UInt8)++(Lib.join [bm,ah x1.id,r1.s,Lib.itoa x1.at_,eB] t_0)).map bi=b1.map bi) (mP ((([]:List UInt8)++(Lib.join [bm,ah x1.id,r1.s,Lib.itoa x1.at_,eB] t_0)).length=b1.length) (mP (aL 1 (10:Int)) (mP (b1.length+1≤140737488355328) (mP (aL 0 (p.i+(1:Int))) (eE ((.cons 28 (.sy (.int 0 (p.i+(1:Int)))) (.cons 27 (.sy (.int 0 (p.bl.length:Int))) (.cons 26 (.sy (.imm p.hb 14 BgR p.bl bo)) (.cons 6 (.ptr 14 0) (.cons 3 (.map 13) .nil))))),(sQ p.f p.m (b1++[ac0 (10:Int).toNat])),16) (cI (.v0 p)) K))))))))) true) (aA fun x2:EdR=>iP (x2∈p.m∧Q1 x2) (mP (aL 0 x2.at_) (mP (((.int 0 x2.code):SY)=(.int 0 x2.code)) (mP (aL 0 x2.code) (iP (x2.code=(0:Int)) (mP (aL 0 x2.rc) (mP (aL 0 x2.rc) (iP (¬x2.rv=qE) (mP (t_7.length+x2.rv.length≤9223372036854775807) (mP ((t_7++x2.rv).length+t_8.length≤9223372036854775807) (mP ((Lib.join [bm,ah x1.id,r1.s,Lib.itoa x1.at_,Lib.itoa x2.at_,Lib.itoa x2.code,Lib.itoa x2.rc,(t_7++x2.rv)++t_8] t_0).length≤140737488355328) (mP ([bm,ah x1.id,r1.s,Lib.itoa x1.at_,Lib.itoa x2.at_,Lib.itoa x2.code,Lib.itoa x2.rc,(t_7++x2.rv)++t_8].length≤140737488355328) (mP (([]:List UInt8).length+(Lib.join [bm,ah x1.id,r1.s,Lib.itoa x1.at_,Lib.itoa x2.at_,Lib.itoa x2.code,Lib.itoa x2.rc,(t_7++x2.rv)++t_8] t_0).length≤140737488355328) (aI fun b2:List UInt8=>mP ((([]:List UInt8)++(Lib.join [bm,ah x1.id,r1.s,Lib.itoa x1.at_,Lib.itoa x2.at_,Lib.itoa x2.code,Lib.itoa x2.rc,(t_7++x2.rv)++t_8] t_0)).map bi=b2.map bi) (mP ((([]:List UInt8)++(Lib.join [bm,ah x1.id,r1.s,Lib.itoa x1.at_,Lib.itoa x2.at_,Lib.itoa x2.code,Lib.itoa x2.rc,(t_7++x2.rv)++t_8] t_0)).length=b2.length) (mP (aL 1 (10:Int)) (mP (b2.length+1≤140737488355328) (mP (aL 0 (p.i+(1:Int))) (eE ((.cons 28 (.sy (.int 0 (p.i+(1:Int)))) (.cons 27 (.sy (.int 0 (p.bl.length:Int))) (.cons 26 (.sy (.imm p.hb 14 BgR p.bl bo)) (.cons 6 (.ptr 14 0) (.cons 3 (.map 13) .nil))))),(sQ p.f p.m (b2++[ac0 (10:Int).toNat])),16) (cI (.v0 p)) K))))))))))) (mP ((Lib.join [bm,ah x1.id,r1.s,Lib.itoa x1.at_,Lib.itoa x2.at_,Lib.itoa x2.code,Lib.itoa x2.rc] t_0).length≤140737488355328) (mP ([bm,ah x1.id,r1.s,Lib.itoa x1.at_,Lib.itoa x2.at_,Lib.itoa x2.code,Lib.itoa x2.rc].length≤140737488355328) (mP (([]:List UInt8).length+(Lib.join [bm,ah x1.id,r1.s,Lib.itoa x1.at_,Lib.itoa x2.at_,Lib.itoa x2.code,Lib.itoa x2.rc] t_0).length≤140737488355328) (aI fun b3:List UInt8=>mP ((([]:List UInt8)++(Lib.join [bm,ah x1.id,r1.s,Lib.itoa x1.at_,Lib.itoa x2.at_,Lib.itoa x2.code,Lib.itoa x2.rc] t_0)).map bi=b3.map bi) (mP ((([]:List UInt8)++(Lib.join [bm,ah x1.id,r1.s,Lib.itoa x1.at_,Lib.itoa x2.at_,Lib.itoa x2.code,Lib.itoa x2.rc] t_0)).length=b3.length) (mP (aL 1 (10:Int)) (mP (b3.length+1≤140737488355328) (mP (aL 0 (p.i+(1:Int))) (eE ((.cons 28 (.sy (.int 0 (p.i+(1:Int)))) (.cons 27 (.sy (.int 0 (p.bl.length:Int))) (.cons 26 (.sy (.imm p.hb 14 BgR p.bl bo)) (.cons 6 (.ptr 14 0) (.cons 3 (.map 13) .nil))))),(sQ p.f p.m (b3++[ac0 (10:Int).toNat])),16) (cI (.v0 p)) K)))))))))))) (mP ((Lib.join [bm,ah x1.id,r1.s,Lib.itoa x1.at_,Lib.itoa x2.at_,Lib.itoa x2.code] t_0).length≤140737488355328) (mP ([bm,ah x1.id,r1.s,Lib.itoa x1.at_,Lib.itoa x2.at_,Lib.itoa x2.code].length≤140737488355328) (mP (([]:List UInt8).length+(Lib.join [bm,ah x1.id,r1.s,Lib.itoa x1.at_,Lib.itoa x2.at_,Lib.itoa x2.code] t_0).length≤140737488355328) (aI fun b4:List UInt8=>mP ((([]:List UInt8)++(Lib.join [bm,ah x1.id,r1.s,Lib.itoa x1.at_,Lib.itoa x2.at_,Lib.itoa x2.code] t_0)).map bi=b4.map bi) (mP ((([]:List UInt8)++(Lib.join [bm,ah x1.id,r1.s,Lib.itoa x1.at_,Lib.itoa x2.at_,Lib.itoa x2.code] t_0)).length=b4.length) (mP (aL 1 (10:Int)) (mP (b4.length+1≤140737488355328) (mP (aL 0 (p.i+(1:Int))) (eE ((.cons 28 (.sy (.int 0 (p.i+(1:Int)))) (.cons 27 (.sy (.int 0 (p.bl.length:Int))) (.cons 26 (.sy (.imm p.hb 14 BgR p.bl bo)) (.cons 6 (.ptr 14 0) (.cons 3 (.map 13) .nil))))),(sQ p.f p.m (b4++[ac0 (10:Int).toNat])),16) (cI (.v0 p)) K))))))))))))) true))))) true))))))) (ac (qL [qI 1 x1.id.client.node,qI 2 x1.id.client.life,qI 3 x1.id.seq,qI 1 x1.id.depth,qI 1 x1.id.p0.group,qI 1 x1.id.p0.index,qI 1 x1.id.p1.group,qI 1 x1.id.p1.index,qI 1 x1.id.p2.group,qI 1 x1.id.p2.index]) (mP (((.int 0 x1.mode):SY)=(.int 0 x1.mode)) (mP (((.int 0 x1.at_):SY)=(.int 0 x1.at_)) (mP (ID.ok x1.id) (mP (((.int 0 x1.mode):SY)=(.int 0 x1.mode)) (mP (((.int 0 x1.at_):SY)=(.int 0 x1.at_)) (aI fun p2:jZ=>mP (([.sy (.int 0 x1.mode),.sl 0 0 3 (.ex 3)],(.node .leaf (some (.blk false 9 1 [[.str [102,105,114,115,116]],[.str [109,97,106,111,114,105,116,121]],[.str [97,108,108]]])) .leaf),1)=sK p2) (aA fun r2:ve=>iP (fR p2 r2) (mP (((.int 0 x1.at_):SY)=(.int 0 x1.at_)) (mP (aL 0 x1.at_) (aI fun Q2:EdR→Prop=>ac (aA fun x5:EdR=>iP (x5∈p.m) (jV x1.id x5.id (Q2 x5)) true) (ac (iP (∀y∈p.m,¬Q2 y) (mP ((Lib.join [bm,ah x1.id,r2.s,Lib.itoa x1.at_,eB] t_0).length≤140737488355328) (mP ([bm,ah x1.id,r2.s,Lib.itoa x1.at_,eB].length≤140737488355328) (mP (([]:List UInt8).length+(Lib.join [bm,ah x1.id,r2.s,Lib.itoa x1.at_,eB] t_0).length≤140737488355328) (aI fun b5:List UInt8=>mP ((([]:List UInt8)++(Lib.join [bm,ah x1.id,r2.s,Lib.itoa x1.at_,eB] t_0)).map bi=b5.map bi) (mP ((([]:List UInt8)++(Lib.join [bm,ah x1.id,r2.s,Lib.itoa x1.at_,eB] t_0)).length=b5.length) (mP (aL 1 (10:Int)) (mP (b5.length+1≤140737488355328) (mP (aL 0 (p.i+(1:Int))) (eE ((.cons 28 (.sy (.int 0 (p.i+(1:Int)))) (.cons 27 (.sy (.int 0 (p.bl.length:Int))) (.cons 26 (.sy (.imm p.hb 14 BgR p.bl bo)) (.cons 6 (.ptr 14 0) (.cons 3 (.map 13) .nil))))),(sQ p.f p.m (b5++[ac0 (10:Int).toNat])),16) (cI (.v0 p)) K))))))))) true) (aA fun x4:EdR=>iP (x4∈p.m∧Q2 x4) (mP (aL 0 x4.at_) (mP (((.int 0 x4.code):SY)=(.int 0 x4.code)) (mP (aL 0 x4.code) (iP (x4.code=(0:Int)) (mP (aL 0 x4.rc) (mP (aL 0 x4.rc) (iP (¬x4.rv=qE) (mP (t_7.length+x4.rv.length≤9223372036854775807) (mP ((t_7++x4.rv).length+t_8.length≤9223372036854775807) (mP ((Lib.join [bm,ah x1.id,r2.s,Lib.itoa x1.at_,Lib.itoa x4.at_,Lib.itoa x4.code,Lib.itoa x4.rc,(t_7++x4.rv)++t_8] t_0).length≤140737488355328) (mP ([bm,ah x1.id,r2.s,Lib.itoa x1.at_,Lib.itoa x4.at_,Lib.itoa x4.code,Lib.itoa x4.rc,(t_7++x4.rv)++t_8].length≤140737488355328) (mP (([]:List UInt8).length+(Lib.join [bm,ah x1.id,r2.s,Lib.itoa x1.at_,Lib.itoa x4.at_,Lib.itoa x4.code,Lib.itoa x4.rc,(t_7++x4.rv)++t_8] t_0).length≤140737488355328) (aI fun b6:List UInt8=>mP ((([]:List UInt8)++(Lib.join [bm,ah x1.id,r2.s,Lib.itoa x1.at_,Lib.itoa x4.at_,Lib.itoa x4.code,Lib.itoa x4.rc,(t_7++x4.rv)++t_8] t_0)).map bi=b6.map bi) (mP ((([]:List UInt8)++(Lib.join [bm,ah x1.id,r2.s,Lib.itoa x1.at_,Lib.itoa x4.at_,Lib.itoa x4.code,Lib.itoa x4.rc,(t_7++x4.rv)++t_8] t_0)).length=b6.length) (mP (aL 1 (10:Int)) (mP (b6.length+1≤140737488355328) (mP (aL 0 (p.i+(1:Int))) (eE ((.cons 28 (.sy (.int 0 (p.i+(1:Int)))) (.cons 27 (.sy (.int 0 (p.bl.length:Int))) (.cons 26 (.sy (.imm p.hb 14 BgR p.bl bo)) (.cons 6 (.ptr 14 0) (.cons 3 (.map 13) .nil))))),(sQ p.f p.m (b6++[ac0 (10:Int).toNat])),16) (cI (.v0 p)) K))))))))))) (mP ((Lib.join [bm,ah x1.id,r2.s,Lib.itoa x1.at_,Lib.itoa x4.at_,Lib.itoa x4.code,Lib.itoa x4.rc] t_0).length≤140737488355328) (mP ([bm,ah x1.id,r2.s,Lib.itoa x1.at_,Lib.itoa x4.at_,Lib.itoa x4.code,Lib.itoa x4.rc].length≤140737488355328) (mP (([]:List UInt8).length+(Lib.join [bm,ah x1.id,r2.s,Lib.itoa x1.at_,Lib.itoa x4.at_,Lib.itoa x4.code,Lib.itoa x4.rc] t_0).length≤140737488355328) (aI fun b7:List UInt8=>mP ((([]:List UInt8)++(Lib.join [bm,ah x1.id,r2.s,Lib.itoa x1.at_,Lib.itoa x4.at_,Lib.itoa x4.code,Lib.itoa x4.rc] t_0)).map bi=b7.map bi) (mP ((([]:List UInt8)++(Lib.join [bm,ah x1.id,r2.s,Lib.itoa x1.at_,Lib.itoa x4.at_,Lib.itoa x4.code,Lib.itoa x4.rc] t_0)).length=b7.length) (mP (aL 1 (10:Int)) (mP (b7.length+1≤140737488355328) (mP (aL 0 (p.i+(1:Int))) (eE ((.cons 28 (.sy (.int 0 (p.i+(1:Int)))) (.cons 27 (.sy (.int 0 (p.bl.length:Int))) (.cons 26 (.sy (.imm p.hb 14 BgR p.bl bo)) (.cons 6 (.ptr 14 0) (.cons 3 (.map 13) .nil))))),(sQ p.f p.m (b7++[ac0 (10:Int).toNat])),16) (cI (.v0 p)) K)))))))))))) (mP ((Lib.join [bm,ah x1.id,r2.s,Lib.itoa x1.at_,Lib.itoa x4.at_,Lib.itoa x4.code] t_0).length≤140737488355328) (mP ([bm,ah x1.id,r2.s,Lib.itoa x1.at_,Lib.itoa x4.at_,Lib.itoa x4.code].length≤140737488355328) (mP (([]:List UInt8).length+(Lib.join [bm,ah x1.id,r2.s,Lib.itoa x1.at_,Lib.itoa x4.at_,Lib.itoa x4.code] t_0).length≤140737488355328) (aI fun b8:List UInt8=>mP ((([]:List UInt8)++(Lib.join [bm,ah x1.id,r2.s,Lib.itoa x1.at_,Lib.itoa x4.at_,Lib.itoa x4.code] t_0)).map bi=b8.map bi) (mP ((([]:List UInt8)++(Lib.join [bm,ah x1.id,r2.s,Lib.itoa x1.at_,Lib.itoa x4.at_,Lib.itoa x4.code] t_0)).length=b8.length) (mP (aL 1 (10:Int)) (mP (b8.length+1≤140737488355328) (mP (aL 0 (p.i+(1:Int))) (eE ((.cons 28 (.sy (.int 0 (p.i+(1:Int)))) (.cons 27 (.sy (.int 0 (p.bl.length:Int))) (.cons 26 (.sy (.imm p.hb 14 BgR p.bl bo)) (.cons 6 (.ptr 14 0) (.cons 3 (.map 13) .nil))))),(sQ p.f p.m (b8++[ac0 (10:Int).toNat])),16) (cI (.v0 p)) K))))))))))))) true))))) true))))))))) true)) (K 4 (.cons 6 (.ptr 13 0) .nil) (sR p.f) 14))) (by kernel_rfl) ?_
 obtain⟨hK0,hKr0⟩:=aw hK
 have hK1:=hKr0
 dsimp only[rW]at hpre
 obtain⟨⟨g0,g1,g2⟩,g5,g6,gn⟩:=hpre
 refine iI (fun hc1=> ?_) (fun hc1=> ?_)
 refine dL ?_
 refine aB (fun x1=> ?_)
 refine iI (fun hi2=> ?_) (fun _=>rfl)
 have hb_x1:=g5 _ (acH (by assumption:p.bl[p.i.toNat]?=some x1))
 obtain⟨⟨hb1,hb2,hb3⟩,hb4⟩:=hb_x1
 unfold oO at hb2 hb3
 have hb5:=ib x1.id hb1
 have hb6:=Lib.itoa_length_le x1.at_ (by omega) (by omega)
 refine aM ?_ ?_
 refine LN (az (az (az (az ?_))))
 refine qh (⟨x1.mode⟩:jZ) rfl fun r1 hi3=> ?_
 dsimp only[fR]at hi3
 refine az (aN ?_)
 refine aG (dB x1.id) ?_
 refine aM ?_ ?_
 refine aB (fun x3=> ?_)
 refine iI (fun hi4=> ?_) (fun _=>rfl)
 exact gE
 refine aM ?_ ?_
 refine iI (p:=∀y∈p.m,¬(dB x1.id) y) (fun hi5=> ?_) (fun _=>rfl)
 refine cz (lh (cz ?_))
 refine aG (([]:List UInt8)++(Lib.join [bm,ah x1.id,r1.s,Lib.itoa x1.at_,eB] t_0)) ?_
 refine az (az (aN (cz (aN ?_))))
 exact mD (n:=cI (.v0 p)) (q:=⟨p.f,p.m,p.hb,p.bl,(([]:List UInt8)++(Lib.join [bm,ah x1.id,r1.s,Lib.itoa x1.at_,eB] t_0))++[ac0 (10:Int).toNat],p.i+(1:Int)⟩) (by show dm _<eh p;dsimp only[dm,eh];omega) (by dsimp only[eC];(exact⟨⟨g0,by omega,by omega⟩,g5,g6,gn,by simp[aC,aD]<;>omega,by simp⟩)) (fD (fun r:jX=>(⟨r.c⟩:iM)) hK1 fun r hz=>⟨kQ (a:=[]) g1 (by assumption) hz.1,hz.2⟩) rfl
 refine aB (fun x2=> ?_)
 refine iI (p:=x2∈p.m∧(dB x1.id) x2) (fun hi6=> ?_) (fun _=>rfl)
 have hk_x2:=(yg (P:=True) trivial (g6 _ (by assumption:x2∈p.m∧_).1)).2
 refine aN (az (aN ?_))
 refine iI (fun hc7=> ?_) (fun hc7=> ?_)
 refine aN (aN ?_)
 refine iI (fun hc8=> ?_) (fun hc8=> ?_)
 refine bq (bq (cz (lh (cz ?_))))
 refine aG (([]:List UInt8)++(Lib.join [bm,ah x1.id,r1.s,Lib.itoa x1.at_,Lib.itoa x2.at_,Lib.itoa x2.code,Lib.itoa x2.rc,(t_7++x2.rv)++t_8] t_0)) ?_
 refine az (az (aN (cz (aN ?_))))
 exact mD (n:=cI (.v0 p)) (q:=⟨p.f,p.m,p.hb,p.bl,(([]:List UInt8)++(Lib.join [bm,ah x1.id,r1.s,Lib.itoa x1.at_,Lib.itoa x2.at_,Lib.itoa x2.code,Lib.itoa x2.rc,(t_7++x2.rv)++t_8] t_0))++[ac0 (10:Int).toNat],p.i+(1:Int)⟩) (by show dm _<eh p;dsimp only[dm,eh];omega) (by dsimp only[eC];(exact⟨⟨g0,by omega,by omega⟩,g5,g6,gn,by simp[aC,aD]<;>omega,by simp⟩)) (fD (fun r:jX=>(⟨r.c⟩:iM)) hK1 fun r hz=>⟨kQ (a:=[]) g1 (by assumption) hz.1,hz.2⟩) rfl
 refine cz (lh (cz ?_))
 refine aG (([]:List UInt8)++(Lib.join [bm,ah x1.id,r1.s,Lib.itoa x1.at_,Lib.itoa x2.at_,Lib.itoa x2.code,Lib.itoa x2.rc] t_0)) ?_
 refine az (az (aN (cz (aN ?_))))
 exact mD (n:=cI (.v0 p)) (q:=⟨p.f,p.m,p.hb,p.bl,(([]:List UInt8)++(Lib.join [bm,ah x1.id,r1.s,Lib.itoa x1.at_,Lib.itoa x2.at_,Lib.itoa x2.code,Lib.itoa x2.rc] t_0))++[ac0 (10:Int).toNat],p.i+(1:Int)⟩) (by show dm _<eh p;dsimp only[dm,eh];omega) (by dsimp only[eC];(exact⟨⟨g0,by omega,by omega⟩,g5,g6,gn,by simp[aC,aD]<;>omega,by simp⟩)) (fD (fun r:jX=>(⟨r.c⟩:iM)) hK1 fun r hz=>⟨kQ (a:=[]) g1 (by assumption) hz.1,hz.2⟩) rfl
 refine cz (lh (cz ?_))
 refine aG (([]:List UInt8)++(Lib.join [bm,ah x1.id,r1.s,Lib.itoa x1.at_,Lib.itoa x2.at_,Lib.itoa x2.code] t_0)) ?_
 refine az (az (aN (cz (aN ?_))))
 exact mD (n:=cI (.v0 p)) (q:=⟨p.f,p.m,p.hb,p.bl,(([]:List UInt8)++(Lib.join [bm,ah x1.id,r1.s,Lib.itoa x1.at_,Lib.itoa x2.at_,Lib.itoa x2.code] t_0))++[ac0 (10:Int).toNat],p.i+(1:Int)⟩) (by show dm _<eh p;dsimp only[dm,eh];omega) (by dsimp only[eC];(exact⟨⟨g0,by omega,by omega⟩,g5,g6,gn,by simp[aC,aD]<;>omega,by simp⟩)) (fD (fun r:jX=>(⟨r.c⟩:iM)) hK1 fun r hz=>⟨kQ (a:=[]) g1 (by assumption) hz.1,hz.2⟩) rfl
 refine aM (by simp[qL,qI,qS,qY,au]) ?_
 refine az (az (LN (az (az ?_))))
 refine qh (⟨x1.mode⟩:jZ) rfl fun r2 hi9=> ?_
 dsimp only[fR]at hi9
 refine az (aN ?_)
 refine aG (dB x1.id) ?_
 refine aM ?_ ?_
 refine aB (fun x5=> ?_)
 refine iI (fun hi10=> ?_) (fun _=>rfl)
 exact gE
 refine aM ?_ ?_
 refine iI (p:=∀y∈p.m,¬(dB x1.id) y) (fun hi11=> ?_) (fun _=>rfl)
 refine cz (lh (cz ?_))
 refine aG (([]:List UInt8)++(Lib.join [bm,ah x1.id,r2.s,Lib.itoa x1.at_,eB] t_0)) ?_
 refine az (az (aN (cz (aN ?_))))
 exact mD (n:=cI (.v0 p)) (q:=⟨p.f,p.m,p.hb,p.bl,(([]:List UInt8)++(Lib.join [bm,ah x1.id,r2.s,Lib.itoa x1.at_,eB] t_0))++[ac0 (10:Int).toNat],p.i+(1:Int)⟩) (by show dm _<eh p;dsimp only[dm,eh];omega) (by dsimp only[eC];(exact⟨⟨g0,by omega,by omega⟩,g5,g6,gn,by simp[aC,aD]<;>omega,by simp⟩)) (fD (fun r:jX=>(⟨r.c⟩:iM)) hK1 fun r hz=>⟨kQ (a:=[]) g1 (by assumption) hz.1,hz.2⟩) rfl
 refine aB (fun x4=> ?_)
 refine iI (p:=x4∈p.m∧(dB x1.id) x4) (fun hi12=> ?_) (fun _=>rfl)
 have hk_x4:=(yg (P:=True) trivial (g6 _ (by assumption:x4∈p.m∧_).1)).2
 refine aN (az (aN ?_))
 refine iI (fun hc13=> ?_) (fun hc13=> ?_)
 refine aN (aN ?_)
 refine iI (fun hc14=> ?_) (fun hc14=> ?_)
 refine bq (bq (cz (lh (cz ?_))))
 refine aG (([]:List UInt8)++(Lib.join [bm,ah x1.id,r2.s,Lib.itoa x1.at_,Lib.itoa x4.at_,Lib.itoa x4.code,Lib.itoa x4.rc,(t_7++x4.rv)++t_8] t_0)) ?_
 refine az (az (aN (cz (aN ?_))))
 exact mD (n:=cI (.v0 p)) (q:=⟨p.f,p.m,p.hb,p.bl,(([]:List UInt8)++(Lib.join [bm,ah x1.id,r2.s,Lib.itoa x1.at_,Lib.itoa x4.at_,Lib.itoa x4.code,Lib.itoa x4.rc,(t_7++x4.rv)++t_8] t_0))++[ac0 (10:Int).toNat],p.i+(1:Int)⟩) (by show dm _<eh p;dsimp only[dm,eh];omega) (by dsimp only[eC];(exact⟨⟨g0,by omega,by omega⟩,g5,g6,gn,by simp[aC,aD]<;>omega,by simp⟩)) (fD (fun r:jX=>(⟨r.c⟩:iM)) hK1 fun r hz=>⟨kQ (a:=[]) g1 (by assumption) hz.1,hz.2⟩) rfl
 refine cz (lh (cz ?_))
 refine aG (([]:List UInt8)++(Lib.join [bm,ah x1.id,r2.s,Lib.itoa x1.at_,Lib.itoa x4.at_,Lib.itoa x4.code,Lib.itoa x4.rc] t_0)) ?_
 refine az (az (aN (cz (aN ?_))))
 exact mD (n:=cI (.v0 p)) (q:=⟨p.f,p.m,p.hb,p.bl,(([]:List UInt8)++(Lib.join [bm,ah x1.id,r2.s,Lib.itoa x1.at_,Lib.itoa x4.at_,Lib.itoa x4.code,Lib.itoa x4.rc] t_0))++[ac0 (10:Int).toNat],p.i+(1:Int)⟩) (by show dm _<eh p;dsimp only[dm,eh];omega) (by dsimp only[eC];(exact⟨⟨g0,by omega,by omega⟩,g5,g6,gn,by simp[aC,aD]<;>omega,by simp⟩)) (fD (fun r:jX=>(⟨r.c⟩:iM)) hK1 fun r hz=>⟨kQ (a:=[]) g1 (by assumption) hz.1,hz.2⟩) rfl
 refine cz (lh (cz ?_))
 refine aG (([]:List UInt8)++(Lib.join [bm,ah x1.id,r2.s,Lib.itoa x1.at_,Lib.itoa x4.at_,Lib.itoa x4.code] t_0)) ?_
 refine az (az (aN (cz (aN ?_))))
 exact mD (n:=cI (.v0 p)) (q:=⟨p.f,p.m,p.hb,p.bl,(([]:List UInt8)++(Lib.join [bm,ah x1.id,r2.s,Lib.itoa x1.at_,Lib.itoa x4.at_,Lib.itoa x4.code] t_0))++[ac0 (10:Int).toNat],p.i+(1:Int)⟩) (by show dm _<eh p;dsimp only[dm,eh];omega) (by dsimp only[eC];(exact⟨⟨g0,by omega,by omega⟩,g5,g6,gn,by simp[aC,aD]<;>omega,by simp⟩)) (fD (fun r:jX=>(⟨r.c⟩:iM)) hK1 fun r hz=>⟨kQ (a:=[]) g1 (by assumption) hz.1,hz.2⟩) rfl
 exact aP (show ei p.m ((p.bl.drop p.i.toNat).map bN)=[] from(by exact Ch (by omega))) hK0
theorem UE (p:jd) (K:KC) (hpre:eC p) (hK:sn p K=true):(cQ (bH ni) oG 600 Dy (rj p).1 (rj p).2.1 (rj p).2.2 (Ph (cI (.v1 p)) K))=true:=by
 refine Eq.trans (b:=(iP (p.i<(p.bl.length:Int)) (mP (0≤p.i∧p.i<(p.bl.length:Int)) (aA fun x1:BgR=>iP (p.bl[p.i.toNat]?=some x1) (ac (mP (ID.ok x1.id) (mP (((.int 0 x1.mode):SY)=(.int 0 x1.mode)) (mP (((.int 0 x1.at_):SY)=(.int 0 x1.at_)) (mP (((.int 0 x1.mode):SY)=(.int 0 x1.mode)) (mP (((.int 0 x1.at_):SY)=(.int 0 x1.at_)) (aI fun p1:jZ=>mP (([.sy (.int 0 x1.mode),.sl 0 0 3 (.ex 3)],(.node .leaf (some (.blk false 9 1 [[.str [102,105,114,115,116]],[.str [109,97,106,111,114,105,116,121]],[.str [97,108,108]]])) .leaf),1)=sK p1) (aA fun r1:ve=>iP (fR p1 r1) (mP (((.int 0 x1.at_):SY)=(.int 0 x1.at_)) (mP (aL 0 x1.at_) (aI fun Q1:EdR→Prop=>ac (aA fun x3:EdR=>iP (x3∈p.m) (jV x1.id x3.id (Q1 x3)) true) (ac (iP (∀y∈p.m,¬Q1 y) (mP ((Lib.join [bm,ah x1.id,r1.s,Lib.itoa x1.at_,eB] t_0).length≤140737488355328) (mP ([bm,ah x1.id,r1.s,Lib.itoa x1.at_,eB].length≤140737488355328) (aI fun b1:List UInt8=>mP (p.b.map bi=b1.map bi) (mP (p.b.length=b1.length) (mP (b1.length+(Lib.join [bm,ah x1.id,r1.s,Lib.itoa x1.at_,eB] t_0).length≤140737488355328) (aI fun b2:List UInt8=>mP ((b1++(Lib.join [bm,ah x1.id,r1.s,Lib.itoa x1.at_,eB] t_0)).map bi=b2.map bi) (mP ((b1++(Lib.join [bm,ah x1.id,r1.s,Lib.itoa x1.at_,eB] t_0)).length=b2.length) (mP (aL 1 (10:Int)) (mP (b2.length+1≤140737488355328) (mP (aL 0 (p.i+(1:Int))) (eE ((.cons 28 (.sy (.int 0 (p.i+(1:Int)))) (.cons 27 (.sy (.int 0 (p.bl.length:Int))) (.cons 26 (.sy (.imm p.hb 14 BgR p.bl bo)) (.cons 6 (.ptr 14 0) (.cons 3 (.map 13) .nil))))),(sQ p.f p.m (b2++[ac0 (10:Int).toNat])),16) (cI (.v1 p)) K))))))))))) true) (aA fun x2:EdR=>iP (x2∈p.m∧Q1 x2) (mP (aL 0 x2.at_) (mP (((.int 0 x2.code):SY)=(.int 0 x2.code)) (mP (aL 0 x2.code) (iP (x2.code=(0:Int)) (mP (aL 0 x2.rc) (mP (aL 0 x2.rc) (iP (¬x2.rv=qE) (mP (t_7.length+x2.rv.length≤9223372036854775807) (mP ((t_7++x2.rv).length+t_8.length≤9223372036854775807) (mP ((Lib.join [bm,ah x1.id,r1.s,Lib.itoa x1.at_,Lib.itoa x2.at_,Lib.itoa x2.code,Lib.itoa x2.rc,(t_7++x2.rv)++t_8] t_0).length≤140737488355328) (mP ([bm,ah x1.id,r1.s,Lib.itoa x1.at_,Lib.itoa x2.at_,Lib.itoa x2.code,Lib.itoa x2.rc,(t_7++x2.rv)++t_8].length≤140737488355328) (aI fun b3:List UInt8=>mP (p.b.map bi=b3.map bi) (mP (p.b.length=b3.length) (mP (b3.length+(Lib.join [bm,ah x1.id,r1.s,Lib.itoa x1.at_,Lib.itoa x2.at_,Lib.itoa x2.code,Lib.itoa x2.rc,(t_7++x2.rv)++t_8] t_0).length≤140737488355328) (aI fun b4:List UInt8=>mP ((b3++(Lib.join [bm,ah x1.id,r1.s,Lib.itoa x1.at_,Lib.itoa x2.at_,Lib.itoa x2.code,Lib.itoa x2.rc,(t_7++x2.rv)++t_8] t_0)).map bi=b4.map bi) (mP ((b3++(Lib.join [bm,ah x1.id,r1.s,Lib.itoa x1.at_,Lib.itoa x2.at_,Lib.itoa x2.code,Lib.itoa x2.rc,(t_7++x2.rv)++t_8] t_0)).length=b4.length) (mP (aL 1 (10:Int)) (mP (b4.length+1≤140737488355328) (mP (aL 0 (p.i+(1:Int))) (eE ((.cons 28 (.sy (.int 0 (p.i+(1:Int)))) (.cons 27 (.sy (.int 0 (p.bl.length:Int))) (.cons 26 (.sy (.imm p.hb 14 BgR p.bl bo)) (.cons 6 (.ptr 14 0) (.cons 3 (.map 13) .nil))))),(sQ p.f p.m (b4++[ac0 (10:Int).toNat])),16) (cI (.v1 p)) K))))))))))))) (mP ((Lib.join [bm,ah x1.id,r1.s,Lib.itoa x1.at_,Lib.itoa x2.at_,Lib.itoa x2.code,Lib.itoa x2.rc] t_0).length≤140737488355328) (mP ([bm,ah x1.id,r1.s,Lib.itoa x1.at_,Lib.itoa x2.at_,Lib.itoa x2.code,Lib.itoa x2.rc].length≤140737488355328) (aI fun b5:List UInt8=>mP (p.b.map bi=b5.map bi) (mP (p.b.length=b5.length) (mP (b5.length+(Lib.join [bm,ah x1.id,r1.s,Lib.itoa x1.at_,Lib.itoa x2.at_,Lib.itoa x2.code,Lib.itoa x2.rc] t_0).length≤140737488355328) (aI fun b6:List UInt8=>mP ((b5++(Lib.join [bm,ah x1.id,r1.s,Lib.itoa x1.at_,Lib.itoa x2.at_,Lib.itoa x2.code,Lib.itoa x2.rc] t_0)).map bi=b6.map bi) (mP ((b5++(Lib.join [bm,ah x1.id,r1.s,Lib.itoa x1.at_,Lib.itoa x2.at_,Lib.itoa x2.code,Lib.itoa x2.rc] t_0)).length=b6.length) (mP (aL 1 (10:Int)) (mP (b6.length+1≤140737488355328) (mP (aL 0 (p.i+(1:Int))) (eE ((.cons 28 (.sy (.int 0 (p.i+(1:Int)))) (.cons 27 (.sy (.int 0 (p.bl.length:Int))) (.cons 26 (.sy (.imm p.hb 14 BgR p.bl bo)) (.cons 6 (.ptr 14 0) (.cons 3 (.map 13) .nil))))),(sQ p.f p.m (b6++[ac0 (10:Int).toNat])),16) (cI (.v1 p)) K)))))))))))))) (mP ((Lib.join [bm,ah x1.id,r1.s,Lib.itoa x1.at_,Lib.itoa x2.at_,Lib.itoa x2.code] t_0).length≤140737488355328) (mP ([bm,ah x1.id,r1.s,Lib.itoa x1.at_,Lib.itoa x2.at_,Lib.itoa x2.code].length≤140737488355328) (aI fun b7:List UInt8=>mP (p.b.map bi=b7.map bi) (mP (p.b.length=b7.length) (mP (b7.length+(Lib.join [bm,ah x1.id,r1.s,Lib.itoa x1.at_,Lib.itoa x2.at_,Lib.itoa x2.code] t_0).length≤140737488355328) (aI fun b8:List UInt8=>mP ((b7++(Lib.join [bm,ah x1.id,r1.s,Lib.itoa x1.at_,Lib.itoa x2.at_,Lib.itoa x2.code] t_0)).map bi=b8.map bi) (mP ((b7++(Lib.join [bm,ah x1.id,r1.s,Lib.itoa x1.at_,Lib.itoa x2.at_,Lib.itoa x2.code] t_0)).length=b8.length) (mP (aL 1 (10:Int)) (mP (b8.length+1≤140737488355328) (mP (aL 0 (p.i+(1:Int))) (eE ((.cons 28 (.sy (.int 0 (p.i+(1:Int)))) (.cons 27 (.sy (.int 0 (p.bl.length:Int))) (.cons 26 (.sy (.imm p.hb 14 BgR p.bl bo)) (.cons 6 (.ptr 14 0) (.cons 3 (.map 13) .nil))))),(sQ p.f p.m (b8++[ac0 (10:Int).toNat])),16) (cI (.v1 p)) K))))))))))))))) true))))) true))))))) (ac (qL [qI 1 x1.id.client.node,qI 2 x1.id.client.life,qI 3 x1.id.seq,qI 1 x1.id.depth,qI 1 x1.id.p0.group,qI 1 x1.id.p0.index,qI 1 x1.id.p1.group,qI 1 x1.id.p1.index,qI 1 x1.id.p2.group,qI 1 x1.id.p2.index]) (mP (((.int 0 x1.mode):SY)=(.int 0 x1.mode)) (mP (((.int 0 x1.at_):SY)=(.int 0 x1.at_)) (mP (ID.ok x1.id) (mP (((.int 0 x1.mode):SY)=(.int 0 x1.mode)) (mP (((.int 0 x1.at_):SY)=(.int 0 x1.at_)) (aI fun p2:jZ=>mP (([.sy (.int 0 x1.mode),.sl 0 0 3 (.ex 3)],(.node .leaf (some (.blk false 9 1 [[.str [102,105,114,115,116]],[.str [109,97,106,111,114,105,116,121]],[.str [97,108,108]]])) .leaf),1)=sK p2) (aA fun r2:ve=>iP (fR p2 r2) (mP (((.int 0 x1.at_):SY)=(.int 0 x1.at_)) (mP (aL 0 x1.at_) (aI fun Q2:EdR→Prop=>ac (aA fun x5:EdR=>iP (x5∈p.m) (jV x1.id x5.id (Q2 x5)) true) (ac (iP (∀y∈p.m,¬Q2 y) (mP ((Lib.join [bm,ah x1.id,r2.s,Lib.itoa x1.at_,eB] t_0).length≤140737488355328) (mP ([bm,ah x1.id,r2.s,Lib.itoa x1.at_,eB].length≤140737488355328) (aI fun b9:List UInt8=>mP (p.b.map bi=b9.map bi) (mP (p.b.length=b9.length) (mP (b9.length+(Lib.join [bm,ah x1.id,r2.s,Lib.itoa x1.at_,eB] t_0).length≤140737488355328) (aI fun b10:List UInt8=>mP ((b9++(Lib.join [bm,ah x1.id,r2.s,Lib.itoa x1.at_,eB] t_0)).map bi=b10.map bi) (mP ((b9++(Lib.join [bm,ah x1.id,r2.s,Lib.itoa x1.at_,eB] t_0)).length=b10.length) (mP (aL 1 (10:Int)) (mP (b10.length+1≤140737488355328) (mP (aL 0 (p.i+(1:Int))) (eE ((.cons 28 (.sy (.int 0 (p.i+(1:Int)))) (.cons 27 (.sy (.int 0 (p.bl.length:Int))) (.cons 26 (.sy (.imm p.hb 14 BgR p.bl bo)) (.cons 6 (.ptr 14 0) (.cons 3 (.map 13) .nil))))),(sQ p.f p.m (b10++[ac0 (10:Int).toNat])),16) (cI (.v1 p)) K))))))))))) true) (aA fun x4:EdR=>iP (x4∈p.m∧Q2 x4) (mP (aL 0 x4.at_) (mP (((.int 0 x4.code):SY)=(.int 0 x4.code)) (mP (aL 0 x4.code) (iP (x4.code=(0:Int)) (mP (aL 0 x4.rc) (mP (aL 0 x4.rc) (iP (¬x4.rv=qE) (mP (t_7.length+x4.rv.length≤9223372036854775807) (mP ((t_7++x4.rv).length+t_8.length≤9223372036854775807) (mP ((Lib.join [bm,ah x1.id,r2.s,Lib.itoa x1.at_,Lib.itoa x4.at_,Lib.itoa x4.code,Lib.itoa x4.rc,(t_7++x4.rv)++t_8] t_0).length≤140737488355328) (mP ([bm,ah x1.id,r2.s,Lib.itoa x1.at_,Lib.itoa x4.at_,Lib.itoa x4.code,Lib.itoa x4.rc,(t_7++x4.rv)++t_8].length≤140737488355328) (aI fun b11:List UInt8=>mP (p.b.map bi=b11.map bi) (mP (p.b.length=b11.length) (mP (b11.length+(Lib.join [bm,ah x1.id,r2.s,Lib.itoa x1.at_,Lib.itoa x4.at_,Lib.itoa x4.code,Lib.itoa x4.rc,(t_7++x4.rv)++t_8] t_0).length≤140737488355328) (aI fun b12:List UInt8=>mP ((b11++(Lib.join [bm,ah x1.id,r2.s,Lib.itoa x1.at_,Lib.itoa x4.at_,Lib.itoa x4.code,Lib.itoa x4.rc,(t_7++x4.rv)++t_8] t_0)).map bi=b12.map bi) (mP ((b11++(Lib.join [bm,ah x1.id,r2.s,Lib.itoa x1.at_,Lib.itoa x4.at_,Lib.itoa x4.code,Lib.itoa x4.rc,(t_7++x4.rv)++t_8] t_0)).length=b12.length) (mP (aL 1 (10:Int)) (mP (b12.length+1≤140737488355328) (mP (aL 0 (p.i+(1:Int))) (eE ((.cons 28 (.sy (.int 0 (p.i+(1:Int)))) (.cons 27 (.sy (.int 0 (p.bl.length:Int))) (.cons 26 (.sy (.imm p.hb 14 BgR p.bl bo)) (.cons 6 (.ptr 14 0) (.cons 3 (.map 13) .nil))))),(sQ p.f p.m (b12++[ac0 (10:Int).toNat])),16) (cI (.v1 p)) K))))))))))))) (mP ((Lib.join [bm,ah x1.id,r2.s,Lib.itoa x1.at_,Lib.itoa x4.at_,Lib.itoa x4.code,Lib.itoa x4.rc] t_0).length≤140737488355328) (mP ([bm,ah x1.id,r2.s,Lib.itoa x1.at_,Lib.itoa x4.at_,Lib.itoa x4.code,Lib.itoa x4.rc].length≤140737488355328) (aI fun b13:List UInt8=>mP (p.b.map bi=b13.map bi) (mP (p.b.length=b13.length) (mP (b13.length+(Lib.join [bm,ah x1.id,r2.s,Lib.itoa x1.at_,Lib.itoa x4.at_,Lib.itoa x4.code,Lib.itoa x4.rc] t_0).length≤140737488355328) (aI fun b14:List UInt8=>mP ((b13++(Lib.join [bm,ah x1.id,r2.s,Lib.itoa x1.at_,Lib.itoa x4.at_,Lib.itoa x4.code,Lib.itoa x4.rc] t_0)).map bi=b14.map bi) (mP ((b13++(Lib.join [bm,ah x1.id,r2.s,Lib.itoa x1.at_,Lib.itoa x4.at_,Lib.itoa x4.code,Lib.itoa x4.rc] t_0)).length=b14.length) (mP (aL 1 (10:Int)) (mP (b14.length+1≤140737488355328) (mP (aL 0 (p.i+(1:Int))) (eE ((.cons 28 (.sy (.int 0 (p.i+(1:Int)))) (.cons 27 (.sy (.int 0 (p.bl.length:Int))) (.cons 26 (.sy (.imm p.hb 14 BgR p.bl bo)) (.cons 6 (.ptr 14 0) (.cons 3 (.map 13) .nil))))),(sQ p.f p.m (b14++[ac0 (10:Int).toNat])),16) (cI (.v1 p)) K)))))))))))))) (mP ((Lib.join [bm,ah x1.id,r2.s,Lib.itoa x1.at_,Lib.itoa x4.at_,Lib.itoa x4.code] t_0).length≤140737488355328) (mP ([bm,ah x1.id,r2.s,Lib.itoa x1.at_,Lib.itoa x4.at_,Lib.itoa x4.code].length≤140737488355328) (aI fun b15:List UInt8=>mP (p.b.map bi=b15.map bi) (mP (p.b.length=b15.length) (mP (b15.length+(Lib.join [bm,ah x1.id,r2.s,Lib.itoa x1.at_,Lib.itoa x4.at_,Lib.itoa x4.code] t_0).length≤140737488355328) (aI fun b16:List UInt8=>mP ((b15++(Lib.join [bm,ah x1.id,r2.s,Lib.itoa x1.at_,Lib.itoa x4.at_,Lib.itoa x4.code] t_0)).map bi=b16.map bi) (mP ((b15++(Lib.join [bm,ah x1.id,r2.s,Lib.itoa x1.at_,Lib.itoa x4.at_,Lib.itoa x4.code] t_0)).length=b16.length) (mP (aL 1 (10:Int)) (mP (b16.length+1≤140737488355328) (mP (aL 0 (p.i+(1:Int))) (eE ((.cons 28 (.sy (.int 0 (p.i+(1:Int)))) (.cons 27 (.sy (.int 0 (p.bl.length:Int))) (.cons 26 (.sy (.imm p.hb 14 BgR p.bl bo)) (.cons 6 (.ptr 14 0) (.cons 3 (.map 13) .nil))))),(sQ p.f p.m (b16++[ac0 (10:Int).toNat])),16) (cI (.v1 p)) K))))))))))))))) true))))) true))))))))) true)) (K 4 (.cons 6 (.ptr 13 0) .nil) (fu p.f p.b) 15))) (by kernel_rfl) ?_
 dsimp only[eC]at hpre
 obtain⟨⟨g0,g1,g2⟩,g5,g6,gn,g7,g8⟩:=hpre
 refine iI (fun hc1=> ?_) (fun hc1=> ?_)
 refine dL ?_
 refine aB (fun x1=> ?_)
 refine iI (fun hi2=> ?_) (fun _=>rfl)
 have hb_x1:=g5 _ (acH (by assumption:p.bl[p.i.toNat]?=some x1))
 obtain⟨⟨hb1,hb2,hb3⟩,hb4⟩:=hb_x1
 unfold oO at hb2 hb3
 have hb5:=ib x1.id hb1
 have hb6:=Lib.itoa_length_le x1.at_ (by omega) (by omega)
 refine aM ?_ ?_
 refine LN (az (az (az (az ?_))))
 refine qh (⟨x1.mode⟩:jZ) rfl fun r1 hi3=> ?_
 dsimp only[fR]at hi3
 refine az (aN ?_)
 refine aG (dB x1.id) ?_
 refine aM ?_ ?_
 refine aB (fun x3=> ?_)
 refine iI (fun hi4=> ?_) (fun _=>rfl)
 exact gE
 refine aM ?_ ?_
 refine iI (p:=∀y∈p.m,¬(dB x1.id) y) (fun hi5=> ?_) (fun _=>rfl)
 refine cz (lh ?_)
 refine aG p.b ?_
 refine az (az (cz ?_))
 refine aG (p.b++(Lib.join [bm,ah x1.id,r1.s,Lib.itoa x1.at_,eB] t_0)) ?_
 refine az (az (aN (cz (aN ?_))))
 exact mG (q:=⟨p.f,p.m,p.hb,p.bl,(p.b++(Lib.join [bm,ah x1.id,r1.s,Lib.itoa x1.at_,eB] t_0))++[ac0 (10:Int).toNat],p.i+(1:Int)⟩)
 refine aB (fun x2=> ?_)
 refine iI (p:=x2∈p.m∧(dB x1.id) x2) (fun hi6=> ?_) (fun _=>rfl)
 have hk_x2:=(yg (P:=True) trivial (g6 _ (by assumption:x2∈p.m∧_).1)).2
 refine aN (az (aN ?_))
 refine iI (fun hc7=> ?_) (fun hc7=> ?_)
 refine aN (aN ?_)
 refine iI (fun hc8=> ?_) (fun hc8=> ?_)
 refine bq (bq (cz (lh ?_)))
 refine aG p.b ?_
 refine az (az (cz ?_))
 refine aG (p.b++(Lib.join [bm,ah x1.id,r1.s,Lib.itoa x1.at_,Lib.itoa x2.at_,Lib.itoa x2.code,Lib.itoa x2.rc,(t_7++x2.rv)++t_8] t_0)) ?_
 refine az (az (aN (cz (aN ?_))))
 exact mG (q:=⟨p.f,p.m,p.hb,p.bl,(p.b++(Lib.join [bm,ah x1.id,r1.s,Lib.itoa x1.at_,Lib.itoa x2.at_,Lib.itoa x2.code,Lib.itoa x2.rc,(t_7++x2.rv)++t_8] t_0))++[ac0 (10:Int).toNat],p.i+(1:Int)⟩)
 refine cz (lh ?_)
 refine aG p.b ?_
 refine az (az (cz ?_))
 refine aG (p.b++(Lib.join [bm,ah x1.id,r1.s,Lib.itoa x1.at_,Lib.itoa x2.at_,Lib.itoa x2.code,Lib.itoa x2.rc] t_0)) ?_
 refine az (az (aN (cz (aN ?_))))
 exact mG (q:=⟨p.f,p.m,p.hb,p.bl,(p.b++(Lib.join [bm,ah x1.id,r1.s,Lib.itoa x1.at_,Lib.itoa x2.at_,Lib.itoa x2.code,Lib.itoa x2.rc] t_0))++[ac0 (10:Int).toNat],p.i+(1:Int)⟩)
 refine cz (lh ?_)
 refine aG p.b ?_
 refine az (az (cz ?_))
 refine aG (p.b++(Lib.join [bm,ah x1.id,r1.s,Lib.itoa x1.at_,Lib.itoa x2.at_,Lib.itoa x2.code] t_0)) ?_
 refine az (az (aN (cz (aN ?_))))
 exact mG (q:=⟨p.f,p.m,p.hb,p.bl,(p.b++(Lib.join [bm,ah x1.id,r1.s,Lib.itoa x1.at_,Lib.itoa x2.at_,Lib.itoa x2.code] t_0))++[ac0 (10:Int).toNat],p.i+(1:Int)⟩)
 refine aM (by simp[qL,qI,qS,qY,au]) ?_
 refine az (az (LN (az (az ?_))))
 refine qh (⟨x1.mode⟩:jZ) rfl fun r2 hi9=> ?_
 dsimp only[fR]at hi9
 refine az (aN ?_)
 refine aG (dB x1.id) ?_
 refine aM ?_ ?_
 refine aB (fun x5=> ?_)
 refine iI (fun hi10=> ?_) (fun _=>rfl)
 exact gE
 refine aM ?_ ?_
 refine iI (p:=∀y∈p.m,¬(dB x1.id) y) (fun hi11=> ?_) (fun _=>rfl)
 refine cz (lh ?_)
 refine aG p.b ?_
 refine az (az (cz ?_))
 refine aG (p.b++(Lib.join [bm,ah x1.id,r2.s,Lib.itoa x1.at_,eB] t_0)) ?_
 refine az (az (aN (cz (aN ?_))))
 exact mG (q:=⟨p.f,p.m,p.hb,p.bl,(p.b++(Lib.join [bm,ah x1.id,r2.s,Lib.itoa x1.at_,eB] t_0))++[ac0 (10:Int).toNat],p.i+(1:Int)⟩)
 refine aB (fun x4=> ?_)
 refine iI (p:=x4∈p.m∧(dB x1.id) x4) (fun hi12=> ?_) (fun _=>rfl)
 have hk_x4:=(yg (P:=True) trivial (g6 _ (by assumption:x4∈p.m∧_).1)).2
 refine aN (az (aN ?_))
 refine iI (fun hc13=> ?_) (fun hc13=> ?_)
 refine aN (aN ?_)
 refine iI (fun hc14=> ?_) (fun hc14=> ?_)
 refine bq (bq (cz (lh ?_)))
 refine aG p.b ?_
 refine az (az (cz ?_))
 refine aG (p.b++(Lib.join [bm,ah x1.id,r2.s,Lib.itoa x1.at_,Lib.itoa x4.at_,Lib.itoa x4.code,Lib.itoa x4.rc,(t_7++x4.rv)++t_8] t_0)) ?_
 refine az (az (aN (cz (aN ?_))))
 exact mG (q:=⟨p.f,p.m,p.hb,p.bl,(p.b++(Lib.join [bm,ah x1.id,r2.s,Lib.itoa x1.at_,Lib.itoa x4.at_,Lib.itoa x4.code,Lib.itoa x4.rc,(t_7++x4.rv)++t_8] t_0))++[ac0 (10:Int).toNat],p.i+(1:Int)⟩)
 refine cz (lh ?_)
 refine aG p.b ?_
 refine az (az (cz ?_))
 refine aG (p.b++(Lib.join [bm,ah x1.id,r2.s,Lib.itoa x1.at_,Lib.itoa x4.at_,Lib.itoa x4.code,Lib.itoa x4.rc] t_0)) ?_
 refine az (az (aN (cz (aN ?_))))
 exact mG (q:=⟨p.f,p.m,p.hb,p.bl,(p.b++(Lib.join [bm,ah x1.id,r2.s,Lib.itoa x1.at_,Lib.itoa x4.at_,Lib.itoa x4.code,Lib.itoa x4.rc] t_0))++[ac0 (10:Int).toNat],p.i+(1:Int)⟩)
 refine cz (lh ?_)
 refine aG p.b ?_
 refine az (az (cz ?_))
 refine aG (p.b++(Lib.join [bm,ah x1.id,r2.s,Lib.itoa x1.at_,Lib.itoa x4.at_,Lib.itoa x4.code] t_0)) ?_
 refine az (az (aN (cz (aN ?_))))
 exact mG (q:=⟨p.f,p.m,p.hb,p.bl,(p.b++(Lib.join [bm,ah x1.id,r2.s,Lib.itoa x1.at_,Lib.itoa x4.at_,Lib.itoa x4.code] t_0))++[ac0 (10:Int).toNat],p.i+(1:Int)⟩)
 exact TP hK ⟨p.b⟩ (by dsimp only[EP]<;>(exact⟨by rw[Ch (by omega)];simp,g8⟩))
theorem Yc:dI Tryz.prog 78 13 oG true 1 Dy:=by
 refine dM (lf:=600) bv (aT ou) (by rfl) NH cI HZ (fun b j x h=>by cases h) (fun S M nx K h=> ?_) (fun p K h=> ?_)
 ·have h:Fu S M nx K=true:=h
  unfold Fu at h
  rcases xx h with⟨_,h⟩|⟨_,h⟩
  ·obtain⟨p,h⟩:=bL h;exact⟨.v0 p,(aa h).1,(aa h).2⟩
  rcases xx h with⟨_,h⟩|⟨_,h⟩
  ·obtain⟨p,h⟩:=bL h;exact⟨.v1 p,(aa h).1,(aa h).2⟩
  cases h
 ·cases p with
  |v0 p=>have h:EH p K=true:=h;exact UF p K (aa h).1 (aa h).2
  |v1 p=>have h:EG p K=true:=h;exact UE p K (aa h).1 (aa h).2
structure ro where
 f:bE
structure Jg where
 s:List UInt8
def qP (p:ro) (r:Jg):Prop:=r.s=ei p.f.e (p.f.b.map bN)
noncomputable def yp (p:ro):IE:=([.ptr 0 0],(bj p.f),13)
noncomputable def Bu (p:ro) (K:KE):Bool:=aA fun r:Jg=>iP (qP p r) (K (.sy (.str r.s)) (bj p.f) 13) true
def rX (p:ro):Prop:=jY p.f∧bC p.f 80
theorem Kh {p:ro} {K:KE} (hK:Bu p K=true) (r:Jg) (h:qP p r):K (.sy (.str r.s)) (bj p.f) 13=true:=aP h (aF hK r)
theorem Us (p:ro) (K:KE) (hpre:rX p) (hK:Bu p K=true):(bZ 13 (bH ni) oG 600 Mx (yp p).1 (yp p).2.1 (yp p).2.2 K)=true:=by
 refine Eq.trans (b:=(aX (([.ptr 0 0],(bj p.f),13)) CL uh qO fun p1 r1=>aI fun l1:List EdR=>mP (([]:List (AV×AV×Nat)).map (fun e=>(e.1,e.2.1))=l1.map (fun x=>(ch true (mz x),ch true (bA x)))) (aX (((.cons 16 (.sy (.int 0 0)) (.cons 15 (.sy (.int 0 (r1.o.length:Int))) (.cons 14 (.sy (.imm r1.h 17 EdR r1.o bA)) (.cons 3 (.map 13) (.cons 0 (.ptr 0 0) .nil))))),(.node (.node (.node (.node .leaf (some (.kmap false true false eI p1.f.ms ed cP)) .leaf) (some (.kmap false true false ID p1.f.me bG bw)) (.node .leaf (some (.prow 108 18 ai p1.f.o2 am)) .leaf)) (some (.kmap false true false ID p1.f.mb bG bw)) (.node (.node .leaf (some (.prow 108 18 ai p1.f.o0 am)) .leaf) (some (.kmap false true false eD p1.f.mt dZ cO)) (.node .leaf (some (.kmap true true true EdR l1 mz bA)) .leaf))) (some (.blk false 97 14 [[.sy (.kmp 1),.sy (.prow 2 p1.f.b.length),.sy (.kmp 3),.sy (.prow 4 p1.f.e.length),.sy (.kmp 5),.sy (.prow 6 p1.f.t.length),.sy (.kmp 7),.sy (.prow 8 p1.f.s.length),.sy (.prow 9 p1.f.o0.length),.sy (.prow 10 p1.f.o1.length),.sy (.prow 11 p1.f.o2.length),.sy (.prow 12 p1.f.o3.length),.sy (.int 0 p1.f.sp),.bool true]])) (.node (.node (.node .leaf (some (.prow 119 5 cM p1.f.s cp)) .leaf) (some (.prow 103 17 EdR p1.f.e bA)) (.node .leaf (some (.prow 108 18 ai p1.f.o3 am)) .leaf)) (some (.prow 78 14 BgR p1.f.b bo)) (.node (.node .leaf (some (.prow 108 18 ai p1.f.o1 am)) .leaf) (some (.prow 115 17 cL p1.f.t co)) .leaf))),14)) qx oz xK fun p2 r2=>aX (([.ptr 0 0],(bj p2.f),13)) vo pN sj fun p3 r3=>aI fun p4:je=>mP (((.cons 28 (.sy (.int 0 0)) (.cons 27 (.sy (.int 0 (r3.o.length:Int))) (.cons 26 (.sy (.imm r3.h 14 BgR r3.o bo)) (.cons 6 (.ptr 14 0) (.cons 3 (.map 13) .nil))))),(Con p3.f r2.m),15)=tW p4) (mP (rW p4) (ac (iP (Lu p4) (K (.sy (.str ([]:List UInt8))) (bj p4.f) 13) true) (aA fun r4:iM=>iP (Jt p4 r4) (aI fun b1:List UInt8=>mP (r4.c.map bi=b1.map bi) (mP (r4.c.length=b1.length) (mP (b1≠[]) (K (.sy (.str b1)) (bj p4.f) 13)))) true)))))) (by kernel_rfl) ?_
 dsimp only[rX]at hpre
 obtain⟨ga,gl⟩:=hpre
 have gl2:=gl
 unfold bC at gl2
 obtain⟨⟨_,gb⟩,⟨_,ge,gn⟩,_⟩:=ga
 refine aJ (⟨p.f⟩:vw) rfl (by(try dsimp only[uh]);omega) fun r1 hi1=> ?_
 dsimp only[qO]at hi1
 refine aG ([]:List EdR) ?_
 refine az ?_
 refine aJ (⟨p.f,r1.h,r1.o,([]:List EdR),(0:Int)⟩:lr) rfl (by(try dsimp only[oz]);have e:=hi1;have e2:=congrArg List.length e;refine⟨by omega,by omega,by simp,by omega,e,?_⟩;(try dsimp only);rw[e];exact gn) fun r2 hi2=> ?_
 dsimp only[xK]at hi2
 refine aJ (⟨p.f⟩:oU) rfl (by(try dsimp only[pN]);exact⟨by assumption,by omega⟩) fun r3 hi3=> ?_
 dsimp only[sj]at hi3
 refine dG (⟨p.f,r2.m,r3.h,r3.o,(0:Int)⟩:je) rfl (by(try dsimp only[rW]);have e2:=(by assumption:_=p.f.e∧_≤80).1;have hl:=congrArg List.length hi3.1;simp only[acE]at hl;exact⟨⟨by omega,by omega,by omega⟩,hi3.2,by(try dsimp only);rw[e2];exact ge,by(try dsimp only);rw[e2];exact gn⟩) ?_
 refine aM ?_ ?_
 refine iI (p:=ei r2.m ((r3.o.drop (0:Int).toNat).map bN)=[]) (fun hi4=> ?_) (fun _=>rfl)
 exact Kh hK ⟨([]:List UInt8)⟩ (by dsimp only[qP]<;>(first|exact ww (by assumption:_=p.f.e∧_≤80).1 (by assumption:_=p.f.b.map bN∧_).1 hi4.1|exact ww (by assumption:_=p.f.e∧_≤80).1 (by assumption:_=p.f.b.map bN∧_).1 hi4.symm))
 refine aB (fun r4=> ?_)
 refine iI (p:=r4.c=ei r2.m ((r3.o.drop (0:Int).toNat).map bN)∧r4.c≠[]) (fun hi5=> ?_) (fun _=>rfl)
 refine aG r4.c ?_
 refine az (az (mI (by(try dsimp only);exact hi5.2) ?_))
 exact Kh hK ⟨r4.c⟩ (by dsimp only[qP]<;>(first|exact ww (by assumption:_=p.f.e∧_≤80).1 (by assumption:_=p.f.b.map bN∧_).1 hi5.1|exact ww (by assumption:_=p.f.e∧_≤80).1 (by assumption:_=p.f.b.map bN∧_).1 hi5.symm))
noncomputable def wa:=bM ni 13 (ce yp (dD rX Bu)) 11 []
theorem uJ:be Tryz.prog wa:=aY (bV (f:=11) (k:=13) (lp:=oG) (lf:=600) bv (aT ou) Ox (by rfl) (fun b j x h=>(cd Yb (fun h=>(cd Yc (fun h=>(by cases h)) h)) h)) fun p K h=>Us p K (aa h).1 (aa h).2) ou
def xp:XC:=(.aft (.seq (.seq (g_ 7 [p_ 0 8 (m_ 4),p_ 1 9 (m_ 0),p_ 2 10 (n_ 9),p_ 3 11 (f_ 0 10),r_ 4 12 (l_ 11),p_ 5 13 (k_ 12),p_ 6 14 (.bin 3 0 (.t 8) (.t 13))]) (.cond (.t 14) .skip (.exit 2))) (.seq (.block 3 (.seq (g_ 9 [p_ 0 17 (m_ 0),p_ 1 18 (n_ 17),p_ 2 19 (f_ 0 18),r_ 3 20 (l_ 19),p_ 4 21 (m_ 4),p_ 5 22 (.ixs 14 (.t 20) (.t 21)),r_ 6 23 (.ld true 14 (.t 22)),e_ 7 5 (.al 48 [.int 1 (.ofNat 0),.int 2 (.ofNat 0),.int 3 (.ofNat 0),.int 1 (.ofNat 0),.int 1 (.ofNat 0),.int 1 (.ofNat 0),.int 1 (.ofNat 0),.int 1 (.ofNat 0),.int 1 (.ofNat 0),.int 1 (.ofNat 0),.int 1 (.ofNat 0),.int 0 (.ofNat 0),.int 0 (.ofNat 0),.nilS]),cA 8 (.st 14 (.t 5) (.t 23))]) (.seq (h_ 17 [p_ 0 24 (m_ 3),p_ 1 25 (.bin 4 0 (.t 24) (.c (.str [99,97,108,108,32]))),p_ 2 26 (f_ 0 5),r_ 3 27 (.ld true 10 (.t 26)),p_ 7 31 (f_ 11 5),r_ 8 32 (l_ 31),p_ 12 36 (f_ 12 5),r_ 13 37 (l_ 36),c_ 4 28 42 [.t 27],a_ 8 32 (l_ 31),a_ 13 37 (l_ 36),p_ 5 29 (.bin 4 0 (.t 25) (.t 28)),p_ 6 30 (.bin 4 0 (.t 29) (.c (.str [32]))),c_ 9 33 43 [.t 32],a_ 13 37 (l_ 36),p_ 10 34 (.bin 4 0 (.t 30) (.t 33)),p_ 11 35 (.bin 4 0 (.t 34) (.c (.str [32]))),c_ 14 38 35 [.t 37],p_ 15 39 (.bin 4 0 (.t 35) (.t 38)),p_ 16 3 (m_ 39)]) (.seq (g_ 10 [p_ 0 41 (m_ 0),p_ 1 42 (f_ 0 5),r_ 2 43 (.ld true 10 (.t 42)),c_ 3 44 44 [.t 41,.t 43],p_ 4 40 (m_ 44),p_ 5 45 (.ext 0 (.t 40)),p_ 6 46 (.ext 1 (.t 40)),e_ 7 6 (.al 52 [.int 1 (.ofNat 0),.int 2 (.ofNat 0),.int 3 (.ofNat 0),.int 1 (.ofNat 0),.int 1 (.ofNat 0),.int 1 (.ofNat 0),.int 1 (.ofNat 0),.int 1 (.ofNat 0),.int 1 (.ofNat 0),.int 1 (.ofNat 0),.int 1 (.ofNat 0),.int 0 (.ofNat 0),.int 0 (.ofNat 0),.int 0 (.ofNat 0),.int 0 (.ofNat 0),.int 1 (.ofNat 0),.str []]),cA 8 (.st 17 (.t 6) (.t 45)),p_ 9 7 (m_ 46)]) (.seq (.seq (g_ 2 [p_ 0 47 (m_ 7),p_ 1 48 (.un 0 (.t 47))]) (.cond (.t 48) (.seq (g_ 3 [p_ 0 49 (m_ 3),p_ 1 50 (.bin 4 0 (.t 49) (.c (.str [32,111,112,101,110,10]))),p_ 2 3 (m_ 50)]) (.exit 3)) .skip)) (.seq (h_ 12 [p_ 0 51 (m_ 3),p_ 1 52 (.bin 4 0 (.t 51) (.c (.str [32]))),p_ 2 53 (f_ 13 6),r_ 3 54 (l_ 53),p_ 7 58 (f_ 14 6),r_ 8 59 (l_ 58),c_ 4 55 35 [.t 54],a_ 8 59 (l_ 58),p_ 5 56 (.bin 4 0 (.t 52) (.t 55)),p_ 6 57 (.bin 4 0 (.t 56) (.c (.str [32]))),c_ 9 60 35 [.t 59],p_ 10 61 (.bin 4 0 (.t 57) (.t 60)),p_ 11 3 (m_ 61)]) (.seq (.seq (g_ 3 [p_ 0 62 (f_ 14 6),r_ 1 63 (l_ 62),p_ 2 64 (.bin 3 4 (.t 63) (i_ 0))]) (.cond (.t 64) (.seq (g_ 9 [p_ 0 65 (m_ 3),p_ 1 66 (.bin 4 0 (.t 65) (.c (.str [32]))),p_ 2 67 (f_ 15 6),p_ 3 68 (f_ 0 67),r_ 4 69 (l_ 68),p_ 5 70 (.cnv 0 (.t 69)),c_ 6 71 35 [.t 70],p_ 7 72 (.bin 4 0 (.t 66) (.t 71)),p_ 8 3 (m_ 72)]) (.seq (g_ 4 [p_ 0 73 (f_ 15 6),p_ 1 74 (f_ 1 73),r_ 2 75 (l_ 74),p_ 3 76 (.bin 5 1 (.t 75) (.c (.str [])))]) (.cond (.t 76) (g_ 8 [p_ 0 77 (m_ 3),p_ 1 78 (.bin 4 0 (.t 77) (.c (.str [32,91]))),p_ 2 79 (f_ 15 6),p_ 3 80 (f_ 1 79),r_ 4 81 (l_ 80),p_ 5 82 (.bin 4 0 (.t 78) (.t 81)),p_ 6 83 (.bin 4 0 (.t 82) (.c (.str [93]))),p_ 7 3 (m_ 83)]) .skip))) .skip)) (g_ 3 [p_ 0 84 (m_ 3),p_ 1 85 (.bin 4 0 (.t 84) (.c (.str [10]))),p_ 2 3 (m_ 85)])))))))) (g_ 3 [p_ 0 15 (m_ 4),p_ 1 16 (.bin 0 0 (.t 15) (i_ 1)),p_ 2 4 (m_ 16)]))) [(0,[.can 1 [0,3,4]]),(2,[.can 1 [3]])])
def JP:XF:=.mk 87 (.one 2) (.aft (.seq (g_ 1 [p_ 0 2 (.mv (.c (.str [])))]) (.seq (g_ 1 [p_ 0 3 (.mv (.c (.str [])))]) (.seq (.seq (g_ 1 [p_ 0 4 (.mv (i_ 0))]) (.block 2 (.pre [.can 1 [0,3,4],.up 3,.up 4,.can 1 [0,3,4]] (.inv 0 xp)))) (.seq (g_ 2 [p_ 0 86 (m_ 3),p_ 1 2 (m_ 86)]) .ret)))) [(0,[.up 2]),(1,[.up 2])])
theorem Mh:bT Tryz.prog 12 JP=true:=by kernel_rfl
structure eL where
 g:bW
 w:List UInt8
 i:Int
structure AB where
 r:List UInt8
def nR (p:eL) (r:AB):Prop:=r.r=p.w++ei p.g.e ((p.g.b.drop p.i.toNat).map bN)
noncomputable def ie (p:eL):IL:=((.cons 4 (.sy (.int 0 p.i)) (.cons 3 (.sy (.str p.w)) (.cons 0 (.ptr 0 0) .nil))),(ba p.g),9)
noncomputable def pS (p:eL) (K:KC):Bool:=aA fun r:AB=>iP (nR p r) (K 2 (.cons 3 (.sy (.str r.r)) .nil) (ba p.g) 9) true
def iA (p:eL):Prop:=(oe p.g∧bD p.g 80∧(p.g.e.map EdR.id).Nodup)∧0≤p.i∧p.i≤(p.g.b.length:Int)∧(p.w.length:Int)≤3000*p.i
theorem MK {p:eL} {K:KC} (hK:pS p K=true) (r:AB) (h:nR p r):K 2 (.cons 3 (.sy (.str r.r)) .nil) (ba p.g) 9=true:=aP h (aF hK r)
noncomputable def rt (p:eL) (K:KC):Bool:=ac (au (iA p)) (pS p K)
noncomputable def wc:ft:=fun j S M nx K=>(Bool.rec (false) (aI fun p:eL=>ac (au ((S,M,nx)=ie p)) (rt p K)) (Nat.beq j 0))
def em (p:eL):Nat:=((p.g.b.length:Int) - p.i).toNat
noncomputable def od (s:IL) (n:Nat) (K:KC):Bool:=aI fun q=>mP (s=ie q∧em q<n) (rt q K)
theorem rO {p q:eL} {K:KC} {s:IL} (hm:em q<em p:=by dsimp only[em]<;>(omega)) (hp:iA q:=by dsimp only[iA]<;>(exact⟨⟨ga,gl,gn⟩,by omega,by omega,(by(try simp only[acC,acE,acD,acF]);omega)⟩)) (hK:pS q K=true:=by exact(aV hK fun r hz=>Wa g1 (by assumption) hz)) (e:s=ie q:=by rfl):od s (em p) K=true:=aG q (bf ⟨e,hm⟩ (bf hp hK))
theorem NP (p:eL) (K:KC) (hpre:iA p) (hK:pS p K=true):(cQ (bH wa) wc 600 xp (ie p).1 (ie p).2.1 (ie p).2.2 (fun e S M nx=>Nat.casesOn e (aI fun q:eL=>ac (au ((S,M,nx)=ie q∧em q<em p)) (rt q K)) (fun e2=>K (Nat.succ e2) S M nx)))=true:=by
 refine Eq.trans (b:=(iP (p.i<(p.g.b.length:Int)) (mP (0≤p.i∧p.i<(p.g.b.length:Int)) (mP (p.i.toNat<p.g.b.length) (aA fun x1:BgR=>iP (p.g.b[p.i.toNat]?=some x1) (mP (p.w.length+t_12.length≤9223372036854775807) (aX (([.agg (ee x1.id)],.leaf,0)) jK dE dw fun p1 r1=>mP (((.int 0 x1.mode):SY)=(.int 0 x1.mode)) (mP (((.int 0 x1.at_):SY)=(.int 0 x1.at_)) (mP ((p.w++t_12).length+r1.s.length≤9223372036854775807) (mP (((p.w++t_12)++r1.s).length+t_0.length≤9223372036854775807) (aI fun p2:rn=>mP (([.sy (.int 0 x1.mode)],.leaf,0)=yn p2) (aA fun r2:DG=>iP (kH p2 r2) (mP (((.int 0 x1.at_):SY)=(.int 0 x1.at_)) (mP ((((p.w++t_12)++r1.s)++t_0).length+r2.s.length≤9223372036854775807) (mP (((((p.w++t_12)++r1.s)++t_0)++r2.s).length+t_0.length≤9223372036854775807) (mP (aL 0 x1.at_) (mP ((((((p.w++t_12)++r1.s)++t_0)++r2.s)++t_0).length+(Lib.itoa x1.at_).length≤9223372036854775807) (aI fun p3:pu=>mP (([.ptr 0 0,.agg (ee x1.id)],(ba p.g),9)=yo p3) (mP (rV p3) (ac (iP (Lt p3) (mP (((((((p.w++t_12)++r1.s)++t_0)++r2.s)++t_0)++(Lib.itoa x1.at_)).length+t_38.length≤9223372036854775807) (mP (aL 0 (p.i+(1:Int))) (od ((.cons 4 (.sy (.int 0 (p.i+(1:Int)))) (.cons 3 (.sy (.str (((((((p.w++t_12)++r1.s)++t_0)++r2.s)++t_0)++(Lib.itoa x1.at_))++t_38))) (.cons 0 (.ptr 0 0) .nil))),(ba p3.g),9) (em p) K))) true) (aA fun r3:Av=>iP (Jq p3 r3) (mP (((((((p.w++t_12)++r1.s)++t_0)++r2.s)++t_0)++(Lib.itoa x1.at_)).length+t_0.length≤9223372036854775807) (mP (aL 0 r3.x.at_) (mP (((.int 0 r3.x.code):SY)=(.int 0 r3.x.code)) (mP ((((((((p.w++t_12)++r1.s)++t_0)++r2.s)++t_0)++(Lib.itoa x1.at_))++t_0).length+(Lib.itoa r3.x.at_).length≤9223372036854775807) (mP (((((((((p.w++t_12)++r1.s)++t_0)++r2.s)++t_0)++(Lib.itoa x1.at_))++t_0)++(Lib.itoa r3.x.at_)).length+t_0.length≤9223372036854775807) (mP (aL 0 r3.x.code) (mP ((((((((((p.w++t_12)++r1.s)++t_0)++r2.s)++t_0)++(Lib.itoa x1.at_))++t_0)++(Lib.itoa r3.x.at_))++t_0).length+(Lib.itoa r3.x.code).length≤9223372036854775807) (iP (r3.x.code=(0:Int)) (mP (((((((((((p.w++t_12)++r1.s)++t_0)++r2.s)++t_0)++(Lib.itoa x1.at_))++t_0)++(Lib.itoa r3.x.at_))++t_0)++(Lib.itoa r3.x.code)).length+t_0.length≤9223372036854775807) (mP (aL 0 r3.x.rc) (mP (aL 0 r3.x.rc) (mP ((((((((((((p.w++t_12)++r1.s)++t_0)++r2.s)++t_0)++(Lib.itoa x1.at_))++t_0)++(Lib.itoa r3.x.at_))++t_0)++(Lib.itoa r3.x.code))++t_0).length+(Lib.itoa r3.x.rc).length≤9223372036854775807) (iP (¬r3.x.rv=qE) (mP (((((((((((((p.w++t_12)++r1.s)++t_0)++r2.s)++t_0)++(Lib.itoa x1.at_))++t_0)++(Lib.itoa r3.x.at_))++t_0)++(Lib.itoa r3.x.code))++t_0)++(Lib.itoa r3.x.rc)).length+t_34.length≤9223372036854775807) (mP ((((((((((((((p.w++t_12)++r1.s)++t_0)++r2.s)++t_0)++(Lib.itoa x1.at_))++t_0)++(Lib.itoa r3.x.at_))++t_0)++(Lib.itoa r3.x.code))++t_0)++(Lib.itoa r3.x.rc))++t_34).length+r3.x.rv.length≤9223372036854775807) (mP (((((((((((((((p.w++t_12)++r1.s)++t_0)++r2.s)++t_0)++(Lib.itoa x1.at_))++t_0)++(Lib.itoa r3.x.at_))++t_0)++(Lib.itoa r3.x.code))++t_0)++(Lib.itoa r3.x.rc))++t_34)++r3.x.rv).length+t_8.length≤9223372036854775807) (mP ((((((((((((((((p.w++t_12)++r1.s)++t_0)++r2.s)++t_0)++(Lib.itoa x1.at_))++t_0)++(Lib.itoa r3.x.at_))++t_0)++(Lib.itoa r3.x.code))++t_0)++(Lib.itoa r3.x.rc))++t_34)++r3.x.rv)++t_8).length+t_9.length≤9223372036854775807) (mP (aL 0 (p.i+(1:Int))) (od ((.cons 4 (.sy (.int 0 (p.i+(1:Int)))) (.cons 3 (.sy (.str ((((((((((((((((p.w++t_12)++r1.s)++t_0)++r2.s)++t_0)++(Lib.itoa x1.at_))++t_0)++(Lib.itoa r3.x.at_))++t_0)++(Lib.itoa r3.x.code))++t_0)++(Lib.itoa r3.x.rc))++t_34)++r3.x.rv)++t_8)++t_9))) (.cons 0 (.ptr 0 0) .nil))),(ba p3.g),9) (em p) K)))))) (mP (((((((((((((p.w++t_12)++r1.s)++t_0)++r2.s)++t_0)++(Lib.itoa x1.at_))++t_0)++(Lib.itoa r3.x.at_))++t_0)++(Lib.itoa r3.x.code))++t_0)++(Lib.itoa r3.x.rc)).length+t_9.length≤9223372036854775807) (mP (aL 0 (p.i+(1:Int))) (od ((.cons 4 (.sy (.int 0 (p.i+(1:Int)))) (.cons 3 (.sy (.str (((((((((((((p.w++t_12)++r1.s)++t_0)++r2.s)++t_0)++(Lib.itoa x1.at_))++t_0)++(Lib.itoa r3.x.at_))++t_0)++(Lib.itoa r3.x.code))++t_0)++(Lib.itoa r3.x.rc))++t_9))) (.cons 0 (.ptr 0 0) .nil))),(ba p3.g),9) (em p) K)))))))) (mP (((((((((((p.w++t_12)++r1.s)++t_0)++r2.s)++t_0)++(Lib.itoa x1.at_))++t_0)++(Lib.itoa r3.x.at_))++t_0)++(Lib.itoa r3.x.code)).length+t_9.length≤9223372036854775807) (mP (aL 0 (p.i+(1:Int))) (od ((.cons 4 (.sy (.int 0 (p.i+(1:Int)))) (.cons 3 (.sy (.str (((((((((((p.w++t_12)++r1.s)++t_0)++r2.s)++t_0)++(Lib.itoa x1.at_))++t_0)++(Lib.itoa r3.x.at_))++t_0)++(Lib.itoa r3.x.code))++t_9))) (.cons 0 (.ptr 0 0) .nil))),(ba p3.g),9) (em p) K))))))))))) true))))))))) true))))))) true))) (K 2 (.cons 3 (.sy (.str p.w)) .nil) (ba p.g) 9))) (by kernel_rfl) ?_
 dsimp only[iA]at hpre
 obtain⟨⟨ga,gl,gn⟩,g1,g2,g3⟩:=hpre
 have gl2:=gl
 unfold bD at gl2
 unfold oe at ga
 refine iI (fun hc1=> ?_) (fun hc1=> ?_)
 refine dL (fX ?_)
 refine aB (fun x1=> ?_)
 refine iI (fun hi2=> ?_) (fun _=>rfl)
 have hb_x1:=ga.1 _ (acH (by assumption:p.g.b[p.i.toNat]?=some x1))
 obtain⟨⟨hb1,hb2,hb3⟩,hb4⟩:=hb_x1
 unfold oO at hb2 hb3
 have hb6:=Lib.itoa_length_le x1.at_ (by omega) (by omega)
 refine bq ?_
 refine aJ (⟨x1.id⟩:gT) rfl (by(try dsimp only[dE]);assumption) fun r1 hi3=> ?_
 dsimp only[dw]at hi3
 refine az (az (bq (bq ?_)))
 refine qh (⟨x1.mode⟩:rn) rfl fun r2 hi4=> ?_
 dsimp only[kH]at hi4
 refine az (bq (bq (aN (bq ?_))))
 refine dG (⟨p.g,x1.id⟩:pu) rfl (by(try dsimp only[rV]);exact⟨gl,ga.2.1⟩) ?_
 refine aM ?_ ?_
 refine iI (p:=∀y∈p.g.e,¬y.id=x1.id) (fun hi5=> ?_) (fun _=>rfl)
 refine bq (aN ?_)
 exact rO (q:=⟨p.g,((((((p.w++t_12)++r1.s)++t_0)++r2.s)++t_0)++(Lib.itoa x1.at_))++t_38,p.i+(1:Int)⟩)
 refine aB (fun r3=> ?_)
 refine iI (p:=(r3.x∈p.g.e∧dB x1.id r3.x)∧(-9223372036854775808≤r3.x.at_∧r3.x.at_≤9223372036854775807)∧(-9223372036854775808≤r3.x.code∧r3.x.code≤9223372036854775807)∧(0≤r3.x.rc∧r3.x.rc≤255)∧r3.x.rv.length≤2000∧(Lib.itoa r3.x.at_).length≤21∧(Lib.itoa r3.x.code).length≤21∧(Lib.itoa r3.x.rc).length≤21) (fun hi6=> ?_) (fun _=>rfl)
 refine bq (aN (az (bq (bq (aN ?_)))))
 refine bq ?_
 refine iI (fun hc7=> ?_) (fun hc7=> ?_)
 refine bq (aN (aN (bq ?_)))
 refine iI (fun hc8=> ?_) (fun hc8=> ?_)
 refine bq (bq (bq (bq ?_)))
 refine aN ?_
 exact rO (q:=⟨p.g,(((((((((((((((p.w++t_12)++r1.s)++t_0)++r2.s)++t_0)++(Lib.itoa x1.at_))++t_0)++(Lib.itoa r3.x.at_))++t_0)++(Lib.itoa r3.x.code))++t_0)++(Lib.itoa r3.x.rc))++t_34)++r3.x.rv)++t_8)++t_9,p.i+(1:Int)⟩)
 refine bq (aN ?_)
 exact rO (q:=⟨p.g,((((((((((((p.w++t_12)++r1.s)++t_0)++r2.s)++t_0)++(Lib.itoa x1.at_))++t_0)++(Lib.itoa r3.x.at_))++t_0)++(Lib.itoa r3.x.code))++t_0)++(Lib.itoa r3.x.rc))++t_9,p.i+(1:Int)⟩)
 refine bq (aN ?_)
 exact rO (q:=⟨p.g,((((((((((p.w++t_12)++r1.s)++t_0)++r2.s)++t_0)++(Lib.itoa x1.at_))++t_0)++(Lib.itoa r3.x.at_))++t_0)++(Lib.itoa r3.x.code))++t_9,p.i+(1:Int)⟩)
 exact MK hK ⟨p.w⟩ (by dsimp only[nR]<;>(rw[Ch (by omega)];simp))
theorem Ob:dI Tryz.prog 87 1 wc true 0 xp:=by
 exact dM (lf:=600) bv (aT uJ) (by rfl) ie em rt (fun b j x h=>by cases h) (fun S M nx K h=>by obtain⟨p,h⟩:=bL h;exact⟨p,(aa h).1,(aa h).2⟩) (fun p K h=>NP p K (aa h).1 (aa h).2)
structure oR where
 g:bW
structure FW where
 s:List UInt8
def sd (p:oR) (r:FW):Prop:=r.s=ei p.g.e (p.g.b.map bN)
noncomputable def vj (p:oR):IE:=([.ptr 0 0],(ba p.g),9)
noncomputable def yO (p:oR) (K:KE):Bool:=aA fun r:FW=>iP (sd p r) (K (.sy (.str r.s)) (ba p.g) 9) true
def pK (p:oR):Prop:=oe p.g∧bD p.g 80∧(p.g.e.map EdR.id).Nodup
theorem Rj {p:oR} {K:KE} (hK:yO p K=true) (r:FW) (h:sd p r):K (.sy (.str r.s)) (ba p.g) 9=true:=aP h (aF hK r)
theorem RX (p:oR) (K:KE) (hpre:pK p) (hK:yO p K=true):(bZ 1 (bH wa) wc 600 JP (vj p).1 (vj p).2.1 (vj p).2.2 K)=true:=by
 refine Eq.trans (b:=(aX (((.cons 4 (.sy (.int 0 0)) (.cons 3 (.sy (.str qE)) (.cons 0 (.ptr 0 0) .nil))),(ba p.g),9)) ie iA nR fun p1 r1=>K (.sy (.str r1.r)) (ba p1.g) 9)) (by kernel_rfl) ?_
 dsimp only[pK]at hpre
 refine aJ (⟨p.g,qE,(0:Int)⟩:eL) rfl (by(try dsimp only[iA]);exact⟨hpre,by omega,by omega,by simp⟩) fun r1 hi1=> ?_
 dsimp only[nR]at hi1
 exact Rj hK ⟨r1.r⟩ (by dsimp only[sd]<;>exact hi1)
noncomputable def zE:=bM wa 1 (ce vj (dD pK yO)) 12 []
theorem AL:be Tryz.prog zE:=aY (bV (f:=12) (k:=1) (lp:=wc) (lf:=600) bv (aT uJ) Mh (by rfl) (fun b j x h=>(cd Ob (fun h=>(by cases h)) h)) fun p K h=>RX p K (aa h).1 (aa h).2) uJ
theorem SQ {f:bE} {g:bW} (hk:bB f=aS g) (h:jY f):(g.e.map EdR.id).Nodup:=by
 have e:f.e=g.e:=congrArg KyR.e hk
 rw[←e];exact h.2.1.2.2
theorem rH {f:bE} {g:bW} {s t:List UInt8} (hk:bB f=aS g) (hs:s=gA (bB f) 0) (ht:t=gA (aS g) 0):s=t:=by rw[hs,ht,hk]
theorem jq {f:bE} {g:bW} {s t:List UInt8} (hk:bB f=aS g) (hs:s=ei f.e (f.b.map bN)) (ht:t=ei g.e (g.b.map bN)):s=t:=by
 have e:f.e=g.e:=congrArg KyR.e hk
 have b:f.b.map bN=g.b.map bN:=congrArg KyR.b hk
 rw[hs,ht,e,b]
theorem ky0:bB ⟨[],[],[],[],[],[],[],[],[],[],[],[],0⟩=aS ⟨[],[],[],[],[],[],[],[],0⟩:=rfl
theorem acy:jY ⟨[],[],[],[],[],[],[],[],[],[],[],[],0⟩:=by
 refine⟨⟨rfl,?_⟩,⟨rfl,?_,List.nodup_nil⟩,?_,?_,?_,?_⟩<;>(intro x hx;cases hx)
theorem acf:oe ⟨[],[],[],[],[],[],[],[],0⟩:=by
 refine⟨?_,?_,?_,?_,?_,?_⟩<;>(intro x hx;cases hx)
theorem acx:bC ⟨[],[],[],[],[],[],[],[],[],[],[],[],0⟩ 0:=by unfold bC;simp
theorem ace:bD ⟨[],[],[],[],[],[],[],[],0⟩ 0:=by unfold bD;simp
theorem Uf {f:bE} {i k:Int} (h:bC f i) (hk:i≤k):bC f k:=by unfold bC at h ⊢;omega
theorem SG {f:bW} {i k:Int} (h:bD f i) (hk:i≤k):bD f k:=by unfold bD at h ⊢;omega
def FK:XC:=(.aft (.seq (.seq (g_ 4 [p_ 0 17 (m_ 5),p_ 1 18 (m_ 0),p_ 2 19 (k_ 18),p_ 3 20 (.bin 3 0 (.t 17) (.t 19))]) (.cond (.t 20) .skip (.exit 2))) (.seq (.block 3 (.seq (g_ 6 [p_ 0 23 (m_ 3),p_ 1 24 (m_ 0),p_ 2 25 (m_ 5),p_ 3 26 (.ixs 74 (.t 24) (.t 25)),r_ 4 27 (.ld true 74 (.t 26)),c_ 5 28 7 [.t 23,.t 27]]) (g_ 6 [p_ 0 29 (m_ 4),p_ 1 30 (m_ 0),p_ 2 31 (m_ 5),p_ 3 32 (.ixs 74 (.t 30) (.t 31)),r_ 4 33 (.ld true 74 (.t 32)),c_ 5 34 8 [.t 29,.t 33]]))) (g_ 3 [p_ 0 21 (m_ 5),p_ 1 22 (.bin 0 0 (.t 21) (i_ 1)),p_ 2 5 (m_ 22)]))) [(0,[.can 0 [0,3,4,5]]),(2,[.can 0 [3,4]])])
def Tu:XF:=.mk 47 (.one 2) (.aft (.seq (g_ 1 [p_ 0 2 (.mv (.c (.bool false)))]) (.seq (.seq (g_ 7 [p_ 0 6 (m_ 0),c_ 1 7 4 [.t 6],p_ 2 8 (.un 0 (.t 7)),p_ 3 9 (m_ 8),qf 4 10 9 false 5 [],aK 5 11 9 false (.un 0 (.t 10)),p_ 6 12 (.pick (.t 9) (.c (.bool true)) (.t 11))]) (.cond (.t 12) (.seq (g_ 2 [c_ 0 13 5 [],p_ 1 2 (m_ 13)]) .ret) .skip)) (.seq (g_ 2 [c_ 0 14 6 [],p_ 1 3 (m_ 14)]) (.seq (g_ 3 [p_ 0 15 (.bld [.nilS,.nilS,.nilS,.nilS,.nilS,.nilS,.nilS,.nilS,.int 0 (.ofNat 0)] [] []),e_ 1 16 (.box 35 (.t 15)),p_ 2 4 (m_ 16)]) (.seq (.seq (g_ 1 [p_ 0 5 (.mv (i_ 0))]) (.pre [.can 0 [0,3,4,5],.kjoin 0 0 0 true false ID bG bw,.kjoin 0 0 2 true false ID bG bw,.kjoin 0 0 4 true false eD dZ cO,.kjoin 0 0 6 true false eI ed cP,.cell 0 0 1 78 14 BgR bo,.cell 0 0 3 103 17 EdR bA,.cell 0 0 5 115 17 cL co,.cell 0 0 7 119 5 cM cp,.cell 0 0 8 108 18 ai am,.cell 0 0 9 108 18 ai am,.cell 0 0 10 108 18 ai am,.cell 0 0 11 108 18 ai am,.upc 0 0 12,.cell 1 0 0 48 14 BgR bo,.cell 1 0 1 52 17 EdR bA,.cell 1 0 2 57 17 cL co,.cell 1 0 3 59 5 cM cp,.cell 1 0 4 62 18 ai am,.cell 1 0 5 62 18 ai am,.cell 1 0 6 62 18 ai am,.cell 1 0 7 62 18 ai am,.upc 1 0 8] (.block 2 (.pre [.can 0 [0,3,4,5],.up 5,.can 0 [0,3,4,5]] (.inv 0 FK))))) (.seq (g_ 13 [p_ 0 35 (m_ 3),c_ 1 36 9 [.t 35],p_ 2 37 (m_ 4),c_ 3 38 10 [.t 37],p_ 4 39 (.bin 5 0 (.t 36) (.t 38)),p_ 5 40 (m_ 39),aK 6 41 40 true (m_ 3),qf 7 42 40 true 11 [.t 41],aK 8 43 40 true (m_ 4),qf 9 44 40 true 12 [.t 43],aK 10 45 40 true (.bin 5 0 (.t 42) (.t 44)),p_ 11 46 (.pick (.t 40) (.t 45) (.c (.bool false))),p_ 12 2 (m_ 46)]) .ret)))))) [(0,[.up 2]),(1,[.up 2])])
theorem Tt:bT Tryz.prog 3 Tu=true:=by kernel_rfl
structure ja where
 f:bE
 g:bW
 h:Value
 l:List ez
 i:Int
structure Jb where
 f:bE
 g:bW
def um (p:ja) (r:Jb):Prop:=jY r.f∧oe r.g∧bB r.f=aS r.g∧bC r.f 80∧bD r.g 80
noncomputable def nA (p:ja):IL:=((.cons 5 (.sy (.int 0 p.i)) (.cons 4 (.ptr 1 0) (.cons 3 (.ptr 0 0) (.cons 0 (.sy (.imm p.h 74 ez p.l gM)) .nil)))),(.node (.node (.node (.node (.node .leaf (some (.prow 52 17 EdR p.g.e bA)) .leaf) (some (.prow 115 17 cL p.f.t co)) .leaf) (some (.prow 78 14 BgR p.f.b bo)) (.node (.node .leaf (some (.prow 62 18 ai p.g.o1 am)) .leaf) (some (.prow 108 18 ai p.f.o1 am)) .leaf)) (some (.blk false 35 9 [[.sy (.prow 14 p.g.b.length),.sy (.prow 15 p.g.e.length),.sy (.prow 16 p.g.t.length),.sy (.prow 17 p.g.s.length),.sy (.prow 18 p.g.o0.length),.sy (.prow 19 p.g.o1.length),.sy (.prow 20 p.g.o2.length),.sy (.prow 21 p.g.o3.length),.sy (.int 0 p.g.sp)]])) (.node (.node (.node .leaf (some (.prow 59 5 cM p.g.s cp)) .leaf) (some (.prow 119 5 cM p.f.s cp)) .leaf) (some (.prow 103 17 EdR p.f.e bA)) (.node (.node .leaf (some (.prow 62 18 ai p.g.o3 am)) .leaf) (some (.prow 108 18 ai p.f.o3 am)) .leaf))) (some (.blk false 97 14 [[.sy (.kmp 2),.sy (.prow 3 p.f.b.length),.sy (.kmp 4),.sy (.prow 5 p.f.e.length),.sy (.kmp 6),.sy (.prow 7 p.f.t.length),.sy (.kmp 8),.sy (.prow 9 p.f.s.length),.sy (.prow 10 p.f.o0.length),.sy (.prow 11 p.f.o1.length),.sy (.prow 12 p.f.o2.length),.sy (.prow 13 p.f.o3.length),.sy (.int 0 p.f.sp),.bool true]])) (.node (.node (.node (.node .leaf (some (.prow 57 17 cL p.g.t co)) .leaf) (some (.kmap false true false eI p.f.ms ed cP)) .leaf) (some (.kmap false true false ID p.f.me bG bw)) (.node (.node .leaf (some (.prow 62 18 ai p.g.o2 am)) .leaf) (some (.prow 108 18 ai p.f.o2 am)) .leaf)) (some (.kmap false true false ID p.f.mb bG bw)) (.node (.node (.node .leaf (some (.prow 62 18 ai p.g.o0 am)) .leaf) (some (.prow 108 18 ai p.f.o0 am)) .leaf) (some (.kmap false true false eD p.f.mt dZ cO)) (.node .leaf (some (.prow 48 14 BgR p.g.b bo)) .leaf)))),22)
noncomputable def vL (p:ja) (K:KC):Bool:=aA fun r:Jb=>iP (um p r) (K 2 (.cons 4 (.ptr 1 0) (.cons 3 (.ptr 0 0) .nil)) (.node (.node (.node (.node (.node .leaf (some (.prow 52 17 EdR r.g.e bA)) .leaf) (some (.prow 115 17 cL r.f.t co)) .leaf) (some (.prow 78 14 BgR r.f.b bo)) (.node (.node .leaf (some (.prow 62 18 ai r.g.o1 am)) .leaf) (some (.prow 108 18 ai r.f.o1 am)) .leaf)) (some (.blk false 35 9 [[.sy (.prow 14 r.g.b.length),.sy (.prow 15 r.g.e.length),.sy (.prow 16 r.g.t.length),.sy (.prow 17 r.g.s.length),.sy (.prow 18 r.g.o0.length),.sy (.prow 19 r.g.o1.length),.sy (.prow 20 r.g.o2.length),.sy (.prow 21 r.g.o3.length),.sy (.int 0 r.g.sp)]])) (.node (.node (.node .leaf (some (.prow 59 5 cM r.g.s cp)) .leaf) (some (.prow 119 5 cM r.f.s cp)) .leaf) (some (.prow 103 17 EdR r.f.e bA)) (.node (.node .leaf (some (.prow 62 18 ai r.g.o3 am)) .leaf) (some (.prow 108 18 ai r.f.o3 am)) .leaf))) (some (.blk false 97 14 [[.sy (.kmp 2),.sy (.prow 3 r.f.b.length),.sy (.kmp 4),.sy (.prow 5 r.f.e.length),.sy (.kmp 6),.sy (.prow 7 r.f.t.length),.sy (.kmp 8),.sy (.prow 9 r.f.s.length),.sy (.prow 10 r.f.o0.length),.sy (.prow 11 r.f.o1.length),.sy (.prow 12 r.f.o2.length),.sy (.prow 13 r.f.o3.length),.sy (.int 0 r.f.sp),.bool true]])) (.node (.node (.node (.node .leaf (some (.prow 57 17 cL r.g.t co)) .leaf) (some (.kmap false true false eI r.f.ms ed cP)) .leaf) (some (.kmap false true false ID r.f.me bG bw)) (.node (.node .leaf (some (.prow 62 18 ai r.g.o2 am)) .leaf) (some (.prow 108 18 ai r.f.o2 am)) .leaf)) (some (.kmap false true false ID r.f.mb bG bw)) (.node (.node (.node .leaf (some (.prow 62 18 ai r.g.o0 am)) .leaf) (some (.prow 108 18 ai r.f.o0 am)) .leaf) (some (.kmap false true false eD r.f.mt dZ cO)) (.node .leaf (some (.prow 48 14 BgR r.g.b bo)) .leaf)))) 22) true
def lT (p:ja):Prop:=(jY p.f∧oe p.g∧bB p.f=aS p.g)∧(bC p.f p.i∧bD p.g p.i)∧(0≤p.i∧p.i≤(p.l.length:Int)∧p.l.length≤80)∧(∀x∈p.l,BP x)∧∀x∈p.l,yH x
theorem TM {p:ja} {K:KC} (hK:vL p K=true) (r:Jb) (h:um p r):K 2 (.cons 4 (.ptr 1 0) (.cons 3 (.ptr 0 0) .nil)) (.node (.node (.node (.node (.node .leaf (some (.prow 52 17 EdR r.g.e bA)) .leaf) (some (.prow 115 17 cL r.f.t co)) .leaf) (some (.prow 78 14 BgR r.f.b bo)) (.node (.node .leaf (some (.prow 62 18 ai r.g.o1 am)) .leaf) (some (.prow 108 18 ai r.f.o1 am)) .leaf)) (some (.blk false 35 9 [[.sy (.prow 14 r.g.b.length),.sy (.prow 15 r.g.e.length),.sy (.prow 16 r.g.t.length),.sy (.prow 17 r.g.s.length),.sy (.prow 18 r.g.o0.length),.sy (.prow 19 r.g.o1.length),.sy (.prow 20 r.g.o2.length),.sy (.prow 21 r.g.o3.length),.sy (.int 0 r.g.sp)]])) (.node (.node (.node .leaf (some (.prow 59 5 cM r.g.s cp)) .leaf) (some (.prow 119 5 cM r.f.s cp)) .leaf) (some (.prow 103 17 EdR r.f.e bA)) (.node (.node .leaf (some (.prow 62 18 ai r.g.o3 am)) .leaf) (some (.prow 108 18 ai r.f.o3 am)) .leaf))) (some (.blk false 97 14 [[.sy (.kmp 2),.sy (.prow 3 r.f.b.length),.sy (.kmp 4),.sy (.prow 5 r.f.e.length),.sy (.kmp 6),.sy (.prow 7 r.f.t.length),.sy (.kmp 8),.sy (.prow 9 r.f.s.length),.sy (.prow 10 r.f.o0.length),.sy (.prow 11 r.f.o1.length),.sy (.prow 12 r.f.o2.length),.sy (.prow 13 r.f.o3.length),.sy (.int 0 r.f.sp),.bool true]])) (.node (.node (.node (.node .leaf (some (.prow 57 17 cL r.g.t co)) .leaf) (some (.kmap false true false eI r.f.ms ed cP)) .leaf) (some (.kmap false true false ID r.f.me bG bw)) (.node (.node .leaf (some (.prow 62 18 ai r.g.o2 am)) .leaf) (some (.prow 108 18 ai r.f.o2 am)) .leaf)) (some (.kmap false true false ID r.f.mb bG bw)) (.node (.node (.node .leaf (some (.prow 62 18 ai r.g.o0 am)) .leaf) (some (.prow 108 18 ai r.f.o0 am)) .leaf) (some (.kmap false true false eD r.f.mt dZ cO)) (.node .leaf (some (.prow 48 14 BgR r.g.b bo)) .leaf)))) 22=true:=aP h (aF hK r)
noncomputable def yx (p:ja) (K:KC):Bool:=ac (au (lT p)) (vL p K)
noncomputable def GN:ft:=fun j S M nx K=>(Bool.rec (false) (aI fun p:ja=>ac (au ((S,M,nx)=nA p)) (yx p K)) (Nat.beq j 0))
def kJ (p:ja):Nat:=((p.l.length:Int) - p.i).toNat
noncomputable def Nm (s:IL) (n:Nat) (K:KC):Bool:=aI fun q=>mP (s=nA q∧kJ q<n) (yx q K)
theorem Wd {p q:ja} {K:KC} {s:IL} (hm:kJ q<kJ p:=by dsimp only[kJ]<;>(omega)) (hp:lT q:=by dsimp only[lT]<;>(have hA:=(by assumption:jY _∧_=nI _ (bB p.f)∧_);have hG:=(by assumption:oe _∧_=nI _ (aS p.g)∧_);have e2:=ac1 ((by assumption:p.l[p.i.toNat]?=some x1).symm.trans (by assumption:p.l[p.i.toNat]?=some x2));subst e2;exact⟨⟨hA.1,hG.1,hA.2.1.trans ((congrArg (nI _) hk).trans hG.2.1.symm)⟩,⟨hA.2.2 _ gl,hG.2.2 _ ql⟩,⟨by omega,by omega,g3⟩,g4,g5⟩)) (hK:vL q K=true:=by exact hK) (e:s=nA q:=by rfl):Nm s (kJ p) K=true:=aG q (bf ⟨e,hm⟩ (bf hp hK))
theorem Uv (p:ja) (K:KC) (hpre:lT p) (hK:vL p K=true):(cQ (bH zE) GN 600 FK (nA p).1 (nA p).2.1 (nA p).2.2 (fun e S M nx=>Nat.casesOn e (aI fun q:ja=>ac (au ((S,M,nx)=nA q∧kJ q<kJ p)) (yx q K)) (fun e2=>K (Nat.succ e2) S M nx)))=true:=by
 refine Eq.trans (b:=(iP (p.i<(p.l.length:Int)) (mP (0≤p.i∧p.i<(p.l.length:Int)) (aA fun x1:ez=>iP (p.l[p.i.toNat]?=some x1) (aX (([.ptr 0 0,.agg (KV x1)],(bj p.f),13)) HN xI ji fun p1 r1=>mP (0≤p.i∧p.i<(p.l.length:Int)) (aA fun x2:ez=>iP (p.l[p.i.toNat]?=some x2) (aX (([.ptr 0 0,.agg (KV x2)],(ba p.g),9)) CJ uf gK fun p2 r2=>mP (aL 0 (p.i+(1:Int))) (Nm ((.cons 5 (.sy (.int 0 (p.i+(1:Int)))) (.cons 4 (.ptr 1 0) (.cons 3 (.ptr 0 0) (.cons 0 (.sy (.imm p.h 74 ez p.l gM)) .nil)))),(.node (.node (.node (.node (.node .leaf (some (.prow 52 17 EdR r2.g.e bA)) .leaf) (some (.prow 115 17 cL r1.f.t co)) .leaf) (some (.prow 78 14 BgR r1.f.b bo)) (.node (.node .leaf (some (.prow 62 18 ai r2.g.o1 am)) .leaf) (some (.prow 108 18 ai r1.f.o1 am)) .leaf)) (some (.blk false 35 9 [[.sy (.prow 14 r2.g.b.length),.sy (.prow 15 r2.g.e.length),.sy (.prow 16 r2.g.t.length),.sy (.prow 17 r2.g.s.length),.sy (.prow 18 r2.g.o0.length),.sy (.prow 19 r2.g.o1.length),.sy (.prow 20 r2.g.o2.length),.sy (.prow 21 r2.g.o3.length),.sy (.int 0 r2.g.sp)]])) (.node (.node (.node .leaf (some (.prow 59 5 cM r2.g.s cp)) .leaf) (some (.prow 119 5 cM r1.f.s cp)) .leaf) (some (.prow 103 17 EdR r1.f.e bA)) (.node (.node .leaf (some (.prow 62 18 ai r2.g.o3 am)) .leaf) (some (.prow 108 18 ai r1.f.o3 am)) .leaf))) (some (.blk false 97 14 [[.sy (.kmp 2),.sy (.prow 3 r1.f.b.length),.sy (.kmp 4),.sy (.prow 5 r1.f.e.length),.sy (.kmp 6),.sy (.prow 7 r1.f.t.length),.sy (.kmp 8),.sy (.prow 9 r1.f.s.length),.sy (.prow 10 r1.f.o0.length),.sy (.prow 11 r1.f.o1.length),.sy (.prow 12 r1.f.o2.length),.sy (.prow 13 r1.f.o3.length),.sy (.int 0 r1.f.sp),.bool true]])) (.node (.node (.node (.node .leaf (some (.prow 57 17 cL r2.g.t co)) .leaf) (some (.kmap false true false eI r1.f.ms ed cP)) .leaf) (some (.kmap false true false ID r1.f.me bG bw)) (.node (.node .leaf (some (.prow 62 18 ai r2.g.o2 am)) .leaf) (some (.prow 108 18 ai r1.f.o2 am)) .leaf)) (some (.kmap false true false ID r1.f.mb bG bw)) (.node (.node (.node .leaf (some (.prow 62 18 ai r2.g.o0 am)) .leaf) (some (.prow 108 18 ai r1.f.o0 am)) .leaf) (some (.kmap false true false eD r1.f.mt dZ cO)) (.node .leaf (some (.prow 48 14 BgR r2.g.b bo)) .leaf)))),22) (kJ p) K)) true)) true)) (K 2 (.cons 4 (.ptr 1 0) (.cons 3 (.ptr 0 0) .nil)) (.node (.node (.node (.node (.node .leaf (some (.prow 52 17 EdR p.g.e bA)) .leaf) (some (.prow 115 17 cL p.f.t co)) .leaf) (some (.prow 78 14 BgR p.f.b bo)) (.node (.node .leaf (some (.prow 62 18 ai p.g.o1 am)) .leaf) (some (.prow 108 18 ai p.f.o1 am)) .leaf)) (some (.blk false 35 9 [[.sy (.prow 14 p.g.b.length),.sy (.prow 15 p.g.e.length),.sy (.prow 16 p.g.t.length),.sy (.prow 17 p.g.s.length),.sy (.prow 18 p.g.o0.length),.sy (.prow 19 p.g.o1.length),.sy (.prow 20 p.g.o2.length),.sy (.prow 21 p.g.o3.length),.sy (.int 0 p.g.sp)]])) (.node (.node (.node .leaf (some (.prow 59 5 cM p.g.s cp)) .leaf) (some (.prow 119 5 cM p.f.s cp)) .leaf) (some (.prow 103 17 EdR p.f.e bA)) (.node (.node .leaf (some (.prow 62 18 ai p.g.o3 am)) .leaf) (some (.prow 108 18 ai p.f.o3 am)) .leaf))) (some (.blk false 97 14 [[.sy (.kmp 2),.sy (.prow 3 p.f.b.length),.sy (.kmp 4),.sy (.prow 5 p.f.e.length),.sy (.kmp 6),.sy (.prow 7 p.f.t.length),.sy (.kmp 8),.sy (.prow 9 p.f.s.length),.sy (.prow 10 p.f.o0.length),.sy (.prow 11 p.f.o1.length),.sy (.prow 12 p.f.o2.length),.sy (.prow 13 p.f.o3.length),.sy (.int 0 p.f.sp),.bool true]])) (.node (.node (.node (.node .leaf (some (.prow 57 17 cL p.g.t co)) .leaf) (some (.kmap false true false eI p.f.ms ed cP)) .leaf) (some (.kmap false true false ID p.f.me bG bw)) (.node (.node .leaf (some (.prow 62 18 ai p.g.o2 am)) .leaf) (some (.prow 108 18 ai p.f.o2 am)) .leaf)) (some (.kmap false true false ID p.f.mb bG bw)) (.node (.node (.node .leaf (some (.prow 62 18 ai p.g.o0 am)) .leaf) (some (.prow 108 18 ai p.f.o0 am)) .leaf) (some (.kmap false true false eD p.f.mt dZ cO)) (.node .leaf (some (.prow 48 14 BgR p.g.b bo)) .leaf)))) 22))) (by kernel_rfl) ?_
 dsimp only[lT]at hpre
 obtain⟨⟨i0,j0,hk⟩,⟨gl,ql⟩,⟨g1,g2,g3⟩,g4,g5⟩:=hpre
 refine iI (fun hc1=> ?_) (fun hc1=> ?_)
 refine dL ?_
 refine aB (fun x1=> ?_)
 refine iI (fun hi2=> ?_) (fun _=>rfl)
 refine aJ (⟨p.f,x1⟩:AJ) rfl (by(try dsimp only[xI]);have hx:=acH (by assumption:p.l[p.i.toNat]?=some x1);exact⟨i0,Uf gl (by omega),g5 _ hx,g4 _ hx⟩) fun r1 hi3=> ?_
 dsimp only[ji]at hi3
 refine dL ?_
 refine aB (fun x2=> ?_)
 refine iI (fun hi4=> ?_) (fun _=>rfl)
 refine aJ (⟨p.g,x2⟩:vu) rfl (by(try dsimp only[uf]);have hx:=acH (by assumption:p.l[p.i.toNat]?=some x2);exact⟨j0,SG ql (by omega),g5 _ hx,g4 _ hx⟩) fun r2 hi5=> ?_
 dsimp only[gK]at hi5
 refine aN ?_
 exact Wd (q:=⟨r1.f,r2.g,p.h,p.l,p.i+(1:Int)⟩)
 exact TM hK ⟨p.f,p.g⟩ (by dsimp only[um]<;>exact⟨i0,j0,hk,Uf gl (by omega),SG ql (by omega)⟩)
theorem Vq:dI Tryz.prog 47 0 GN true 0 FK:=by
 exact dM (lf:=600) bv (aT AL) (by rfl) nA kJ yx (fun b j x h=>by cases h) (fun S M nx K h=>by obtain⟨p,h⟩:=bL h;exact⟨p,(aa h).1,(aa h).2⟩) (fun p K h=>Uv p K (aa h).1 (aa h).2)
structure DI where
 h:Value
 l:List ez
structure RM where
 q:Prop
def xJ (p:DI) (r:RM):Prop:=r.q
noncomputable def La (p:DI):IE:=([.sy (.imm p.h 74 ez p.l gM)],.leaf,0)
noncomputable def Ig (p:DI) (K:KE):Bool:=aA fun r:RM=>iP (xJ p r) (K (.sy (.bool r.q)) .leaf 0) true
def If (p:DI):Prop:=∀x∈p.l,yH x
theorem Dm {p:DI} {K:KE} (hK:Ig p K=true) (r:RM) (h:xJ p r):K (.sy (.bool r.q)) .leaf 0=true:=aP h (aF hK r)
theorem YP (p:DI) (K:KE) (hpre:If p) (hK:Ig p K=true):(bZ 0 (bH zE) GN 600 Tu (La p).1 (La p).2.1 (La p).2.2 K)=true:=by
 refine Eq.trans (b:=(aX (([.sy (.imm p.h 74 ez p.l gM)],.leaf,0)) CK ug tN fun p1 r1=>iP (¬r1.q) (aI fun p2:px=>mP (([],.leaf,0)=rk p2) (aA fun r2:tS=>iP (jE p2 r2) (K (.sy (.bool r2.q)) .leaf 0) true)) (aI fun p3:px=>mP (([],.leaf,0)=rk p3) (aA fun r3:tS=>iP (jE p3 r3) (iP (¬r3.q) (aI fun p4:px=>mP (([],.leaf,0)=rk p4) (aA fun r4:tS=>iP (jE p4 r4) (K (.sy (.bool r4.q)) .leaf 0) true)) (mP ((.nilM:AV)=(.nilM:AV)) (mP ((.nilM:AV)=(.nilM:AV)) (mP ((.nilM:AV)=(.nilM:AV)) (mP ((.nilM:AV)=(.nilM:AV)) (mP ((.nilS:AV)=(.nilS:AV)) (mP ((.nilS:AV)=(.nilS:AV)) (mP ((.nilS:AV)=(.nilS:AV)) (mP ((.nilS:AV)=(.nilS:AV)) (mP ((.nilS:AV)=(.nilS:AV)) (mP ((.nilS:AV)=(.nilS:AV)) (mP ((.nilS:AV)=(.nilS:AV)) (mP ((.nilS:AV)=(.nilS:AV)) (mP ((.nilS:AV)=(.nilS:AV)) (mP ((.nilS:AV)=(.nilS:AV)) (mP ((.nilS:AV)=(.nilS:AV)) (mP ((.nilS:AV)=(.nilS:AV)) (mP ((.nilS:AV)=(.nilS:AV)) (mP ((.nilS:AV)=(.nilS:AV)) (mP ((.nilS:AV)=(.nilS:AV)) (mP ((.nilS:AV)=(.nilS:AV)) (aX (((.cons 5 (.sy (.int 0 0)) (.cons 4 (.ptr 1 0) (.cons 3 (.ptr 0 0) (.cons 0 (.sy (.imm p.h 74 ez p.l gM)) .nil)))),(.node (.node (.node (.node (.node .leaf (some (.prow 52 17 EdR ([]:List EdR) bA)) .leaf) (some (.prow 115 17 cL ([]:List cL) co)) .leaf) (some (.prow 78 14 BgR ([]:List BgR) bo)) (.node (.node .leaf (some (.prow 62 18 ai ([]:List ai) am)) .leaf) (some (.prow 108 18 ai ([]:List ai) am)) .leaf)) (some (.blk false 35 9 [[.sy (.prow 14 0),.sy (.prow 15 0),.sy (.prow 16 0),.sy (.prow 17 0),.sy (.prow 18 0),.sy (.prow 19 0),.sy (.prow 20 0),.sy (.prow 21 0),.sy (.int 0 0)]])) (.node (.node (.node .leaf (some (.prow 59 5 cM ([]:List cM) cp)) .leaf) (some (.prow 119 5 cM ([]:List cM) cp)) .leaf) (some (.prow 103 17 EdR ([]:List EdR) bA)) (.node (.node .leaf (some (.prow 62 18 ai ([]:List ai) am)) .leaf) (some (.prow 108 18 ai ([]:List ai) am)) .leaf))) (some (.blk false 97 14 [[.sy (.kmp 2),.sy (.prow 3 0),.sy (.kmp 4),.sy (.prow 5 0),.sy (.kmp 6),.sy (.prow 7 0),.sy (.kmp 8),.sy (.prow 9 0),.sy (.prow 10 0),.sy (.prow 11 0),.sy (.prow 12 0),.sy (.prow 13 0),.sy (.int 0 0),.bool true]])) (.node (.node (.node (.node .leaf (some (.prow 57 17 cL ([]:List cL) co)) .leaf) (some (.kmap false true false eI ([]:List eI) ed cP)) .leaf) (some (.kmap false true false ID ([]:List ID) bG bw)) (.node (.node .leaf (some (.prow 62 18 ai ([]:List ai) am)) .leaf) (some (.prow 108 18 ai ([]:List ai) am)) .leaf)) (some (.kmap false true false ID ([]:List ID) bG bw)) (.node (.node (.node .leaf (some (.prow 62 18 ai ([]:List ai) am)) .leaf) (some (.prow 108 18 ai ([]:List ai) am)) .leaf) (some (.kmap false true false eD ([]:List eD) dZ cO)) (.node .leaf (some (.prow 48 14 BgR ([]:List BgR) bo)) .leaf)))),22)) nA lT um fun p5 r5=>aX (([.ptr 0 0],(bj r5.f),13)) vm pM pa fun p6 r6=>aX (([.ptr 0 0],(ba r5.g),9)) sJ nK pO fun p7 r7=>iP (r6.s=r7.s) (aX (([.ptr 0 0],(bj p6.f),13)) yp rX qP fun p8 r8=>aX (([.ptr 0 0],(ba p7.g),9)) vj pK sd fun p9 r9=>K (.sy (.bool (r8.s=r9.s))) .leaf 0) (K (.sy (.bool (false=true))) .leaf 0))))))))))))))))))))))) true)))) (by kernel_rfl) ?_
 dsimp only[If]at hpre
 refine aJ (⟨p.h,p.l⟩:vv) rfl (by(try dsimp only[ug]);assumption) fun r1 hi1=> ?_
 dsimp only[tN]at hi1
 refine iI (fun hc2=> ?_) (fun hc2=> ?_)
 refine qh ⟨⟩ rfl fun r2 hi3=> ?_
 dsimp only[jE]at hi3
 exact Dm hK ⟨r2.q⟩ (by dsimp only[xJ]<;>(first|exact hi3|exact rfl|(have hk:=(by assumption:jY _∧oe _∧bB _=aS _∧_).2.2.1;first|exact jq hk (by assumption) (by assumption)|exact absurd (rH hk (by assumption) (by assumption)) (by assumption)|exact absurd (jq hk (by assumption) (by assumption)) (by assumption))))
 refine qh ⟨⟩ rfl fun r3 hi4=> ?_
 dsimp only[jE]at hi4
 refine iI (fun hc5=> ?_) (fun hc5=> ?_)
 refine qh ⟨⟩ rfl fun r4 hi6=> ?_
 dsimp only[jE]at hi6
 exact Dm hK ⟨r4.q⟩ (by dsimp only[xJ]<;>(first|exact hi6|exact rfl|(have hk:=(by assumption:jY _∧oe _∧bB _=aS _∧_).2.2.1;first|exact jq hk (by assumption) (by assumption)|exact absurd (rH hk (by assumption) (by assumption)) (by assumption)|exact absurd (jq hk (by assumption) (by assumption)) (by assumption))))
 refine az (az (az (az (az (az (az (az (az (az (az (az (az (az (az (az (az (az (az (az ?_)))))))))))))))))))
 refine aJ (⟨⟨([]:List ID),([]:List BgR),([]:List ID),([]:List EdR),([]:List eD),([]:List cL),([]:List eI),([]:List cM),([]:List ai),([]:List ai),([]:List ai),([]:List ai),(0:Int)⟩,⟨([]:List BgR),([]:List EdR),([]:List cL),([]:List cM),([]:List ai),([]:List ai),([]:List ai),([]:List ai),(0:Int)⟩,p.h,p.l,(0:Int)⟩:ja) rfl (by(try dsimp only[lT]);exact⟨⟨acy,acf,ky0⟩,⟨acx,ace⟩,⟨by omega,by omega,((by assumption:_→p.l.length≤80∧_) (by first|assumption|exact Classical.not_not.1 (by assumption))).1⟩,((by assumption:_→p.l.length≤80∧_) (by first|assumption|exact Classical.not_not.1 (by assumption))).2,hpre⟩) fun r5 hi7=> ?_
 dsimp only[um]at hi7
 refine aJ (⟨r5.f⟩:oT) rfl (by(try dsimp only[pM]);have hz:=(by assumption:jY _∧oe _∧bB _=aS _∧_);exact⟨hz.1,hz.2.2.2.1⟩) fun r6 hi8=> ?_
 dsimp only[pa]at hi8
 refine aJ (⟨r5.g⟩:mM) rfl (by(try dsimp only[nK]);have hz:=(by assumption:jY _∧oe _∧bB _=aS _∧_);exact⟨hz.2.1,hz.2.2.2.2⟩) fun r7 hi9=> ?_
 dsimp only[pO]at hi9
 refine iI (fun hc10=> ?_) (fun hc10=> ?_)
 refine aJ (⟨r5.f⟩:ro) rfl (by(try dsimp only[rX]);have hz:=(by assumption:jY _∧oe _∧bB _=aS _∧_);exact⟨hz.1,hz.2.2.2.1⟩) fun r8 hi11=> ?_
 dsimp only[qP]at hi11
 refine aJ (⟨r5.g⟩:oR) rfl (by(try dsimp only[pK]);have hz:=(by assumption:jY _∧oe _∧bB _=aS _∧_);exact⟨hz.2.1,hz.2.2.2.2,SQ hz.2.2.1 hz.1⟩) fun r9 hi12=> ?_
 dsimp only[sd]at hi12
 exact Dm hK ⟨r8.s=r9.s⟩ (by dsimp only[xJ]<;>(first|exact hi12|exact rfl|(have hk:=(by assumption:jY _∧oe _∧bB _=aS _∧_).2.2.1;first|exact jq hk (by assumption) (by assumption)|exact absurd (rH hk (by assumption) (by assumption)) (by assumption)|exact absurd (jq hk (by assumption) (by assumption)) (by assumption))))
 exact Dm hK ⟨false=true⟩ (by dsimp only[xJ]<;>(first|exact hi9|exact rfl|(have hk:=(by assumption:jY _∧oe _∧bB _=aS _∧_).2.2.1;first|exact jq hk (by assumption) (by assumption)|exact absurd (rH hk (by assumption) (by assumption)) (by assumption)|exact absurd (jq hk (by assumption) (by assumption)) (by assumption))))
end Go.Proofs.Tryz
namespace Go.Proofs.YtdangmomddpegaaGreatDoor.ledgerAnnals
open Go Go.RowKit Go.Eng Go.Sy Go.ChangeShapes Go.WideShapes Go.ChangeAt
open Go.Proofs.Tryz (aW bg BgR EdR cL cM ai ez bb bJ gM qG yH oO)
set_option linter.unusedVariables false
set_option maxRecDepth 100000
theorem aaI (b:Bool):au (b=true)=b:=by cases b<;>simp[au]
theorem pz {z:Int} (h:(Lit.int .i64 z).wf=true): -9223372036854775808≤z∧z≤9223372036854775807:=by
 simp[Lit.wf,IntKind.min,IntKind.max,IntKind.signed,IntKind.bits]at h
 omega
theorem ci {z:Int} (h:(Lit.int .u8 z).wf=true):0≤z∧z≤255:=by
 simp[Lit.wf,IntKind.min,IntKind.max,IntKind.signed,IntKind.bits]at h
 omega
theorem rR {z:Int} (h:(Lit.int .u16 z).wf=true):0≤z∧z≤65535:=by
 simp[Lit.wf,IntKind.min,IntKind.max,IntKind.signed,IntKind.bits]at h
 omega
theorem tY {z:Int} (h:(Lit.int .u32 z).wf=true):0≤z∧z≤4294967295:=by
 simp[Lit.wf,IntKind.min,IntKind.max,IntKind.signed,IntKind.bits]at h
 omega
theorem yw {H:Type} {en:TypeId×Value→H} {P:Program} {w:World} {base:Nat} {spare:Nat→Bool} {held:Bool} {t:TypeId} {fuel:Nat} {l:List UInt8} {x:DataW H×List MemPlace} (ht:P.underlying t=some .string) (h:DataW.trod en P w base spare held fuel t [S l]=some x):l.length∈x.1.weights P t:=by
 cases fuel with
 |zero=>simp[DataW.trod]at h
 |succ n=>
  unfold DataW.trod at h
  rw[ht]at h
  simp only at h
  split at h
  ·simp only[Option.some.injEq]at h
   subst h
   simp[DataW.weights]
  ·cases h
def abZ (_:bg):Prop:=True
def ab0 (_:Proc):Prop:=True
theorem TY:Tryz.prog.bytesOf 150=48:=by kernel_rfl
theorem Vz:gQ Tryz.prog 20 150=some [5,5,9,9,2]:=by kernel_rfl
theorem SM {H:Type} {en:TypeId×Value→H} {W:World} {fuel:Nat} {cs:List Value} {x:DataW H×List MemPlace} (h:DataW.trod en Tryz.prog W 0 (fun _=>true) true fuel 46 cs=some x):
  ∃(ao:Option Addr) (cap:Nat) (t:List aW),cs=[.slice ao t.length cap]∧OkP (GS.of W).M (.imm (.slice ao t.length cap) 5 aW t Go.Proofs.Tryz.encP)∧∀x∈t,qG x:=by
 rcases Go.Deep.open_slice Tryz.underlying46 h with⟨rfl,_⟩|⟨a,len,cap,m,n,D,Pl,rfl,_,hl,hm,rfl,hxe,hel⟩
 ·exact⟨none,0,[],rfl,.imm none 0 rfl (by simp) (by decide) (by decide) (fun q=>by simp at q) (fun x hx=>by simp at hx) (fun x hx=>by simp at hx) (fun i x hx=>by simp at hx),fun x hx=>by simp at hx⟩
 ·obtain⟨t,ht,hp⟩:=ya (p:=fun i (x:aW)=>W.cells? 0 (a.add (i*5)) 5=some ((Go.Proofs.Tryz.encP x).map bR)∧(∀q∈Go.Proofs.Tryz.encP x,OkP (GS.of W).M q)∧qG x) len (fun i hi=>by
   obtain⟨cs2,h1,h2⟩:=hel i (by first|omega|(simp;omega))
   obtain⟨hlen,hleaf⟩:=qa 20 150 _ Vz _ _ _ h2
   obtain⟨c0,c1,c2,c3,c4,rfl⟩:∃c0 c1 c2 c3 c4,cs2=c0::c1::c2::c3::c4::[]:=by
    match cs2,hlen with
    |c0::c1::c2::c3::c4::[],_=>exact⟨c0,c1,c2,c3,c4,rfl⟩
   obtain⟨z0,rfl,w0⟩:=aQ Tryz.underlying5 (hleaf 0 _ _ rfl rfl)
   have b0:=ci w0
   obtain⟨z1,rfl,w1⟩:=aQ Tryz.underlying5 (hleaf 1 _ _ rfl rfl)
   have b1:=ci w1
   obtain⟨z2,rfl,w2⟩:=oH Tryz.underlying9 (hleaf 2 _ _ rfl rfl)
   obtain⟨z3,rfl,w3⟩:=oH Tryz.underlying9 (hleaf 3 _ _ rfl rfl)
   obtain⟨z4,rfl,w4⟩:=aQ Tryz.underlying2 (hleaf 4 _ _ rfl rfl)
   have b4:=pz w4
   refine⟨⟨z0,z1,z2,z3,z4⟩,?_,?_,⟨b0,b1,b4⟩⟩
   ·exact h1
   ·intro q hq;simp only[Go.Proofs.Tryz.encP,List.mem_cons,List.not_mem_nil,or_false]at hq
    rcases hq with rfl|rfl|rfl|rfl|rfl<;>first|exact .sint _ _|exact .sstr _|exact .sbool _)
  subst ht
  have r:=Gv (base:=0) (en:=fun x=>(Go.Proofs.Tryz.encP x).map bR) (w:=W) hl hm (by decide) (fun _=>rfl) (fun i x hx=>(hp i x hx).1)
  exact⟨some a,_,t,rfl,.imm (some a) _ rfl r.le r.cap (by decide) r.addr (fun x _=>rfl) (fun x hx=>by
   obtain⟨i,hi⟩:=List.mem_iff_getElem?.1 hx
   exact(hp i x hi).2.1) r.row,fun x hx=>by
   obtain⟨i,hi⟩:=List.mem_iff_getElem?.1 hx
   exact(hp i x hi).2.2⟩
theorem Vy:gQ Tryz.prog 20 152=some [9,9,4]:=by kernel_rfl
theorem aaL {H:Type} {en:TypeId×Value→H} {W:World} {fuel:Nat} {cs:List Value} {x:DataW H×List MemPlace} (h:DataW.trod en Tryz.prog W 0 (fun _=>true) true fuel 60 cs=some x):
  ∃(ao:Option Addr) (cap:Nat) (t:List bg),cs=[.slice ao t.length cap]∧OkP (GS.of W).M (.imm (.slice ao t.length cap) 3 bg t bb)∧∀x∈t,abZ x:=by
 rcases Go.Deep.open_slice Tryz.underlying60 h with⟨rfl,_⟩|⟨a,len,cap,m,n,D,Pl,rfl,_,hl,hm,rfl,hxe,hel⟩
 ·exact⟨none,0,[],rfl,.imm none 0 rfl (by simp) (by decide) (by decide) (fun q=>by simp at q) (fun x hx=>by simp at hx) (fun x hx=>by simp at hx) (fun i x hx=>by simp at hx),fun x hx=>by simp at hx⟩
 ·obtain⟨t,ht,hp⟩:=ya (p:=fun i (x:bg)=>W.cells? 0 (a.add (i*3)) 3=some ((bb x).map bR)∧(∀q∈bb x,OkP (GS.of W).M q)∧abZ x) len (fun i hi=>by
   obtain⟨cs2,h1,h2⟩:=hel i (by first|omega|(simp;omega))
   obtain⟨hlen,hleaf⟩:=qa 20 152 _ Vy _ _ _ h2
   obtain⟨c0,c1,c2,rfl⟩:∃c0 c1 c2,cs2=c0::c1::c2::[]:=by
    match cs2,hlen with
    |c0::c1::c2::[],_=>exact⟨c0,c1,c2,rfl⟩
   obtain⟨z0,rfl,w0⟩:=oH Tryz.underlying9 (hleaf 0 _ _ rfl rfl)
   obtain⟨z1,rfl,w1⟩:=oH Tryz.underlying9 (hleaf 1 _ _ rfl rfl)
   obtain⟨z2,rfl⟩:=Th Tryz.underlying4 (hleaf 2 _ _ rfl rfl)
   refine⟨⟨z0,z1,z2=true⟩,?_,?_,trivial⟩
   ·refine Eq.trans h1 ?_;simp only[bb,acJ,List.map_nil,bR,dc,aaI]
   ·intro q hq;simp only[bb,List.mem_cons,List.not_mem_nil,or_false]at hq
    rcases hq with rfl|rfl|rfl<;>first|exact .sint _ _|exact .sstr _|exact .sbool _)
  subst ht
  have r:=Gv (base:=0) (en:=fun x=>(bb x).map bR) (w:=W) hl hm (by decide) (fun _=>rfl) (fun i x hx=>(hp i x hx).1)
  exact⟨some a,_,t,rfl,.imm (some a) _ rfl r.le r.cap (by decide) r.addr (fun x _=>rfl) (fun x hx=>by
   obtain⟨i,hi⟩:=List.mem_iff_getElem?.1 hx
   exact(hp i x hi).2.1) r.row,fun x hx=>by
   obtain⟨i,hi⟩:=List.mem_iff_getElem?.1 hx
   exact(hp i x hi).2.2⟩
theorem Yf:gQ Tryz.prog 20 39=some [5,37]:=by kernel_rfl
theorem SK {H:Type} {en:TypeId×Value→H} {W:World} {fuel:Nat} {cs:List Value} {x:DataW H×List MemPlace} (h:DataW.trod en Tryz.prog W 0 (fun _=>true) true fuel 53 cs=some x):
  ∃(ao:Option Addr) (cap:Nat) (t:List Proc),cs=[.slice ao t.length cap]∧OkP (GS.of W).M (.imm (.slice ao t.length cap) 2 Proc t bJ)∧∀x∈t,ab0 x:=by
 rcases Go.Deep.open_slice Tryz.underlying53 h with⟨rfl,_⟩|⟨a,len,cap,m,n,D,Pl,rfl,_,hl,hm,rfl,hxe,hel⟩
 ·exact⟨none,0,[],rfl,.imm none 0 rfl (by simp) (by decide) (by decide) (fun q=>by simp at q) (fun x hx=>by simp at hx) (fun x hx=>by simp at hx) (fun i x hx=>by simp at hx),fun x hx=>by simp at hx⟩
 ·obtain⟨t,ht,hp⟩:=ya (p:=fun i (x:Proc)=>W.cells? 0 (a.add (i*2)) 2=some ((bJ x).map bR)∧(∀q∈bJ x,OkP (GS.of W).M q)∧ab0 x) len (fun i hi=>by
   obtain⟨cs2,h1,h2⟩:=hel i (by first|omega|(simp;omega))
   obtain⟨hlen,hleaf⟩:=qa 20 39 _ Yf _ _ _ h2
   obtain⟨c0,c1,rfl⟩:∃c0 c1,cs2=c0::c1::[]:=by
    match cs2,hlen with
    |c0::c1::[],_=>exact⟨c0,c1,rfl⟩
   obtain⟨z0,rfl,w0⟩:=aQ Tryz.underlying5 (hleaf 0 _ _ rfl rfl)
   have b0:=ci w0
   obtain⟨z1,rfl,w1⟩:=aQ Tryz.underlying37 (hleaf 1 _ _ rfl rfl)
   have b1:=rR w1
   refine⟨⟨z0,z1⟩,?_,?_,trivial⟩
   ·exact h1
   ·intro q hq;simp only[bJ,List.mem_cons,List.not_mem_nil,or_false]at hq
    rcases hq with rfl|rfl<;>first|exact .sint _ _|exact .sstr _|exact .sbool _)
  subst ht
  have r:=Gv (base:=0) (en:=fun x=>(bJ x).map bR) (w:=W) hl hm (by decide) (fun _=>rfl) (fun i x hx=>(hp i x hx).1)
  exact⟨some a,_,t,rfl,.imm (some a) _ rfl r.le r.cap (by decide) r.addr (fun x _=>rfl) (fun x hx=>by
   obtain⟨i,hi⟩:=List.mem_iff_getElem?.1 hx
   exact(hp i x hi).2.1) r.row,fun x hx=>by
   obtain⟨i,hi⟩:=List.mem_iff_getElem?.1 hx
   exact(hp i x hi).2.2⟩
theorem Pe:gQ Tryz.prog 20 64=some [3,3,5,5,37,40,5,5,5,5,5,5,5,5,3,3,46,5,37,40,5,5,5,5,5,5,5,5,3,3,3,3,5,9,5,37,5,37,40,5,5,5,5,5,5,5,5,9,5,40,53,5,37,5,40,53,5,5,37,40,5,5,5,5,5,5,5,40,46,5,9,60,5,37]:=by kernel_rfl
theorem aaM {H:Type} {en:TypeId×Value→H} {W:World} {fuel:Nat} {cs:List Value} {x:DataW H×List MemPlace} (h:DataW.trod en Tryz.prog W 0 (fun _=>true) true fuel 22 cs=some x) (hS:∀z∈x.1.weights Tryz.prog 22,z≤reachBytes):
  ∃(ao:Option Addr) (cap:Nat) (t:List ez),cs=[.slice ao t.length cap]∧OkP (GS.of W).M (.imm (.slice ao t.length cap) 74 ez t gM)∧∀x∈t,yH x:=by
 rcases Go.Deep.open_slice Tryz.underlying22 h with⟨rfl,_⟩|⟨a,len,cap,m,n,D,Pl,rfl,_,hl,hm,rfl,hxe,hel⟩
 ·exact⟨none,0,[],rfl,.imm none 0 rfl (by simp) (by decide) (by decide) (fun q=>by simp at q) (fun x hx=>by simp at hx) (fun x hx=>by simp at hx) (fun i x hx=>by simp at hx),fun x hx=>by simp at hx⟩
 ·obtain⟨t,ht,hp⟩:=ya (p:=fun i (x:ez)=>W.cells? 0 (a.add (i*74)) 74=some ((gM x).map bR)∧(∀q∈gM x,OkP (GS.of W).M q)∧yH x) len (fun i hi=>by
   obtain⟨cs2,h1,h2⟩:=hel i (by first|omega|(simp;omega))
   obtain⟨hlen,hleaf⟩:=qa 20 64 _ Pe _ _ _ h2
   have hwl:=Oj (S:=x.1.weights Tryz.prog 22) 20 64 _ Pe _ _ _ h2 (fun z hz=>by
    rw[hxe]
    simp only[DataW.weights,Tryz.underlying22]
    exact List.mem_cons_of_mem _ (List.mem_append_left _ (qB (List.mem_map.2 ⟨i,List.mem_range.2 hi,rfl⟩) z hz)))
   obtain⟨c0,c1,c2,c3,c4,c5,c6,c7,c8,c9,c10,c11,c12,c13,c14,c15,c16,c17,c18,c19,c20,c21,c22,c23,c24,c25,c26,c27,c28,c29,c30,c31,c32,c33,c34,c35,c36,c37,c38,c39,c40,c41,c42,c43,c44,c45,c46,c47,c48,c49,c50,c51,c52,c53,c54,c55,c56,c57,c58,c59,c60,c61,c62,c63,c64,c65,c66,c67,c68,c69,c70,c71,c72,c73,rfl⟩:∃c0 c1 c2 c3 c4 c5 c6 c7 c8 c9 c10 c11 c12 c13 c14 c15 c16 c17 c18 c19 c20 c21 c22 c23 c24 c25 c26 c27 c28 c29 c30 c31 c32 c33 c34 c35 c36 c37 c38 c39 c40 c41 c42 c43 c44 c45 c46 c47 c48 c49 c50 c51 c52 c53 c54 c55 c56 c57 c58 c59 c60 c61 c62 c63 c64 c65 c66 c67 c68 c69 c70 c71 c72 c73,cs2=c0::c1::c2::c3::c4::c5::c6::c7::c8::c9::c10::c11::c12::c13::c14::c15::c16::c17::c18::c19::c20::c21::c22::c23::c24::c25::c26::c27::c28::c29::c30::c31::c32::c33::c34::c35::c36::c37::c38::c39::c40::c41::c42::c43::c44::c45::c46::c47::c48::c49::c50::c51::c52::c53::c54::c55::c56::c57::c58::c59::c60::c61::c62::c63::c64::c65::c66::c67::c68::c69::c70::c71::c72::c73::[]:=by
    match cs2,hlen with
    |c0::c1::c2::c3::c4::c5::c6::c7::c8::c9::c10::c11::c12::c13::c14::c15::c16::c17::c18::c19::c20::c21::c22::c23::c24::c25::c26::c27::c28::c29::c30::c31::c32::c33::c34::c35::c36::c37::c38::c39::c40::c41::c42::c43::c44::c45::c46::c47::c48::c49::c50::c51::c52::c53::c54::c55::c56::c57::c58::c59::c60::c61::c62::c63::c64::c65::c66::c67::c68::c69::c70::c71::c72::c73::[],_=>exact⟨c0,c1,c2,c3,c4,c5,c6,c7,c8,c9,c10,c11,c12,c13,c14,c15,c16,c17,c18,c19,c20,c21,c22,c23,c24,c25,c26,c27,c28,c29,c30,c31,c32,c33,c34,c35,c36,c37,c38,c39,c40,c41,c42,c43,c44,c45,c46,c47,c48,c49,c50,c51,c52,c53,c54,c55,c56,c57,c58,c59,c60,c61,c62,c63,c64,c65,c66,c67,c68,c69,c70,c71,c72,c73,rfl⟩
   obtain⟨z0,rfl,w0⟩:=aQ Tryz.underlying3 (hleaf 0 _ _ rfl rfl)
   have b0:=pz w0
   obtain⟨z1,rfl,w1⟩:=aQ Tryz.underlying3 (hleaf 1 _ _ rfl rfl)
   have b1:=pz w1
   obtain⟨z2,rfl,w2⟩:=aQ Tryz.underlying5 (hleaf 2 _ _ rfl rfl)
   have b2:=ci w2
   obtain⟨z3,rfl,w3⟩:=aQ Tryz.underlying5 (hleaf 3 _ _ rfl rfl)
   have b3:=ci w3
   obtain⟨z4,rfl,w4⟩:=aQ Tryz.underlying37 (hleaf 4 _ _ rfl rfl)
   have b4:=rR w4
   obtain⟨z5,rfl,w5⟩:=aQ Tryz.underlying40 (hleaf 5 _ _ rfl rfl)
   have b5:=tY w5
   obtain⟨z6,rfl,w6⟩:=aQ Tryz.underlying5 (hleaf 6 _ _ rfl rfl)
   have b6:=ci w6
   obtain⟨z7,rfl,w7⟩:=aQ Tryz.underlying5 (hleaf 7 _ _ rfl rfl)
   have b7:=ci w7
   obtain⟨z8,rfl,w8⟩:=aQ Tryz.underlying5 (hleaf 8 _ _ rfl rfl)
   have b8:=ci w8
   obtain⟨z9,rfl,w9⟩:=aQ Tryz.underlying5 (hleaf 9 _ _ rfl rfl)
   have b9:=ci w9
   obtain⟨z10,rfl,w10⟩:=aQ Tryz.underlying5 (hleaf 10 _ _ rfl rfl)
   have b10:=ci w10
   obtain⟨z11,rfl,w11⟩:=aQ Tryz.underlying5 (hleaf 11 _ _ rfl rfl)
   have b11:=ci w11
   obtain⟨z12,rfl,w12⟩:=aQ Tryz.underlying5 (hleaf 12 _ _ rfl rfl)
   have b12:=ci w12
   obtain⟨z13,rfl,w13⟩:=aQ Tryz.underlying5 (hleaf 13 _ _ rfl rfl)
   have b13:=ci w13
   obtain⟨z14,rfl,w14⟩:=aQ Tryz.underlying3 (hleaf 14 _ _ rfl rfl)
   have b14:=pz w14
   obtain⟨z15,rfl,w15⟩:=aQ Tryz.underlying3 (hleaf 15 _ _ rfl rfl)
   have b15:=pz w15
   obtain⟨_,y16,hs16,hw16⟩:=hwl 16 _ _ rfl rfl
   obtain⟨ao16,cap16,t16,e16,ok16,rg16⟩:=SM hs16
   obtain rfl:c16=_:=by simpa using e16
   have hb16:t16.length≤2932031007402:=by
    rcases Bc Tryz.underlying46 hs16 with h0|⟨k,hk,hk2⟩
    ·omega
    ·have:=hS _ (hw16 _ hk2)
     rw[TY]at this
     have e:reachBytes=140737488355327+1 - 4096:=by decide
     omega
   obtain⟨z17,rfl,w17⟩:=aQ Tryz.underlying5 (hleaf 17 _ _ rfl rfl)
   have b17:=ci w17
   obtain⟨z18,rfl,w18⟩:=aQ Tryz.underlying37 (hleaf 18 _ _ rfl rfl)
   have b18:=rR w18
   obtain⟨z19,rfl,w19⟩:=aQ Tryz.underlying40 (hleaf 19 _ _ rfl rfl)
   have b19:=tY w19
   obtain⟨z20,rfl,w20⟩:=aQ Tryz.underlying5 (hleaf 20 _ _ rfl rfl)
   have b20:=ci w20
   obtain⟨z21,rfl,w21⟩:=aQ Tryz.underlying5 (hleaf 21 _ _ rfl rfl)
   have b21:=ci w21
   obtain⟨z22,rfl,w22⟩:=aQ Tryz.underlying5 (hleaf 22 _ _ rfl rfl)
   have b22:=ci w22
   obtain⟨z23,rfl,w23⟩:=aQ Tryz.underlying5 (hleaf 23 _ _ rfl rfl)
   have b23:=ci w23
   obtain⟨z24,rfl,w24⟩:=aQ Tryz.underlying5 (hleaf 24 _ _ rfl rfl)
   have b24:=ci w24
   obtain⟨z25,rfl,w25⟩:=aQ Tryz.underlying5 (hleaf 25 _ _ rfl rfl)
   have b25:=ci w25
   obtain⟨z26,rfl,w26⟩:=aQ Tryz.underlying5 (hleaf 26 _ _ rfl rfl)
   have b26:=ci w26
   obtain⟨z27,rfl,w27⟩:=aQ Tryz.underlying5 (hleaf 27 _ _ rfl rfl)
   have b27:=ci w27
   obtain⟨z28,rfl,w28⟩:=aQ Tryz.underlying3 (hleaf 28 _ _ rfl rfl)
   have b28:=pz w28
   obtain⟨z29,rfl,w29⟩:=aQ Tryz.underlying3 (hleaf 29 _ _ rfl rfl)
   have b29:=pz w29
   obtain⟨z30,rfl,w30⟩:=aQ Tryz.underlying3 (hleaf 30 _ _ rfl rfl)
   have b30:=pz w30
   obtain⟨z31,rfl,w31⟩:=aQ Tryz.underlying3 (hleaf 31 _ _ rfl rfl)
   have b31:=pz w31
   obtain⟨z32,rfl,w32⟩:=aQ Tryz.underlying5 (hleaf 32 _ _ rfl rfl)
   have b32:=ci w32
   obtain⟨_,y33,hs33,hw33⟩:=hwl 33 _ _ rfl rfl
   obtain⟨z33,rfl,w33⟩:=oH Tryz.underlying9 (hleaf 33 _ _ rfl rfl)
   have hb33:z33.length≤140737488355328:=by
    have:=hS _ (hw33 _ (yw Tryz.underlying9 hs33))
    have e:reachBytes=140737488355327+1 - 4096:=by decide
    omega
   obtain⟨z34,rfl,w34⟩:=aQ Tryz.underlying5 (hleaf 34 _ _ rfl rfl)
   have b34:=ci w34
   obtain⟨z35,rfl,w35⟩:=aQ Tryz.underlying37 (hleaf 35 _ _ rfl rfl)
   have b35:=rR w35
   obtain⟨z36,rfl,w36⟩:=aQ Tryz.underlying5 (hleaf 36 _ _ rfl rfl)
   have b36:=ci w36
   obtain⟨z37,rfl,w37⟩:=aQ Tryz.underlying37 (hleaf 37 _ _ rfl rfl)
   have b37:=rR w37
   obtain⟨z38,rfl,w38⟩:=aQ Tryz.underlying40 (hleaf 38 _ _ rfl rfl)
   have b38:=tY w38
   obtain⟨z39,rfl,w39⟩:=aQ Tryz.underlying5 (hleaf 39 _ _ rfl rfl)
   have b39:=ci w39
   obtain⟨z40,rfl,w40⟩:=aQ Tryz.underlying5 (hleaf 40 _ _ rfl rfl)
   have b40:=ci w40
   obtain⟨z41,rfl,w41⟩:=aQ Tryz.underlying5 (hleaf 41 _ _ rfl rfl)
   have b41:=ci w41
   obtain⟨z42,rfl,w42⟩:=aQ Tryz.underlying5 (hleaf 42 _ _ rfl rfl)
   have b42:=ci w42
   obtain⟨z43,rfl,w43⟩:=aQ Tryz.underlying5 (hleaf 43 _ _ rfl rfl)
   have b43:=ci w43
   obtain⟨z44,rfl,w44⟩:=aQ Tryz.underlying5 (hleaf 44 _ _ rfl rfl)
   have b44:=ci w44
   obtain⟨z45,rfl,w45⟩:=aQ Tryz.underlying5 (hleaf 45 _ _ rfl rfl)
   have b45:=ci w45
   obtain⟨z46,rfl,w46⟩:=aQ Tryz.underlying5 (hleaf 46 _ _ rfl rfl)
   have b46:=ci w46
   obtain⟨_,y47,hs47,hw47⟩:=hwl 47 _ _ rfl rfl
   obtain⟨z47,rfl,w47⟩:=oH Tryz.underlying9 (hleaf 47 _ _ rfl rfl)
   have hb47:z47.length≤140737488355328:=by
    have:=hS _ (hw47 _ (yw Tryz.underlying9 hs47))
    have e:reachBytes=140737488355327+1 - 4096:=by decide
    omega
   obtain⟨z48,rfl,w48⟩:=aQ Tryz.underlying5 (hleaf 48 _ _ rfl rfl)
   have b48:=ci w48
   obtain⟨z49,rfl,w49⟩:=aQ Tryz.underlying40 (hleaf 49 _ _ rfl rfl)
   have b49:=tY w49
   obtain⟨_,y50,hs50⟩:=hleaf 50 _ _ rfl rfl
   obtain⟨ao50,cap50,t50,e50,ok50,rg50⟩:=SK hs50
   obtain rfl:c50=_:=by simpa using e50
   obtain⟨z51,rfl,w51⟩:=aQ Tryz.underlying5 (hleaf 51 _ _ rfl rfl)
   have b51:=ci w51
   obtain⟨z52,rfl,w52⟩:=aQ Tryz.underlying37 (hleaf 52 _ _ rfl rfl)
   have b52:=rR w52
   obtain⟨z53,rfl,w53⟩:=aQ Tryz.underlying5 (hleaf 53 _ _ rfl rfl)
   have b53:=ci w53
   obtain⟨z54,rfl,w54⟩:=aQ Tryz.underlying40 (hleaf 54 _ _ rfl rfl)
   have b54:=tY w54
   obtain⟨_,y55,hs55⟩:=hleaf 55 _ _ rfl rfl
   obtain⟨ao55,cap55,t55,e55,ok55,rg55⟩:=SK hs55
   obtain rfl:c55=_:=by simpa using e55
   obtain⟨z56,rfl,w56⟩:=aQ Tryz.underlying5 (hleaf 56 _ _ rfl rfl)
   have b56:=ci w56
   obtain⟨z57,rfl,w57⟩:=aQ Tryz.underlying5 (hleaf 57 _ _ rfl rfl)
   have b57:=ci w57
   obtain⟨z58,rfl,w58⟩:=aQ Tryz.underlying37 (hleaf 58 _ _ rfl rfl)
   have b58:=rR w58
   obtain⟨z59,rfl,w59⟩:=aQ Tryz.underlying40 (hleaf 59 _ _ rfl rfl)
   have b59:=tY w59
   obtain⟨z60,rfl,w60⟩:=aQ Tryz.underlying5 (hleaf 60 _ _ rfl rfl)
   have b60:=ci w60
   obtain⟨z61,rfl,w61⟩:=aQ Tryz.underlying5 (hleaf 61 _ _ rfl rfl)
   have b61:=ci w61
   obtain⟨z62,rfl,w62⟩:=aQ Tryz.underlying5 (hleaf 62 _ _ rfl rfl)
   have b62:=ci w62
   obtain⟨z63,rfl,w63⟩:=aQ Tryz.underlying5 (hleaf 63 _ _ rfl rfl)
   have b63:=ci w63
   obtain⟨z64,rfl,w64⟩:=aQ Tryz.underlying5 (hleaf 64 _ _ rfl rfl)
   have b64:=ci w64
   obtain⟨z65,rfl,w65⟩:=aQ Tryz.underlying5 (hleaf 65 _ _ rfl rfl)
   have b65:=ci w65
   obtain⟨z66,rfl,w66⟩:=aQ Tryz.underlying5 (hleaf 66 _ _ rfl rfl)
   have b66:=ci w66
   obtain⟨z67,rfl,w67⟩:=aQ Tryz.underlying40 (hleaf 67 _ _ rfl rfl)
   have b67:=tY w67
   obtain⟨_,y68,hs68,hw68⟩:=hwl 68 _ _ rfl rfl
   obtain⟨ao68,cap68,t68,e68,ok68,rg68⟩:=SM hs68
   obtain rfl:c68=_:=by simpa using e68
   have hb68:t68.length≤2932031007402:=by
    rcases Bc Tryz.underlying46 hs68 with h0|⟨k,hk,hk2⟩
    ·omega
    ·have:=hS _ (hw68 _ hk2)
     rw[TY]at this
     have e:reachBytes=140737488355327+1 - 4096:=by decide
     omega
   obtain⟨z69,rfl,w69⟩:=aQ Tryz.underlying5 (hleaf 69 _ _ rfl rfl)
   have b69:=ci w69
   obtain⟨_,y70,hs70,hw70⟩:=hwl 70 _ _ rfl rfl
   obtain⟨z70,rfl,w70⟩:=oH Tryz.underlying9 (hleaf 70 _ _ rfl rfl)
   have hb70:z70.length≤140737488355328:=by
    have:=hS _ (hw70 _ (yw Tryz.underlying9 hs70))
    have e:reachBytes=140737488355327+1 - 4096:=by decide
    omega
   obtain⟨_,y71,hs71⟩:=hleaf 71 _ _ rfl rfl
   obtain⟨ao71,cap71,t71,e71,ok71,rg71⟩:=aaL hs71
   obtain rfl:c71=_:=by simpa using e71
   obtain⟨z72,rfl,w72⟩:=aQ Tryz.underlying5 (hleaf 72 _ _ rfl rfl)
   have b72:=ci w72
   obtain⟨z73,rfl,w73⟩:=aQ Tryz.underlying37 (hleaf 73 _ _ rfl rfl)
   have b73:=rR w73
   refine⟨⟨z0,z1,z2,⟨⟨⟨z3,z4⟩,z5,z6,⟨z7,z8⟩,⟨z9,z10⟩,⟨z11,z12⟩⟩,z13,z14,z15,.slice ao16 t16.length cap16,t16⟩,⟨⟨⟨z17,z18⟩,z19,z20,⟨z21,z22⟩,⟨z23,z24⟩,⟨z25,z26⟩⟩,z27,z28,z29,z30,z31,z32,z33⟩,⟨⟨z34,z35⟩,⟨⟨z36,z37⟩,z38,z39,⟨z40,z41⟩,⟨z42,z43⟩,⟨z44,z45⟩⟩,z46,z47,z48,z49,.slice ao50 t50.length cap50,t50⟩,⟨⟨z51,z52⟩,z53,z54,.slice ao55 t55.length cap55,t55⟩,⟨z56,⟨⟨z57,z58⟩,z59,z60,⟨z61,z62⟩,⟨z63,z64⟩,⟨z65,z66⟩⟩,z67,.slice ao68 t68.length cap68,t68,z69,z70,.slice ao71 t71.length cap71,t71,⟨z72,z73⟩⟩⟩,?_,?_,⟨⟨hb16,hb47,hb33⟩,b0,b1,b2,⟨⟨⟨b3,b4⟩,b5,b6,⟨b7,b8⟩,⟨b9,b10⟩,⟨b11,b12⟩⟩,b14,b15⟩,⟨⟨⟨b17,b18⟩,b19,b20,⟨b21,b22⟩,⟨b23,b24⟩,⟨b25,b26⟩⟩,b30,b31,b32⟩,b56,⟨⟨b57,b58⟩,b59,b60,⟨b61,b62⟩,⟨b63,b64⟩,⟨b65,b66⟩⟩,rg68,b72,b73⟩⟩
   ·exact h1
   ·intro q hq;simp only[gM,List.mem_cons,List.not_mem_nil,or_false]at hq
    rcases hq with rfl|rfl|rfl|rfl|rfl|rfl|rfl|rfl|rfl|rfl|rfl|rfl|rfl|rfl|rfl|rfl|rfl|rfl|rfl|rfl|rfl|rfl|rfl|rfl|rfl|rfl|rfl|rfl|rfl|rfl|rfl|rfl|rfl|rfl|rfl|rfl|rfl|rfl|rfl|rfl|rfl|rfl|rfl|rfl|rfl|rfl|rfl|rfl|rfl|rfl|rfl|rfl|rfl|rfl|rfl|rfl|rfl|rfl|rfl|rfl|rfl|rfl|rfl|rfl|rfl|rfl|rfl|rfl|rfl|rfl|rfl|rfl|rfl|rfl<;>first|exact .sint _ _|exact .sstr _|exact .sbool _|exact ok16|exact ok50|exact ok55|exact ok68|exact ok71)
  subst ht
  have r:=Gv (base:=0) (en:=fun x=>(gM x).map bR) (w:=W) hl hm (by decide) (fun _=>rfl) (fun i x hx=>(hp i x hx).1)
  exact⟨some a,_,t,rfl,.imm (some a) _ rfl r.le r.cap (by decide) r.addr (fun x _=>rfl) (fun x hx=>by
   obtain⟨i,hi⟩:=List.mem_iff_getElem?.1 hx
   exact(hp i x hi).2.1) r.row,fun x hx=>by
   obtain⟨i,hi⟩:=List.mem_iff_getElem?.1 hx
   exact(hp i x hi).2.2⟩
theorem own:ownKnob Tryz.prog.godebug=none:=by kernel_rfl
theorem Yj:laidOutB Tryz.prog=true:=by kernel_rfl
theorem Lk {W:World} (h:laidMet Tryz.prog Rows.ledgerAnnalsRow.laid W):Tied (GS.of W).M:=by
 obtain⟨ps,h,_⟩:=h
 obtain⟨_,_,_,_,_,_,_,_,_,_,h,_⟩:=h
 obtain⟨_,_,_,_,_,_,_,_,_,_,h,_⟩:=h
 obtain⟨g,t,cs,fuel,p,q,hg,ht,hvar,hd,_,_⟩:=h
 obtain rfl:=ac1 ((show Tryz.prog.globalNamed "internal/strconv.uint64pow10" =some 0 by kernel_rfl).symm.trans hg)
 obtain rfl:=ac1 ((show(Tryz.prog.globals[0]?).map (·.type)=some 218 by kernel_rfl).symm.trans ht)
 have e:=Lib.cells_of_tab (zs:=Lib.pow10Tab) (k:=.u64) Tryz.underlying218 Tryz.underlying210 (by kernel_rfl) (by kernel_rfl) hd
 simp only[World.var?,hg,Option.bind_some]at hvar
 rcases hh:W.heap[0]? with _|o
 ·simp[hh]at hvar
 ·cases o<;>simp[hh]at hvar
  rename_i c T fz
  subst hvar
  refine⟨T,fz,?_⟩
  simp only[GS.of,hh]
  rw[←e]
noncomputable def JK (os:Os):World:=
 let w0:=World.holding Tryz.prog os ⟨#[],#[],[]⟩
 {w0 with heap:=(((w0.heap.modify 2 fun
   |.cells _ t frozen=>.cells #[.int .u8 0,.int .u8 1,.int .u8 28,.int .u8 2,.int .u8 29,.int .u8 14,.int .u8 24,.int .u8 3,.int .u8 30,.int .u8 22,.int .u8 20,.int .u8 15,.int .u8 25,.int .u8 17,.int .u8 4,.int .u8 8,.int .u8 31,.int .u8 27,.int .u8 13,.int .u8 23,.int .u8 21,.int .u8 19,.int .u8 16,.int .u8 7,.int .u8 26,.int .u8 12,.int .u8 18,.int .u8 6,.int .u8 11,.int .u8 5,.int .u8 10,.int .u8 9] t frozen
   |o=>o).modify 3 fun
   |.cells _ t frozen=>.cells #[.int .u8 0,.int .u8 1,.int .u8 56,.int .u8 2,.int .u8 57,.int .u8 49,.int .u8 28,.int .u8 3,.int .u8 61,.int .u8 58,.int .u8 42,.int .u8 50,.int .u8 38,.int .u8 29,.int .u8 17,.int .u8 4,.int .u8 62,.int .u8 47,.int .u8 59,.int .u8 36,.int .u8 45,.int .u8 43,.int .u8 51,.int .u8 22,.int .u8 53,.int .u8 39,.int .u8 33,.int .u8 30,.int .u8 24,.int .u8 18,.int .u8 12,.int .u8 5,.int .u8 63,.int .u8 55,.int .u8 48,.int .u8 27,.int .u8 60,.int .u8 41,.int .u8 37,.int .u8 16,.int .u8 46,.int .u8 35,.int .u8 44,.int .u8 21,.int .u8 52,.int .u8 32,.int .u8 23,.int .u8 11,.int .u8 54,.int .u8 26,.int .u8 40,.int .u8 15,.int .u8 34,.int .u8 20,.int .u8 31,.int .u8 10,.int .u8 25,.int .u8 14,.int .u8 19,.int .u8 9,.int .u8 13,.int .u8 8,.int .u8 7,.int .u8 6] t frozen
   |o=>o).modify 0 fun
   |.cells _ t frozen=>.cells #[.int .u64 1,.int .u64 10,.int .u64 100,.int .u64 1000,.int .u64 10000,.int .u64 100000,.int .u64 1000000,.int .u64 10000000,.int .u64 100000000,.int .u64 1000000000,.int .u64 10000000000,.int .u64 100000000000,.int .u64 1000000000000,.int .u64 10000000000000,.int .u64 100000000000000,.int .u64 1000000000000000,.int .u64 10000000000000000,.int .u64 100000000000000000,.int .u64 1000000000000000000,.int .u64 10000000000000000000] t frozen
   |o=>o)}
theorem KB (os:Os) (args:Array Value):laidMet Tryz.prog Rows.ledgerAnnalsRow.laid ((JK os).forCall (fun _ _=>0) ⟨#[],args,[]⟩).memory:=
 laidMet_of_run' 8 (by kernel_rfl) (by kernel_rfl)
open Go.Proofs.Tryz in
theorem aa5:cY Tryz.prog 3 0 (ce La (dD If Ig)):=bV (f:=3) (k:=0) (lp:=GN) (lf:=600) bv (aT AL) Tt (by rfl) (fun b j x h=>(cd Vq (fun h=>(by cases h)) h)) fun p K h=>YP p K (aa h).1 (aa h).2
theorem ab9 (h:Value) (l:List ez) (w:World) (hr:∀x∈l,yH x) (ht:Tied (GS.of w).M) (ok:OkP (GS.of w).M (.imm h 74 ez l gM)):Calls Tryz.prog 3 #[h] w (Ret (GS.of w) [] fun _ v=>v= .bool true):=by
 let K:AV→T→Nat→Bool:=fun v _ _=>au (∃q:Prop,v= .sy (.bool q)∧q)
 have hE:fM ⟨fun _=>.bool true,(GS.of w).M⟩:=⟨fun i=>rfl,ht⟩
 have hd:aR ⟨fun _=>.bool true,(GS.of w).M⟩ (fun _=>none) [.sy (.imm h 74 ez l gM)]=some [h]:=by
  simp only[aR,den,bz,qX (E:=⟨fun _=>.bool true,(GS.of w).M⟩) ok,bR,dc]
 refine aa5 [.sy (.imm h 74 ez l gM)] [h] ⟨fun _=>.bool true,(GS.of w).M⟩ (fun _=>none) (GS.of w) [] .leaf 0 w K _ hE (Sim.start rfl (Holds.start w)) hd ?_ ?_
 ·exact aG ⟨h,l⟩ (bf rfl (bf (by exact hr) (aB fun r=>Go.Proofs.Tryz.iI (fun hz=>prB_true.2 ⟨_,rfl,hz⟩) (fun _=>rfl))))
 ·intro v M' nx' E' ρ' w' z hk h1 h2 h3 h4 h5
  obtain⟨G',g1,g2,g3⟩:=h4.holds
  refine⟨z,G',rfl,g1,g2,?_⟩
  obtain⟨q,rfl,hq⟩:=prB_true.1 hk
  have h6:some (Value.bool (au q))=some z:=h5.symm▸by simp[den,bz,iR,bR]
  rw[prB_true.2 hq]at h6
  exact(ac1 h6).symm
theorem abe (os:Os) (started:os.Started) (H:Type) (enc:TypeId×Value→H):
  ReturnsInHanded {} Tryz.checked os 3 .any (fun w args=>(Rows.ledgerAnnalsSpec.pre enc Tryz.prog Tryz.f3 Rows.ledgerAnnalsRow.domain false w args∧laidMet Tryz.prog Rows.ledgerAnnalsRow.laid w)∧sizedMet enc Tryz.prog Tryz.f3 (OpenSpec.ofChange Rows.ledgerAnnalsSpec) false w args)
   (Rows.ledgerAnnalsSpec.post enc Tryz.prog Tryz.f3 false true false false):=by
 refine returnsInHanded_of_change_and (C:=Tryz.checked) (X:=fun w _=>laidMet Tryz.prog Rows.ledgerAnnalsRow.laid w) (fun _ _ _ hh h=>h.of_heap hh) own started (by kernel_rfl) Tryz.func3
  (ChangeSpec.witness_at (enc:=enc) (C:=Tryz.checked) (os:=os) (X:=fun w _=>laidMet Tryz.prog Rows.ledgerAnnalsRow.laid w) false (JK os) #[.slice none 0 0] 8 rfl (by kernel_rfl) (by kernel_rfl) (by kernel_rfl) (by kernel_rfl) (by kernel_rfl) (KB os _)) ?_
 intro W base args ds gs before hval0 hW _ hsz hL _
 have hval:∀(j:Nat) t v,Tryz.f3.params[j]?=some t→args[j]?=some v→Value.okWide Tryz.prog W .any base t v:=hval0
 have hW':=hW
 obtain⟨p,q,hA0,hV,rfl,hfz,hnd⟩:=hW
 have hA:DataW.TrodAll enc Tryz.prog W 0 (fun _=>true) true Tryz.f3.params.toList args.toList ds p:=hA0
 rw[Tryz.params3]at hA hval
 have hz0:(DataW.weightsEach Tryz.prog (Tryz.f3.params.toList++Rows.ledgerAnnalsSpec.plain.varTypes Tryz.prog) (ds++gs)).all (· ≤reachBytes)=true:=hsz
 rw[Tryz.params3]at hz0
 obtain⟨v0,vs0,d0,ds0,p0,q0,hargs,rfl,rfl,h0,r0⟩:=trodAll_cons hA
 obtain⟨rfl,rfl,rfl⟩:=trodAll_nil r0
 obtain rfl:args= #[v0]:=by cases args;simp_all
 obtain⟨rfl,rfl⟩:=trodVars_none hV
 have hS:∀n,n∈d0.weights Tryz.prog 22→n≤reachBytes:=fun n hn=>by
  have:=List.all_eq_true.1 hz0 n (DataW.weights_mem_each (j:=0) (t:=22) (d:=d0) rfl rfl n hn)
  simpa using this
 obtain⟨a0,len0,cap0,rfl⟩:=okWide_slice Tryz.underlying22 (hval 0 22 v0 rfl rfl)
 have j0:=h0
 have lt0:∀x∈p0,x.block<W.heap.size:=by obtain⟨m,hm⟩:=j0;exact DataW.trod_lt m _ _ _ hm
 obtain⟨fuel0,hf0⟩:=h0
 obtain⟨ao,ca,t0,hc,ok,rg⟩:=aaM hf0 hS
 simp only[Value.cells,List.cons.injEq,Value.slice.injEq,and_true]at hc
 obtain⟨rfl,rfl,rfl⟩:=hc
 clear hA0 hval0
 simp only[List.append_nil]at hW'
 have hw:=ab9 _ t0 W rg (Lk hL) ok
 refine hw.mono fun e W2 ⟨v,G2,he,hG,hh,hv⟩=> ?_
 subst he;subst hv
 have bel:Below W.heap.size W W2:=Holds.below hG hh
 exact⟨_,rfl,_,_,_,[],_,[],hW',trodAll_mk1 (shut_bool Tryz.underlying4 _),(trodAll_cons_mk (Below.trod Yj (by kernel_rfl) (of_decide_eq_true (by kernel_rfl)) j0 bel lt0) trodAll_mk0),rfl,bel.frame _,fun h=>by cases h⟩
theorem acg:Rows.ledgerAnnalsRow.holds Tryz.pinned (OpenSpec.ofChange Rows.ledgerAnnalsSpec):=
 OpenClaim.holds_of_wide 3 Tryz.f3 rfl rfl rfl rfl rfl rfl rfl ⟨rfl,rfl,rfl,rfl,rfl⟩ rfl rfl rfl rfl rfl (by kernel_rfl) Tryz.func3 (by kernel_rfl)
  (of_decide_eq_true (by kernel_rfl)) (by unfold Func.isWrapper;first|(rw[if_pos (by decide+kernel)];kernel_rfl)|(rw[if_neg (by decide+kernel)];exact⟨rfl,rfl⟩))
  (fun os started H enc _=>abe os started H enc)
theorem card_holds:Rows.LedgerAnnalsCardSaid:=
 Claim7.holds_tied_plain_at .later [] [.data,.data,.data] true (true, "ab93cfcf0ec9c498c8ed8730957e23e1c140db376d7662840676a3b590a4afa3") false acg (fun _ h=>by cases h) (by kernel_rfl) (fun _ h=>by cases h) ledgerAnnals_row_tie rfl ⟨rfl,rfl⟩ (by kernel_rfl) rfl
  (fun f fn hf hfn=>by
   obtain rfl:f=3:=ac1 ((show Tryz.prog.funcNamed "gemot/gemotlaw28.LedgerAnnals" =some 3 by kernel_rfl).symm.trans hf)|>.symm
   obtain rfl:fn=Tryz.f3:=(ac1 (Tryz.func3.symm.trans hfn)).symm
   exact⟨by kernel_rfl,fun j t ht=>by
    rw[Tryz.params3]at ht
    have ht2:=acH (by simpa using ht)
    simp only[List.mem_cons,List.not_mem_nil,or_false,or_self]at ht2
    subst ht2
    exact(show Tryz.prog.wantsStandIn 22=false by kernel_rfl)
    ⟩)
  (by kernel_rfl)
#print axioms card_holds
end Go.Proofs.YtdangmomddpegaaGreatDoor.ledgerAnnals
