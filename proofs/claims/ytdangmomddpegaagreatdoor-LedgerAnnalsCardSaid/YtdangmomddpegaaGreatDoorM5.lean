/- Definitions and lemmas of the proof, without a condition of their own. -/
import Derived.Test.YtdangmomddpegaaGreatDoorM4
import Derived.KernelRfl
open List renaming append_assoc→acL,cons_append→acK,length_append→acC,length_cons→acD,length_map→acE,length_nil→acF,map_cons→acJ,map_nil→acO,mem_of_getElem?→acH,nil_append→acM
open UInt8 renaming ofNat→ac0
namespace Go.Proofs.Tryz
open Go.Proofs.YtdangmomddpegaaGreatDoor (xU uM uL BM xT uK xW BL xV BK xS uN)
open Go Go.RowKit Go.Sy
open Go.Eng hiding aA
set_option maxRecDepth 1000000
set_option linter.unusedVariables false
set_option maxHeartbeats 4000000
def oe (f:bW):Prop:=(∀x∈f.b,jS x)∧(∀x∈f.e,lE x)∧(∀x∈f.o0,bp x)∧(∀x∈f.o1,bp x)∧(∀x∈f.o2,bp x)∧∀x∈f.o3,bp x
def bD (f:bW) (k:Int):Prop:=((f.b.length:Int)≤k∧(f.e.length:Int)≤k∧(f.t.length:Int)≤k∧(f.s.length:Int)≤k)∧((f.o0.length:Int)≤k∧(f.o1.length:Int)≤k∧(f.o2.length:Int)≤k∧(f.o3.length:Int)≤k)∧0≤f.sp∧f.sp≤k
theorem SS {α:Type} {l:List α} {i:Int} {R:α→Prop} (h:∀(j:Nat) y,(j:Int)<i→l[j]?=some y→¬R y) (h1:(l.length:Int)≤i):¬∃y∈l,R y:=fun⟨y,hy,e⟩=>ra h h1 y hy e
theorem SE {b:List BgR} {v:BgR} (h:∀x∈b,jS x) (hn:¬∃y∈b,y.id=v.id) (hv:jS v):(b++[v]).map bN=td (b.map bN) (bN v)∧(∀x∈b++[v],jS x)∧(b++[v]).length≤b.length+1:=by
 refine⟨?_,jJ h hv,by simp⟩
 unfold td
 rw[if_neg (show¬∃y∈b.map bN,y.id=(bN v).id from fun q=>hn (ex_bgk.1 q)),List.map_append];rfl
theorem SD {b:List BgR} {v:BgR} (h:∀x∈b,jS x) (hy:∃y∈b,y.id=v.id):b.map bN=td (b.map bN) (bN v)∧(∀x∈b,jS x)∧b.length≤b.length+1:=by
 refine⟨?_,h,by omega⟩
 unfold td
 rw[if_pos (show∃y∈b.map bN,y.id=(bN v).id from ex_bgk.2 hy)]
theorem xD {e:List EdR} {B:List BgK} {v:EdR} (h:∀x∈e,lE x) (hn:(∃y∈e,y.id=v.id)∨¬∃y∈B,y.id=v.id):e=qp B e v∧(∀x∈e,lE x)∧e.length≤e.length+1:=by
 refine⟨?_,h,by omega⟩
 unfold qp
 rw[if_neg (fun q=>hn.elim q.2 (fun z=>z q.1))]
theorem Ls {e:List EdR} {B:List BgK} {v:EdR} (h:∀x∈e,lE x) (hb:∃y∈B,y.id=v.id) (hn:¬∃y∈e,y.id=v.id) (hv:lE v):e++[v]=qp B e v∧(∀x∈e++[v],lE x)∧(e++[v]).length≤e.length+1:=by
 refine⟨?_,jJ h hv,by simp⟩
 unfold qp
 rw[if_pos ⟨hb,hn⟩]
noncomputable def Ra (g:bW) (k0:Nat) (k1:Nat) (k2:Nat) (k3:Nat) (k4:Nat) (k5:Nat) (k6:Nat) (k7:Nat):T:=(.node (.node (.node (.node .leaf (some (.prow 62 18 ai g.o2 am)) .leaf) (some (.prow 57 17 cL g.t co)) .leaf) (some (.prow 48 14 BgR g.b bo)) (.node .leaf (some (.prow 62 18 ai g.o0 am)) .leaf)) (some (.blk false 35 9 [[.sy (.prow 1 k0),.sy (.prow 2 k1),.sy (.prow 3 k2),.sy (.prow 4 k3),.sy (.prow 5 k4),.sy (.prow 6 k5),.sy (.prow 7 k6),.sy (.prow 8 k7),.sy (.int 0 g.sp)]])) (.node (.node (.node .leaf (some (.prow 62 18 ai g.o3 am)) .leaf) (some (.prow 59 5 cM g.s cp)) .leaf) (some (.prow 52 17 EdR g.e bA)) (.node .leaf (some (.prow 62 18 ai g.o1 am)) .leaf)))
noncomputable def ba (g:bW):T:=Ra g g.b.length g.e.length g.t.length g.s.length g.o0.length g.o1.length g.o2.length g.o3.length
noncomputable def Rb (g:bW) (d:ID) (k0:Nat) (k1:Nat) (k2:Nat) (k3:Nat) (k4:Nat) (k5:Nat) (k6:Nat) (k7:Nat):T:=(.node (.node (.node (.node .leaf (some (.prow 62 18 ai g.o1 am)) .leaf) (some (.prow 52 17 EdR g.e bA)) .leaf) (some (.blk false 45 10 [(ee d)])) (.node (.node .leaf (some (.prow 62 18 ai g.o3 am)) .leaf) (some (.prow 59 5 cM g.s cp)) .leaf)) (some (.blk false 35 9 [[.sy (.prow 2 k0),.sy (.prow 3 k1),.sy (.prow 4 k2),.sy (.prow 5 k3),.sy (.prow 6 k4),.sy (.prow 7 k5),.sy (.prow 8 k6),.sy (.prow 9 k7),.sy (.int 0 g.sp)]])) (.node (.node (.node .leaf (some (.prow 62 18 ai g.o2 am)) .leaf) (some (.prow 57 17 cL g.t co)) .leaf) (some (.prow 48 14 BgR g.b bo)) (.node .leaf (some (.prow 62 18 ai g.o0 am)) .leaf)))
noncomputable def Rbn (g:bW) (d:ID):T:=Rb g d g.b.length g.e.length g.t.length g.s.length g.o0.length g.o1.length g.o2.length g.o3.length
noncomputable def Re (g:bW) (v:EdR) (k0:Nat) (k1:Nat) (k2:Nat) (k3:Nat) (k4:Nat) (k5:Nat) (k6:Nat) (k7:Nat):T:=(.node (.node (.node (.node .leaf (some (.prow 62 18 ai g.o1 am)) .leaf) (some (.prow 52 17 EdR g.e bA)) .leaf) (some (.blk false 52 17 [(tG v)])) (.node (.node .leaf (some (.prow 62 18 ai g.o3 am)) .leaf) (some (.prow 59 5 cM g.s cp)) .leaf)) (some (.blk false 35 9 [[.sy (.prow 2 k0),.sy (.prow 3 k1),.sy (.prow 4 k2),.sy (.prow 5 k3),.sy (.prow 6 k4),.sy (.prow 7 k5),.sy (.prow 8 k6),.sy (.prow 9 k7),.sy (.int 0 g.sp)]])) (.node (.node (.node .leaf (some (.prow 62 18 ai g.o2 am)) .leaf) (some (.prow 57 17 cL g.t co)) .leaf) (some (.prow 48 14 BgR g.b bo)) (.node .leaf (some (.prow 62 18 ai g.o0 am)) .leaf)))
noncomputable def Ren (g:bW) (v:EdR):T:=Re g v g.b.length g.e.length g.t.length g.s.length g.o0.length g.o1.length g.o2.length g.o3.length
noncomputable def Rt (g:bW) (v:cL) (k0:Nat) (k1:Nat) (k2:Nat) (k3:Nat) (k4:Nat) (k5:Nat) (k6:Nat) (k7:Nat):T:=(.node (.node (.node (.node .leaf (some (.prow 62 18 ai g.o1 am)) .leaf) (some (.prow 52 17 EdR g.e bA)) .leaf) (some (.blk false 57 17 [(Ho v)])) (.node (.node .leaf (some (.prow 62 18 ai g.o3 am)) .leaf) (some (.prow 59 5 cM g.s cp)) .leaf)) (some (.blk false 35 9 [[.sy (.prow 2 k0),.sy (.prow 3 k1),.sy (.prow 4 k2),.sy (.prow 5 k3),.sy (.prow 6 k4),.sy (.prow 7 k5),.sy (.prow 8 k6),.sy (.prow 9 k7),.sy (.int 0 g.sp)]])) (.node (.node (.node .leaf (some (.prow 62 18 ai g.o2 am)) .leaf) (some (.prow 57 17 cL g.t co)) .leaf) (some (.prow 48 14 BgR g.b bo)) (.node .leaf (some (.prow 62 18 ai g.o0 am)) .leaf)))
noncomputable def Ex (g:bW) (v:cL):T:=Rt g v g.b.length g.e.length g.t.length g.s.length g.o0.length g.o1.length g.o2.length g.o3.length
noncomputable def Rs (g:bW) (v:cM) (k0:Nat) (k1:Nat) (k2:Nat) (k3:Nat) (k4:Nat) (k5:Nat) (k6:Nat) (k7:Nat):T:=(.node (.node (.node (.node .leaf (some (.prow 62 18 ai g.o1 am)) .leaf) (some (.prow 52 17 EdR g.e bA)) .leaf) (some (.blk false 59 5 [(Hp v)])) (.node (.node .leaf (some (.prow 62 18 ai g.o3 am)) .leaf) (some (.prow 59 5 cM g.s cp)) .leaf)) (some (.blk false 35 9 [[.sy (.prow 2 k0),.sy (.prow 3 k1),.sy (.prow 4 k2),.sy (.prow 5 k3),.sy (.prow 6 k4),.sy (.prow 7 k5),.sy (.prow 8 k6),.sy (.prow 9 k7),.sy (.int 0 g.sp)]])) (.node (.node (.node .leaf (some (.prow 62 18 ai g.o2 am)) .leaf) (some (.prow 57 17 cL g.t co)) .leaf) (some (.prow 48 14 BgR g.b bo)) (.node .leaf (some (.prow 62 18 ai g.o0 am)) .leaf)))
noncomputable def Nu (g:bW) (v:cM):T:=Rs g v g.b.length g.e.length g.t.length g.s.length g.o0.length g.o1.length g.o2.length g.o3.length
def xq:XC:=(.aft (.seq (.seq (g_ 7 [p_ 0 6 (m_ 5),p_ 1 7 (m_ 0),p_ 2 8 (n_ 7),p_ 3 9 (f_ 0 8),r_ 4 10 (l_ 9),p_ 5 11 (k_ 10),p_ 6 12 (.bin 3 0 (.t 6) (.t 11))]) (.cond (.t 12) .skip (.exit 2))) (.seq (.block 3 (.seq (h_ 10 [p_ 0 15 (m_ 0),p_ 1 16 (n_ 15),p_ 2 17 (f_ 0 16),r_ 3 18 (l_ 17),p_ 4 19 (m_ 5),p_ 5 20 (.ixs 14 (.t 18) (.t 19)),p_ 6 21 (f_ 0 20),r_ 7 22 (.ld true 10 (.t 21)),r_ 8 23 (.ld true 10 (.t 3)),p_ 9 24 (.eqs false 4 (.st [(0,2,true,.st [(0,1,false,.int),(1,1,false,.int)]),(2,1,false,.int),(3,1,false,.int),(4,6,true,.ar [0,2,4] 2 true (.st [(0,1,false,.int),(1,1,false,.int)]))]) (.t 22) (.t 23))]) (.cond (.t 24) (.seq (g_ 2 [p_ 0 25 (m_ 5),p_ 1 4 (m_ 25)]) .ret) .skip))) (g_ 3 [p_ 0 13 (m_ 5),p_ 1 14 (.bin 0 0 (.t 13) (i_ 1)),p_ 2 5 (m_ 14)]))) [(0,[.can 1 [0,3,5]]),(1,[.can 1 [4]]),(2,[.can 1 []])])
def JQ:XF:=.mk 26 (.one 4) (.aft (.seq (g_ 2 [e_ 0 3 (.box 45 (.t 1)),p_ 1 4 (.mv (i_ 0))]) (.seq (.seq (g_ 1 [p_ 0 5 (.mv (i_ 0))]) (.block 2 (.pre [.can 1 [0,3,5],.up 5,.can 1 [0,3,5]] (.inv 0 xq)))) (.seq (g_ 1 [p_ 0 4 (.mv (.c (.int 0 (.negSucc 0))))]) .ret))) [(0,[.up 4]),(1,[.up 4])])
theorem Mi:bT Tryz.prog 61 JQ=true:=by kernel_rfl
structure ey where
 g:bW
 d:ID
 i:Int
structure rQ where
 z:Int
def DS (p:ey):Prop:=¬∃y∈p.g.b,y.id=p.d
def Bg (p:ey) (r:rQ):Prop:=0≤r.z∧∃y∈p.g.b,y.id=p.d
noncomputable def ig (p:ey):IL:=((.cons 5 (.sy (.int 0 p.i)) (.cons 3 (.ptr 1 0) (.cons 0 (.ptr 0 0) .nil))),(Rbn p.g p.d),10)
noncomputable def uu (p:ey) (K:KC):Bool:=ac (iP (DS p) (K 2 .nil (ba p.g) 9) true) (aA fun r:rQ=>iP (Bg p r) (K 1 (.cons 4 (.sy (.int 0 r.z)) .nil) (ba p.g) 9) true)
def iB (p:ey):Prop:=(p.g.b.length≤80∧0≤p.i∧p.i≤(p.g.b.length:Int))∧∀(j:Nat) y,(j:Int)<p.i→p.g.b[j]?=some y→¬y.id=p.d
noncomputable def ru (p:ey) (K:KC):Bool:=ac (au (iB p)) (uu p K)
noncomputable def wd:ft:=fun j S M nx K=>(Bool.rec (false) (aI fun p:ey=>ac (au ((S,M,nx)=ig p)) (ru p K)) (Nat.beq j 0))
def gk (p:ey):Nat:=((p.g.b.length:Int) - p.i).toNat
noncomputable def Ep (s:IL) (n:Nat) (K:KC):Bool:=aI fun q=>mP (s=ig q∧gk q<n) (ru q K)
theorem OF {p q:ey} {K:KC} {s:IL} (hm:gk q<gk p:=by dsimp only[gk]<;>(omega)) (hp:iB q:=by dsimp only[iB]<;>(exact⟨by omega,vd g1 (by omega) (by assumption:p.g.b[p.i.toNat]?=some x1) (by assumption)⟩)) (hK:uu q K=true:=by exact(by first|exact hK|exact aM hK0 hK1)) (e:s=ig q:=by rfl):Ep s (gk p) K=true:=aG q (bf ⟨e,hm⟩ (bf hp hK))
theorem NQ (p:ey) (K:KC) (hpre:iB p) (hK:uu p K=true):(cQ (bH Db) wd 600 xq (ig p).1 (ig p).2.1 (ig p).2.2 (fun e S M nx=>Nat.casesOn e (aI fun q:ey=>ac (au ((S,M,nx)=ig q∧gk q<gk p)) (ru q K)) (fun e2=>K (Nat.succ e2) S M nx)))=true:=by
 refine Eq.trans (b:=(iP (p.i<(p.g.b.length:Int)) (mP (0≤p.i∧p.i<(p.g.b.length:Int)) (mP (p.i.toNat<p.g.b.length) (aA fun x1:BgR=>iP (p.g.b[p.i.toNat]?=some x1) (sH (⟨⟨x1.id.client.node,x1.id.client.life⟩,x1.id.seq,x1.id.depth,⟨x1.id.p0.group,x1.id.p0.index⟩,⟨x1.id.p1.group,x1.id.p1.index⟩,⟨x1.id.p2.group,x1.id.p2.index⟩⟩:ID) p.d (K 1 (.cons 4 (.sy (.int 0 p.i)) .nil) (ba p.g) 9) (mP (aL 0 (p.i+(1:Int))) (Ep ((.cons 5 (.sy (.int 0 (p.i+(1:Int)))) (.cons 3 (.ptr 1 0) (.cons 0 (.ptr 0 0) .nil))),(Rbn p.g p.d),10) (gk p) K))) true))) (K 2 .nil (ba p.g) 9))) (by kernel_rfl) ?_
 obtain⟨hK0,hKr0⟩:=aw hK
 have hK1:=hKr0
 dsimp only[iB]at hpre
 obtain⟨g0,g1⟩:=hpre
 refine iI (fun hc1=> ?_) (fun hc1=> ?_)
 refine dL (fX ?_)
 refine aB (fun x1=> ?_)
 refine iI (fun hi2=> ?_) (fun _=>rfl)
 refine pm (fun hc3=> ?_) (fun hc3=> ?_)
 exact aP (show 0≤p.i∧∃y∈p.g.b,y.id=p.d from(by exact⟨by omega,x1,acH (by assumption:p.g.b[p.i.toNat]?=some x1),(by assumption)⟩)) (aF hK1 (⟨p.i⟩:rQ))
 refine aN ?_
 exact OF (q:=⟨p.g,p.d,p.i+(1:Int)⟩)
 exact aP (show¬∃y∈p.g.b,y.id=p.d from(by exact SS g1 (by omega))) hK0
theorem Oc:dI Tryz.prog 26 1 wd true 0 xq:=by
 exact dM (lf:=600) bv (aT zN) (by rfl) ig gk ru (fun b j x h=>by cases h) (fun S M nx K h=>by obtain⟨p,h⟩:=bL h;exact⟨p,(aa h).1,(aa h).2⟩) (fun p K h=>NQ p K (aa h).1 (aa h).2)
structure mN where
 g:bW
 d:ID
structure FX where
 z:Int
def kn (p:mN) (r:FX):Prop:=(0≤r.z→∃y∈p.g.b,y.id=p.d)∧(r.z<0→¬∃y∈p.g.b,y.id=p.d)
noncomputable def rd (p:mN):IE:=([.ptr 0 0,.agg (ee p.d)],(ba p.g),9)
noncomputable def yP (p:mN) (K:KE):Bool:=aA fun r:FX=>iP (kn p r) (K (.sy (.int 0 r.z)) (ba p.g) 9) true
def kx (p:mN):Prop:=p.g.b.length≤80
theorem Hd {p:mN} {K:KE} (hK:yP p K=true) (r:FX) (h:kn p r):K (.sy (.int 0 r.z)) (ba p.g) 9=true:=aP h (aF hK r)
theorem RY (p:mN) (K:KE) (hpre:kx p) (hK:yP p K=true):(bZ 1 (bH Db) wd 600 JQ (rd p).1 (rd p).2.1 (rd p).2.2 K)=true:=by
 refine Eq.trans (b:=(aI fun p1:ey=>mP (((.cons 5 (.sy (.int 0 0)) (.cons 3 (.ptr 1 0) (.cons 0 (.ptr 0 0) .nil))),(Rbn p.g p.d),10)=ig p1) (mP (iB p1) (ac (iP (DS p1) (K (.sy (.int 0 (-1))) (ba p1.g) 9) true) (aA fun r1:rQ=>iP (Bg p1 r1) (K (.sy (.int 0 r1.z)) (ba p1.g) 9) true))))) (by kernel_rfl) ?_
 dsimp only[kx]at hpre
 refine dG (⟨p.g,p.d,(0:Int)⟩:ey) rfl (by(try dsimp only[iB]);exact⟨by omega,fun j y h1 h2=>by omega⟩) ?_
 refine aM ?_ ?_
 refine iI (p:=¬∃y∈p.g.b,y.id=p.d) (fun hi1=> ?_) (fun _=>rfl)
 exact Hd hK ⟨((-1):Int)⟩ (by dsimp only[kn]<;>(first|exact⟨fun z=>absurd z (by decide),fun _=>hi1⟩|exact⟨fun _=>hi1.2,fun z=>absurd z (by omega)⟩))
 refine aB (fun r1=> ?_)
 refine iI (p:=0≤r1.z∧∃y∈p.g.b,y.id=p.d) (fun hi2=> ?_) (fun _=>rfl)
 exact Hd hK ⟨r1.z⟩ (by dsimp only[kn]<;>(first|exact⟨fun z=>absurd z (by decide),fun _=>hi2⟩|exact⟨fun _=>hi2.2,fun z=>absurd z (by omega)⟩))
noncomputable def zF:=bM Db 1 (ce rd (dD kx yP)) 61 [(1,15)]
theorem AM:be Tryz.prog zF:=aY (bV (f:=61) (k:=1) (lp:=wd) (lf:=600) bv (aT zN) Mi (by rfl) (fun b j x h=>(cd Oc (fun h=>(by cases h)) h)) fun p K h=>RY p K (aa h).1 (aa h).2) zN
def JT:XF:=.mk 20 (.one 4) (.aft (.seq (g_ 2 [e_ 0 3 (.box 48 (.t 1)),p_ 1 4 (.mv (.c (.bool false)))]) (.seq (.seq (g_ 5 [p_ 0 5 (m_ 0),p_ 1 6 (f_ 0 3),r_ 2 7 (.ld true 10 (.t 6)),c_ 3 8 61 [.t 5,.t 7],p_ 4 9 (.bin 3 3 (.t 8) (i_ 0))]) (.cond (.t 9) (.seq (g_ 1 [p_ 0 4 (.mv (.c (.bool false)))]) .ret) .skip)) (.seq (h_ 11 [p_ 0 10 (m_ 0),p_ 1 11 (m_ 0),p_ 2 12 (n_ 11),p_ 3 13 (f_ 0 12),r_ 4 14 (l_ 13),r_ 5 15 (.ld true 14 (.t 3)),e_ 6 16 (.bsl 48 14 1 [.int 1 (.ofNat 0),.int 2 (.ofNat 0),.int 3 (.ofNat 0),.int 1 (.ofNat 0),.int 1 (.ofNat 0),.int 1 (.ofNat 0),.int 1 (.ofNat 0),.int 1 (.ofNat 0),.int 1 (.ofNat 0),.int 1 (.ofNat 0),.int 1 (.ofNat 0),.int 0 (.ofNat 0),.int 0 (.ofNat 0),.nilS] [(0,14)] [.t 15]),a_ 4 14 (l_ 13),e_ 7 17 (.app 48 14 64 (.t 14) (.t 16)),p_ 8 18 (n_ 10),p_ 9 19 (f_ 0 18),cA 10 (.st 1 (.t 19) (.t 17))]) (.seq (g_ 1 [p_ 0 4 (.mv (.c (.bool true)))]) .ret)))) [(0,[.up 4]),(1,[.up 4])])
theorem Mj:bT Tryz.prog 25 JT=true:=by kernel_rfl
structure oS where
 g:bW
 v:BgR
structure FY where
 b:List BgR
 q:Prop
def oZ (p:oS) (r:FY):Prop:=r.b.map bN=td (p.g.b.map bN) (bN p.v)∧(∀x∈r.b,jS x)∧r.b.length≤p.g.b.length+1
noncomputable def vk (p:oS):IE:=([.ptr 0 0,.agg (KU p.v)],(ba p.g),9)
noncomputable def yQ (p:oS) (K:KE):Bool:=aA fun r:FY=>iP (oZ p r) (K (.sy (.bool r.q)) (ba ({p.g with b:=r.b}:bW)) 9) true
def pL (p:oS):Prop:=(∀x∈p.g.b,jS x)∧jS p.v∧p.g.b.length≤80
theorem He {p:oS} {K:KE} (hK:yQ p K=true) (r:FY) (h:oZ p r):K (.sy (.bool r.q)) (ba ({p.g with b:=r.b}:bW)) 9=true:=aP h (aF hK r)
theorem RZ (p:oS) (K:KE) (hpre:pL p) (hK:yQ p K=true):(bZ 1 (bH zF) dT 600 JT (vk p).1 (vk p).2.1 (vk p).2.2 K)=true:=by
 refine Eq.trans (b:=(aX (([.ptr 0 0,.agg (ee p.v.id)],(ba p.g),9)) rd kx kn fun p1 r1=>iP ((0:Int)≤r1.z) (K (.sy (.bool (false=true))) (ba p1.g) 9) (mP (((.prow 11 p1.g.b.length):SY)=(.prow 11 p1.g.b.length)) (mP (p1.g.b.length=p1.g.b.length) (aI fun m1:List BgR=>mP (dx (m1.map bo) [[.sint 1 p.v.id.client.node,.sint 2 p.v.id.client.life,.sint 3 p.v.id.seq,.sint 1 p.v.id.depth,.sint 1 p.v.id.p0.group,.sint 1 p.v.id.p0.index,.sint 1 p.v.id.p1.group,.sint 1 p.v.id.p1.index,.sint 1 p.v.id.p2.group,.sint 1 p.v.id.p2.index,.sint 1 p.v.g,.sint 0 p.v.mode,.sint 0 p.v.at_,.imm p.v.hp 5 aW p.v.ps encP]]) (mP (dh 64 (p1.g.b.length+m1.length)) (K (.sy (.bool (true=true))) (ba ({p1.g with b:=p1.g.b++m1}:bW)) 9))))))) (by kernel_rfl) ?_
 dsimp only[pL]at hpre
 obtain⟨g0,g1,g2⟩:=hpre
 refine aJ (⟨p.g,p.v.id⟩:mN) rfl (by(try dsimp only[kx]);omega) fun r1 hi1=> ?_
 dsimp only[kn]at hi1
 refine iI (fun hc2=> ?_) (fun hc2=> ?_)
 exact He hK ⟨p.g.b,false=true⟩ (by dsimp only[oZ]<;>(have hz:=(by assumption:(_→∃y∈p.g.b,y.id=_)∧_);first|exact SD g0 (hz.1 (by omega))|exact SE g0 (hz.2 (by omega)) g1))
 refine az (az ?_)
 refine aG [p.v] ?_
 refine jN ?_
 refine li ?_
 exact He hK ⟨p.g.b++[p.v],true=true⟩ (by dsimp only[oZ]<;>(have hz:=(by assumption:(_→∃y∈p.g.b,y.id=_)∧_);first|exact SD g0 (hz.1 (by omega))|exact SE g0 (hz.2 (by omega)) g1))
noncomputable def tw:=bM zF 1 (ce vk (dD pL yQ)) 25 [(1,15)]
theorem sW:be Tryz.prog tw:=aY (cX (f:=25) (k:=1) (aT AM) Mj (by rfl) (by rfl) RZ) AM
def Cn:XC:=(.aft (.seq (.seq (g_ 7 [p_ 0 6 (m_ 5),p_ 1 7 (m_ 0),p_ 2 8 (n_ 7),p_ 3 9 (f_ 1 8),r_ 4 10 (l_ 9),p_ 5 11 (k_ 10),p_ 6 12 (.bin 3 0 (.t 6) (.t 11))]) (.cond (.t 12) .skip (.exit 2))) (.seq (.block 3 (.seq (h_ 11 [p_ 0 15 (m_ 0),p_ 1 16 (n_ 15),p_ 2 17 (f_ 1 16),r_ 3 18 (l_ 17),p_ 4 19 (m_ 5),p_ 5 20 (.ixs 17 (.t 18) (.t 19)),p_ 6 21 (f_ 0 20),r_ 7 22 (.ld true 10 (.t 21)),p_ 8 23 (f_ 0 3),r_ 9 24 (.ld true 10 (.t 23)),p_ 10 25 (.eqs false 4 (.st [(0,2,true,.st [(0,1,false,.int),(1,1,false,.int)]),(2,1,false,.int),(3,1,false,.int),(4,6,true,.ar [0,2,4] 2 true (.st [(0,1,false,.int),(1,1,false,.int)]))]) (.t 22) (.t 24))]) (.cond (.t 25) (.seq (g_ 1 [p_ 0 4 (.mv (.c (.bool false)))]) .ret) .skip))) (g_ 3 [p_ 0 13 (m_ 5),p_ 1 14 (.bin 0 0 (.t 13) (i_ 1)),p_ 2 5 (m_ 14)]))) [(0,[.can 1 [0,3,5]]),(1,[.can 1 [4]]),(2,[.can 1 [0,3]])])
def Po:XF:=.mk 41 (.one 4) (.aft (.seq (g_ 2 [e_ 0 3 (.box 52 (.t 1)),p_ 1 4 (.mv (.c (.bool false)))]) (.seq (.seq (g_ 1 [p_ 0 5 (.mv (i_ 0))]) (.block 2 (.pre [.can 1 [0,3,5],.up 5,.can 1 [0,3,5]] (.inv 0 Cn)))) (.seq (.seq (g_ 5 [p_ 0 26 (m_ 0),p_ 1 27 (f_ 0 3),r_ 2 28 (.ld true 10 (.t 27)),c_ 3 29 61 [.t 26,.t 28],p_ 4 30 (.bin 3 0 (.t 29) (i_ 0))]) (.cond (.t 30) (.seq (g_ 1 [p_ 0 4 (.mv (.c (.bool false)))]) .ret) .skip)) (.seq (h_ 11 [p_ 0 31 (m_ 0),p_ 1 32 (m_ 0),p_ 2 33 (n_ 32),p_ 3 34 (f_ 1 33),r_ 4 35 (l_ 34),r_ 5 36 (.ld true 17 (.t 3)),e_ 6 37 (.bsl 52 17 1 [.int 1 (.ofNat 0),.int 2 (.ofNat 0),.int 3 (.ofNat 0),.int 1 (.ofNat 0),.int 1 (.ofNat 0),.int 1 (.ofNat 0),.int 1 (.ofNat 0),.int 1 (.ofNat 0),.int 1 (.ofNat 0),.int 1 (.ofNat 0),.int 1 (.ofNat 0),.int 0 (.ofNat 0),.int 0 (.ofNat 0),.int 0 (.ofNat 0),.int 0 (.ofNat 0),.int 1 (.ofNat 0),.str []] [(0,17)] [.t 36]),a_ 4 35 (l_ 34),e_ 7 38 (.app 52 17 80 (.t 35) (.t 37)),p_ 8 39 (n_ 31),p_ 9 40 (f_ 1 39),cA 10 (.st 1 (.t 40) (.t 38))]) (.seq (g_ 1 [p_ 0 4 (.mv (.c (.bool true)))]) .ret))))) [(0,[.up 4]),(1,[.up 4])])
theorem QX:bT Tryz.prog 26 Po=true:=by kernel_rfl
structure fV where
 g:bW
 v:EdR
 i:Int
def Jr (p:fV):Prop:=¬∃y∈p.g.e,y.id=p.v.id
def Gy (p:fV):Prop:=∃y∈p.g.e,y.id=p.v.id
noncomputable def kV (p:fV):IL:=((.cons 5 (.sy (.int 0 p.i)) (.cons 3 (.ptr 1 0) (.cons 0 (.ptr 0 0) .nil))),(Ren p.g p.v),10)
noncomputable def yY (p:fV) (K:KC):Bool:=ac (iP (Jr p) (K 2 (.cons 3 (.ptr 1 0) (.cons 0 (.ptr 0 0) .nil)) (Ren p.g p.v) 10) true) (iP (Gy p) (K 1 (.cons 4 (.bool false) .nil) (ba p.g) 9) true)
def kE (p:fV):Prop:=(p.g.e.length≤80∧0≤p.i∧p.i≤(p.g.e.length:Int))∧∀(j:Nat) y,(j:Int)<p.i→p.g.e[j]?=some y→¬y.id=p.v.id
noncomputable def vH (p:fV) (K:KC):Bool:=ac (au (kE p)) (yY p K)
noncomputable def Dh:ft:=fun j S M nx K=>(Bool.rec (false) (aI fun p:fV=>ac (au ((S,M,nx)=kV p)) (vH p K)) (Nat.beq j 0))
def jn (p:fV):Nat:=((p.g.e.length:Int) - p.i).toNat
noncomputable def Kt (s:IL) (n:Nat) (K:KC):Bool:=aI fun q=>mP (s=kV q∧jn q<n) (vH q K)
theorem Ua {p q:fV} {K:KC} {s:IL} (hm:jn q<jn p:=by dsimp only[jn]<;>(omega)) (hp:kE q:=by dsimp only[kE]<;>(exact⟨by omega,vd g1 (by omega) (by assumption:p.g.e[p.i.toNat]?=some x1) (by assumption)⟩)) (hK:yY q K=true:=by exact(by first|exact hK|exact aM hK0 hK1)) (e:s=kV q:=by rfl):Kt s (jn p) K=true:=aG q (bf ⟨e,hm⟩ (bf hp hK))
theorem So (p:fV) (K:KC) (hpre:kE p) (hK:yY p K=true):(cQ (bH tw) Dh 600 Cn (kV p).1 (kV p).2.1 (kV p).2.2 (fun e S M nx=>Nat.casesOn e (aI fun q:fV=>ac (au ((S,M,nx)=kV q∧jn q<jn p)) (vH q K)) (fun e2=>K (Nat.succ e2) S M nx)))=true:=by
 refine Eq.trans (b:=(iP (p.i<(p.g.e.length:Int)) (mP (0≤p.i∧p.i<(p.g.e.length:Int)) (mP (p.i.toNat<p.g.e.length) (aA fun x1:EdR=>iP (p.g.e[p.i.toNat]?=some x1) (sH (⟨⟨x1.id.client.node,x1.id.client.life⟩,x1.id.seq,x1.id.depth,⟨x1.id.p0.group,x1.id.p0.index⟩,⟨x1.id.p1.group,x1.id.p1.index⟩,⟨x1.id.p2.group,x1.id.p2.index⟩⟩:ID) p.v.id (K 1 (.cons 4 (.bool false) .nil) (ba p.g) 9) (mP (aL 0 (p.i+(1:Int))) (Kt ((.cons 5 (.sy (.int 0 (p.i+(1:Int)))) (.cons 3 (.ptr 1 0) (.cons 0 (.ptr 0 0) .nil))),(Ren p.g p.v),10) (jn p) K))) true))) (K 2 (.cons 3 (.ptr 1 0) (.cons 0 (.ptr 0 0) .nil)) (Ren p.g p.v) 10))) (by kernel_rfl) ?_
 obtain⟨hK0,hKr0⟩:=aw hK
 have hK1:=hKr0
 dsimp only[kE]at hpre
 obtain⟨g0,g1⟩:=hpre
 refine iI (fun hc1=> ?_) (fun hc1=> ?_)
 refine dL (fX ?_)
 refine aB (fun x1=> ?_)
 refine iI (fun hi2=> ?_) (fun _=>rfl)
 refine pm (fun hc3=> ?_) (fun hc3=> ?_)
 exact aP (show∃y∈p.g.e,y.id=p.v.id from(by exact⟨x1,acH (by assumption:p.g.e[p.i.toNat]?=some x1),(by assumption)⟩)) hK1
 refine aN ?_
 exact Ua (q:=⟨p.g,p.v,p.i+(1:Int)⟩)
 exact aP (show¬∃y∈p.g.e,y.id=p.v.id from(by exact SS g1 (by omega))) hK0
theorem Td:dI Tryz.prog 41 1 Dh true 0 Cn:=by
 exact dM (lf:=600) bv (aT sW) (by rfl) kV jn vH (fun b j x h=>by cases h) (fun S M nx K h=>by obtain⟨p,h⟩:=bL h;exact⟨p,(aa h).1,(aa h).2⟩) (fun p K h=>So p K (aa h).1 (aa h).2)
structure vt where
 g:bW
 v:EdR
structure Ny where
 e:List EdR
 q:Prop
def qM (p:vt) (r:Ny):Prop:=r.e=qp (p.g.b.map bN) p.g.e p.v∧(∀x∈r.e,lE x)∧r.e.length≤p.g.e.length+1
noncomputable def CI (p:vt):IE:=([.ptr 0 0,.agg (tG p.v)],(ba p.g),9)
noncomputable def EX (p:vt) (K:KE):Bool:=aA fun r:Ny=>iP (qM p r) (K (.sy (.bool r.q)) (ba ({p.g with e:=r.e}:bW)) 9) true
def ue (p:vt):Prop:=(∀x∈p.g.e,lE x)∧lE p.v∧p.g.e.length≤80∧p.g.b.length≤80
theorem FB {p:vt} {K:KE} (hK:EX p K=true) (r:Ny) (h:qM p r):K (.sy (.bool r.q)) (ba ({p.g with e:=r.e}:bW)) 9=true:=aP h (aF hK r)
theorem Xf (p:vt) (K:KE) (hpre:ue p) (hK:EX p K=true):(bZ 1 (bH tw) Dh 600 Po (CI p).1 (CI p).2.1 (CI p).2.2 K)=true:=by
 refine Eq.trans (b:=(aI fun p1:fV=>mP (((.cons 5 (.sy (.int 0 0)) (.cons 3 (.ptr 1 0) (.cons 0 (.ptr 0 0) .nil))),(Ren p.g p.v),10)=kV p1) (mP (kE p1) (ac (iP (Jr p1) (aX (([.ptr 0 0,.agg (ee p1.v.id)],(ba p1.g),9)) rd kx kn fun p2 r1=>iP (r1.z<(0:Int)) (K (.sy (.bool (false=true))) (ba p2.g) 9) (mP (((.prow 12 p2.g.e.length):SY)=(.prow 12 p2.g.e.length)) (mP (p2.g.e.length=p2.g.e.length) (aI fun m1:List EdR=>mP (dx (m1.map bA) [[.sint 1 p1.v.id.client.node,.sint 2 p1.v.id.client.life,.sint 3 p1.v.id.seq,.sint 1 p1.v.id.depth,.sint 1 p1.v.id.p0.group,.sint 1 p1.v.id.p0.index,.sint 1 p1.v.id.p1.group,.sint 1 p1.v.id.p1.index,.sint 1 p1.v.id.p2.group,.sint 1 p1.v.id.p2.index,.sint 1 p1.v.g,.sint 0 p1.v.mode,.sint 0 p1.v.begun,.sint 0 p1.v.at_,.sint 0 p1.v.code,.sint 1 p1.v.rc,.sstr p1.v.rv]]) (mP (dh 80 (p2.g.e.length+m1.length)) (K (.sy (.bool (true=true))) (ba ({p2.g with e:=p2.g.e++m1}:bW)) 9)))))) true) (iP (Gy p1) (K (.sy (.bool (false=true))) (ba p1.g) 9) true))))) (by kernel_rfl) ?_
 dsimp only[ue]at hpre
 obtain⟨u0,u1,u2,u3⟩:=hpre
 refine dG (⟨p.g,p.v,(0:Int)⟩:fV) rfl (by(try dsimp only[kE]);exact⟨by omega,fun j y h1 h2=>by omega⟩) ?_
 refine aM ?_ ?_
 refine iI (p:=¬∃y∈p.g.e,y.id=p.v.id) (fun hi1=> ?_) (fun _=>rfl)
 refine aJ (⟨p.g,p.v.id⟩:mN) rfl (by(try dsimp only[kx]);omega) fun r1 hi2=> ?_
 dsimp only[kn]at hi2
 refine iI (fun hc3=> ?_) (fun hc3=> ?_)
 exact FB hK ⟨p.g.e,false=true⟩ (by dsimp only[qM]<;>(first|exact xD u0 (.inl hi2)|(have hz:=(by assumption:(_→∃y∈p.g.b,y.id=_)∧_);first|exact xD u0 (.inr fun q=>hz.2 (by omega) (ex_bgk.1 q))|exact Ls u0 (ex_bgk.2 (hz.1 (by omega))) (by assumption) u1)))
 refine az (az ?_)
 refine aG [p.v] ?_
 refine jN ?_
 refine li ?_
 exact FB hK ⟨p.g.e++[p.v],true=true⟩ (by dsimp only[qM]<;>(first|exact xD u0 (.inl hi2)|(have hz:=(by assumption:(_→∃y∈p.g.b,y.id=_)∧_);first|exact xD u0 (.inr fun q=>hz.2 (by omega) (ex_bgk.1 q))|exact Ls u0 (ex_bgk.2 (hz.1 (by omega))) (by assumption) u1)))
 refine iI (p:=∃y∈p.g.e,y.id=p.v.id) (fun hi4=> ?_) (fun _=>rfl)
 exact FB hK ⟨p.g.e,false=true⟩ (by dsimp only[qM]<;>(first|exact xD u0 (.inl hi4)|(have hz:=(by assumption:(_→∃y∈p.g.b,y.id=_)∧_);first|exact xD u0 (.inr fun q=>hz.2 (by omega) (ex_bgk.1 q))|exact Ls u0 (ex_bgk.2 (hz.1 (by omega))) (by assumption) u1)))
noncomputable def zD:=bM tw 1 (ce CI (dD ue EX)) 26 [(1,15)]
theorem wR:be Tryz.prog zD:=aY (bV (f:=26) (k:=1) (lp:=Dh) (lf:=600) bv (aT sW) QX (by rfl) (fun b j x h=>(cd Td (fun h=>(by cases h)) h)) fun p K h=>Xf p K (aa h).1 (aa h).2) sW
def Aj:XC:=(.aft (.seq (.seq (g_ 7 [p_ 0 7 (m_ 5),p_ 1 8 (m_ 0),p_ 2 9 (n_ 8),p_ 3 10 (f_ 2 9),r_ 4 11 (l_ 10),p_ 5 12 (k_ 11),p_ 6 13 (.bin 3 0 (.t 7) (.t 12))]) (.cond (.t 13) .skip (.exit 2))) (.seq (.block 3 (.seq (g_ 9 [p_ 0 16 (m_ 0),p_ 1 17 (n_ 16),p_ 2 18 (f_ 2 17),r_ 3 19 (l_ 18),p_ 4 20 (m_ 5),p_ 5 21 (.ixs 17 (.t 19) (.t 20)),r_ 6 22 (.ld true 17 (.t 21)),e_ 7 6 (.al 57 [.int 1 (.ofNat 0),.int 2 (.ofNat 0),.int 1 (.ofNat 0),.int 2 (.ofNat 0),.int 3 (.ofNat 0),.int 1 (.ofNat 0),.int 1 (.ofNat 0),.int 1 (.ofNat 0),.int 1 (.ofNat 0),.int 1 (.ofNat 0),.int 1 (.ofNat 0),.int 1 (.ofNat 0),.int 1 (.ofNat 0),.str [],.int 1 (.ofNat 0),.int 3 (.ofNat 0),.nilS]),cA 8 (.st 17 (.t 6) (.t 22))]) (.seq (g_ 37 [p_ 0 23 (f_ 0 6),r_ 1 24 (.ld true 2 (.t 23)),p_ 2 25 (f_ 0 3),r_ 3 26 (.ld true 2 (.t 25)),p_ 4 27 (.eqs false 2 (.st [(0,1,false,.int),(1,1,false,.int)]) (.t 24) (.t 26)),p_ 5 28 (m_ 27),aK 6 29 28 true (f_ 2 6),bU 7 30 28 true (.ld true 10 (.t 29)),aK 8 31 28 true (f_ 2 3),bU 9 32 28 true (.ld true 10 (.t 31)),aK 10 33 28 true (.eqs false 4 (.st [(0,2,true,.st [(0,1,false,.int),(1,1,false,.int)]),(2,1,false,.int),(3,1,false,.int),(4,6,true,.ar [0,2,4] 2 true (.st [(0,1,false,.int),(1,1,false,.int)]))]) (.t 30) (.t 32)),p_ 11 34 (.pick (.t 28) (.t 33) (.c (.bool false))),p_ 12 35 (m_ 34),aK 13 36 35 true (f_ 12 6),bU 14 37 35 true (.ld true 2 (.t 36)),aK 15 38 35 true (f_ 12 3),bU 16 39 35 true (.ld true 2 (.t 38)),aK 17 40 35 true (.eqs false 2 (.st [(0,1,false,.int),(1,1,false,.str)]) (.t 37) (.t 39)),p_ 18 41 (.pick (.t 35) (.t 40) (.c (.bool false))),p_ 19 42 (m_ 41),aK 20 43 42 true (f_ 14 6),aK 21 44 42 true (f_ 0 43),bU 22 45 42 true (l_ 44),aK 23 46 42 true (f_ 14 3),aK 24 47 42 true (f_ 0 46),bU 25 48 42 true (l_ 47),aK 26 49 42 true (.bin 3 4 (.t 45) (.t 48)),p_ 27 50 (.pick (.t 42) (.t 49) (.c (.bool false))),p_ 28 51 (m_ 50),aK 29 52 51 true (f_ 14 6),aK 30 53 51 true (f_ 1 52),bU 31 54 51 true (l_ 53),aK 32 55 51 true (f_ 14 3),aK 33 56 51 true (f_ 1 55),bU 34 57 51 true (l_ 56),aK 35 58 51 true (.bin 3 4 (.t 54) (.t 57)),p_ 36 59 (.pick (.t 51) (.t 58) (.c (.bool false)))]) (.cond (.t 59) (.seq (g_ 1 [p_ 0 4 (.mv (.c (.bool false)))]) .ret) .skip)))) (g_ 3 [p_ 0 14 (m_ 5),p_ 1 15 (.bin 0 0 (.t 14) (i_ 1)),p_ 2 5 (m_ 15)]))) [(0,[.can 1 [0,3,5]]),(1,[.can 1 [4]]),(2,[.can 1 [0,3]])])
def Mb:XF:=.mk 70 (.one 4) (.aft (.seq (g_ 2 [e_ 0 3 (.box 57 (.t 1)),p_ 1 4 (.mv (.c (.bool false)))]) (.seq (.seq (g_ 1 [p_ 0 5 (.mv (i_ 0))]) (.block 2 (.pre [.can 1 [0,3,5],.up 5,.can 1 [0,3,5]] (.inv 0 Aj)))) (.seq (h_ 11 [p_ 0 60 (m_ 0),p_ 1 61 (m_ 0),p_ 2 62 (n_ 61),p_ 3 63 (f_ 2 62),r_ 4 64 (l_ 63),r_ 5 65 (.ld true 17 (.t 3)),e_ 6 66 (.bsl 57 17 1 [.int 1 (.ofNat 0),.int 2 (.ofNat 0),.int 1 (.ofNat 0),.int 2 (.ofNat 0),.int 3 (.ofNat 0),.int 1 (.ofNat 0),.int 1 (.ofNat 0),.int 1 (.ofNat 0),.int 1 (.ofNat 0),.int 1 (.ofNat 0),.int 1 (.ofNat 0),.int 1 (.ofNat 0),.int 1 (.ofNat 0),.str [],.int 1 (.ofNat 0),.int 3 (.ofNat 0),.nilS] [(0,17)] [.t 65]),a_ 4 64 (l_ 63),e_ 7 67 (.app 57 17 80 (.t 64) (.t 66)),p_ 8 68 (n_ 60),p_ 9 69 (f_ 2 68),cA 10 (.st 1 (.t 69) (.t 67))]) (.seq (g_ 1 [p_ 0 4 (.mv (.c (.bool true)))]) .ret)))) [(0,[.up 4]),(1,[.up 4])])
theorem Ol:bT Tryz.prog 28 Mb=true:=by kernel_rfl
structure gF where
 g:bW
 v:cL
 i:Int
noncomputable def jv (p:gF):IL:=((.cons 5 (.sy (.int 0 p.i)) (.cons 3 (.ptr 1 0) (.cons 0 (.ptr 0 0) .nil))),(Ex p.g p.v),10)
noncomputable def wH (p:gF) (K:KC):Bool:=ac (K 2 (.cons 3 (.ptr 1 0) (.cons 0 (.ptr 0 0) .nil)) (Ex p.g p.v) 10) (K 1 (.cons 4 (.bool false) .nil) (ba p.g) 9)
def jA (p:gF):Prop:=p.g.t.length≤80∧0≤p.i∧p.i≤(p.g.t.length:Int)
noncomputable def th (p:gF) (K:KC):Bool:=ac (au (jA p)) (wH p K)
noncomputable def zR:ft:=fun j S M nx K=>(Bool.rec (false) (aI fun p:gF=>ac (au ((S,M,nx)=jv p)) (th p K)) (Nat.beq j 0))
def dY (p:gF):Nat:=((p.g.t.length:Int) - p.i).toNat
noncomputable def kR (s:IL) (n:Nat) (K:KC):Bool:=aI fun q=>mP (s=jv q∧dY q<n) (th q K)
theorem ny {p q:gF} {K:KC} {s:IL} (hm:dY q<dY p:=by dsimp only[dY]<;>(omega)) (hp:jA q:=by dsimp only[jA]<;>(omega)) (hK:wH q K=true:=by exact(by first|exact hK|exact aM hK0 hK1)) (e:s=jv q:=by rfl):kR s (dY p) K=true:=aG q (bf ⟨e,hm⟩ (bf hp hK))
theorem PX (p:gF) (K:KC) (hpre:jA p) (hK:wH p K=true):(cQ (bH zD) zR 600 Aj (jv p).1 (jv p).2.1 (jv p).2.2 (fun e S M nx=>Nat.casesOn e (aI fun q:gF=>ac (au ((S,M,nx)=jv q∧dY q<dY p)) (th q K)) (fun e2=>K (Nat.succ e2) S M nx)))=true:=by
 refine Eq.trans (b:=(iP (p.i<(p.g.t.length:Int)) (mP (0≤p.i∧p.i<(p.g.t.length:Int)) (mP (p.i.toNat<p.g.t.length) (aA fun x1:cL=>iP (p.g.t[p.i.toNat]?=some x1) (qZ (⟨x1.who.node,x1.who.life⟩:Proc) p.v.who (sH (⟨⟨x1.id.client.node,x1.id.client.life⟩,x1.id.seq,x1.id.depth,⟨x1.id.p0.group,x1.id.p0.index⟩,⟨x1.id.p1.group,x1.id.p1.index⟩,⟨x1.id.p2.group,x1.id.p2.index⟩⟩:ID) p.v.id (iP (x1.rc=p.v.rc) (iP (x1.rv=p.v.rv) (iP (x1.vg=p.v.vg) (iP (x1.vn=p.v.vn) (K 1 (.cons 4 (.bool false) .nil) (ba p.g) 9) (mP (aL 0 (p.i+(1:Int))) (kR ((.cons 5 (.sy (.int 0 (p.i+(1:Int)))) (.cons 3 (.ptr 1 0) (.cons 0 (.ptr 0 0) .nil))),(Ex p.g p.v),10) (dY p) K))) (mP (aL 0 (p.i+(1:Int))) (kR ((.cons 5 (.sy (.int 0 (p.i+(1:Int)))) (.cons 3 (.ptr 1 0) (.cons 0 (.ptr 0 0) .nil))),(Ex p.g p.v),10) (dY p) K))) (mP (aL 0 (p.i+(1:Int))) (kR ((.cons 5 (.sy (.int 0 (p.i+(1:Int)))) (.cons 3 (.ptr 1 0) (.cons 0 (.ptr 0 0) .nil))),(Ex p.g p.v),10) (dY p) K))) (mP (aL 0 (p.i+(1:Int))) (kR ((.cons 5 (.sy (.int 0 (p.i+(1:Int)))) (.cons 3 (.ptr 1 0) (.cons 0 (.ptr 0 0) .nil))),(Ex p.g p.v),10) (dY p) K))) (mP (aL 0 (p.i+(1:Int))) (kR ((.cons 5 (.sy (.int 0 (p.i+(1:Int)))) (.cons 3 (.ptr 1 0) (.cons 0 (.ptr 0 0) .nil))),(Ex p.g p.v),10) (dY p) K))) (mP (aL 0 (p.i+(1:Int))) (kR ((.cons 5 (.sy (.int 0 (p.i+(1:Int)))) (.cons 3 (.ptr 1 0) (.cons 0 (.ptr 0 0) .nil))),(Ex p.g p.v),10) (dY p) K))) true))) (K 2 (.cons 3 (.ptr 1 0) (.cons 0 (.ptr 0 0) .nil)) (Ex p.g p.v) 10))) (by kernel_rfl) ?_
 obtain⟨hK0,hKr0⟩:=aw hK
 have hK1:=hKr0
 dsimp only[jA]at hpre
 refine iI (fun hc1=> ?_) (fun hc1=> ?_)
 refine dL (fX ?_)
 refine aB (fun x1=> ?_)
 refine iI (fun hi2=> ?_) (fun _=>rfl)
 refine rN (fun hc3=> ?_) (fun hc3=> ?_)
 refine pm (fun hc4=> ?_) (fun hc4=> ?_)
 refine iI (fun hc5=> ?_) (fun hc5=> ?_)
 refine iI (fun hc6=> ?_) (fun hc6=> ?_)
 refine iI (fun hc7=> ?_) (fun hc7=> ?_)
 refine iI (fun hc8=> ?_) (fun hc8=> ?_)
 exact hK1
 refine aN ?_
 exact ny (q:=⟨p.g,p.v,p.i+(1:Int)⟩)
 refine aN ?_
 exact ny (q:=⟨p.g,p.v,p.i+(1:Int)⟩)
 refine aN ?_
 exact ny (q:=⟨p.g,p.v,p.i+(1:Int)⟩)
 refine aN ?_
 exact ny (q:=⟨p.g,p.v,p.i+(1:Int)⟩)
 refine aN ?_
 exact ny (q:=⟨p.g,p.v,p.i+(1:Int)⟩)
 refine aN ?_
 exact ny (q:=⟨p.g,p.v,p.i+(1:Int)⟩)
 exact hK0
theorem QJ:dI Tryz.prog 70 1 zR true 0 Aj:=by
 exact dM (lf:=600) bv (aT wR) (by rfl) jv dY th (fun b j x h=>by cases h) (fun S M nx K h=>by obtain⟨p,h⟩:=bL h;exact⟨p,(aa h).1,(aa h).2⟩) (fun p K h=>PX p K (aa h).1 (aa h).2)
structure rm where
 g:bW
 v:cL
structure IX where
 t:List cL
 q:Prop
def qK (p:rm) (r:IX):Prop:=r.t.length≤p.g.t.length+1
noncomputable def ym (p:rm):IE:=([.ptr 0 0,.agg (Ho p.v)],(ba p.g),9)
noncomputable def Bk (p:rm) (K:KE):Bool:=aA fun r:IX=>iP (qK p r) (K (.sy (.bool r.q)) (ba ({p.g with t:=r.t}:bW)) 9) true
def rU (p:rm):Prop:=p.g.t.length≤80
theorem Kf {p:rm} {K:KE} (hK:Bk p K=true) (r:IX) (h:qK p r):K (.sy (.bool r.q)) (ba ({p.g with t:=r.t}:bW)) 9=true:=aP h (aF hK r)
theorem Uj (p:rm) (K:KE) (hpre:rU p) (hK:Bk p K=true):(bZ 1 (bH zD) zR 600 Mb (ym p).1 (ym p).2.1 (ym p).2.2 K)=true:=by
 refine Eq.trans (b:=(aI fun p1:gF=>mP (((.cons 5 (.sy (.int 0 0)) (.cons 3 (.ptr 1 0) (.cons 0 (.ptr 0 0) .nil))),(Ex p.g p.v),10)=jv p1) (mP (jA p1) (ac (mP (((.prow 4 p1.g.t.length):SY)=(.prow 4 p1.g.t.length)) (mP (p1.g.t.length=p1.g.t.length) (aI fun m1:List cL=>mP (dx (m1.map co) [[.sint 1 p1.v.who.node,.sint 2 p1.v.who.life,.sint 1 p1.v.id.client.node,.sint 2 p1.v.id.client.life,.sint 3 p1.v.id.seq,.sint 1 p1.v.id.depth,.sint 1 p1.v.id.p0.group,.sint 1 p1.v.id.p0.index,.sint 1 p1.v.id.p1.group,.sint 1 p1.v.id.p1.index,.sint 1 p1.v.id.p2.group,.sint 1 p1.v.id.p2.index,.sint 1 p1.v.rc,.sstr p1.v.rv,.sint 1 p1.v.vg,.sint 3 p1.v.vn,.imm p1.v.hm 2 Proc p1.v.ms bJ]]) (mP (dh 80 (p1.g.t.length+m1.length)) (K (.sy (.bool (true=true))) (ba ({p1.g with t:=p1.g.t++m1}:bW)) 9))))) (K (.sy (.bool (false=true))) (ba p1.g) 9))))) (by kernel_rfl) ?_
 dsimp only[rU]at hpre
 refine dG (⟨p.g,p.v,(0:Int)⟩:gF) rfl (by(try dsimp only[jA]);omega) ?_
 refine aM ?_ ?_
 refine az (az ?_)
 refine aG [p.v] ?_
 refine jN ?_
 refine li ?_
 exact Kf hK ⟨p.g.t++[p.v],true=true⟩ (by dsimp only[qK]<;>(first|omega|(simp only[acC,acD,acF];omega)))
 exact Kf hK ⟨p.g.t,false=true⟩ (by dsimp only[qK]<;>(first|omega|(simp only[acC,acD,acF];omega)))
noncomputable def vQ:=bM zD 1 (ce ym (dD rU Bk)) 28 [(1,15)]
theorem uz:be Tryz.prog vQ:=aY (bV (f:=28) (k:=1) (lp:=zR) (lf:=600) bv (aT wR) Ol (by rfl) (fun b j x h=>(cd QJ (fun h=>(by cases h)) h)) fun p K h=>Uj p K (aa h).1 (aa h).2) wR
def Ck:XC:=(.aft (.seq (.seq (g_ 7 [p_ 0 7 (m_ 5),p_ 1 8 (m_ 0),p_ 2 9 (n_ 8),p_ 3 10 (f_ 3 9),r_ 4 11 (l_ 10),p_ 5 12 (k_ 11),p_ 6 13 (.bin 3 0 (.t 7) (.t 12))]) (.cond (.t 13) .skip (.exit 2))) (.seq (.block 3 (.seq (g_ 9 [p_ 0 16 (m_ 0),p_ 1 17 (n_ 16),p_ 2 18 (f_ 3 17),r_ 3 19 (l_ 18),p_ 4 20 (m_ 5),p_ 5 21 (.ixs 5 (.t 19) (.t 20)),r_ 6 22 (.ld true 5 (.t 21)),e_ 7 6 (.al 59 [.int 1 (.ofNat 0),.int 2 (.ofNat 0),.int 1 (.ofNat 0),.int 3 (.ofNat 0),.nilS]),cA 8 (.st 5 (.t 6) (.t 22))]) (.seq (g_ 23 [p_ 0 23 (f_ 0 6),r_ 1 24 (.ld true 2 (.t 23)),p_ 2 25 (f_ 0 3),r_ 3 26 (.ld true 2 (.t 25)),p_ 4 27 (.eqs false 2 (.st [(0,1,false,.int),(1,1,false,.int)]) (.t 24) (.t 26)),p_ 5 28 (m_ 27),aK 6 29 28 true (f_ 2 6),aK 7 30 28 true (f_ 0 29),bU 8 31 28 true (l_ 30),aK 9 32 28 true (f_ 2 3),aK 10 33 28 true (f_ 0 32),bU 11 34 28 true (l_ 33),aK 12 35 28 true (.bin 3 4 (.t 31) (.t 34)),p_ 13 36 (.pick (.t 28) (.t 35) (.c (.bool false))),p_ 14 37 (m_ 36),aK 15 38 37 true (f_ 2 6),aK 16 39 37 true (f_ 1 38),bU 17 40 37 true (l_ 39),aK 18 41 37 true (f_ 2 3),aK 19 42 37 true (f_ 1 41),bU 20 43 37 true (l_ 42),aK 21 44 37 true (.bin 3 4 (.t 40) (.t 43)),p_ 22 45 (.pick (.t 37) (.t 44) (.c (.bool false)))]) (.cond (.t 45) (.seq (g_ 1 [p_ 0 4 (.mv (.c (.bool false)))]) .ret) .skip)))) (g_ 3 [p_ 0 14 (m_ 5),p_ 1 15 (.bin 0 0 (.t 14) (i_ 1)),p_ 2 5 (m_ 15)]))) [(0,[.can 1 [0,3,5]]),(1,[.can 1 [4]]),(2,[.can 1 [0,3]])])
def Pm:XF:=.mk 56 (.one 4) (.aft (.seq (g_ 2 [e_ 0 3 (.box 59 (.t 1)),p_ 1 4 (.mv (.c (.bool false)))]) (.seq (.seq (g_ 1 [p_ 0 5 (.mv (i_ 0))]) (.block 2 (.pre [.can 1 [0,3,5],.up 5,.can 1 [0,3,5]] (.inv 0 Ck)))) (.seq (h_ 11 [p_ 0 46 (m_ 0),p_ 1 47 (m_ 0),p_ 2 48 (n_ 47),p_ 3 49 (f_ 3 48),r_ 4 50 (l_ 49),r_ 5 51 (.ld true 5 (.t 3)),e_ 6 52 (.bsl 59 5 1 [.int 1 (.ofNat 0),.int 2 (.ofNat 0),.int 1 (.ofNat 0),.int 3 (.ofNat 0),.nilS] [(0,5)] [.t 51]),a_ 4 50 (l_ 49),e_ 7 53 (.app 59 5 40 (.t 50) (.t 52)),p_ 8 54 (n_ 46),p_ 9 55 (f_ 3 54),cA 10 (.st 1 (.t 55) (.t 53))]) (.seq (g_ 1 [p_ 0 4 (.mv (.c (.bool true)))]) .ret)))) [(0,[.up 4]),(1,[.up 4])])
theorem QV:bT Tryz.prog 29 Pm=true:=by kernel_rfl
structure iN where
 g:bW
 v:cM
 i:Int
noncomputable def kS (p:iN):IL:=((.cons 5 (.sy (.int 0 p.i)) (.cons 3 (.ptr 1 0) (.cons 0 (.ptr 0 0) .nil))),(Nu p.g p.v),10)
noncomputable def yW (p:iN) (K:KC):Bool:=ac (K 2 (.cons 3 (.ptr 1 0) (.cons 0 (.ptr 0 0) .nil)) (Nu p.g p.v) 10) (K 1 (.cons 4 (.bool false) .nil) (ba p.g) 9)
def kC (p:iN):Prop:=p.g.s.length≤80∧0≤p.i∧p.i≤(p.g.s.length:Int)
noncomputable def vE (p:iN) (K:KC):Bool:=ac (au (kC p)) (yW p K)
noncomputable def Df:ft:=fun j S M nx K=>(Bool.rec (false) (aI fun p:iN=>ac (au ((S,M,nx)=kS p)) (vE p K)) (Nat.beq j 0))
def gC (p:iN):Nat:=((p.g.s.length:Int) - p.i).toNat
noncomputable def wz (s:IL) (n:Nat) (K:KC):Bool:=aI fun q=>mP (s=kS q∧gC q<n) (vE q K)
theorem Ci {p q:iN} {K:KC} {s:IL} (hm:gC q<gC p:=by dsimp only[gC]<;>(omega)) (hp:kC q:=by dsimp only[kC]<;>(omega)) (hK:yW q K=true:=by exact(by first|exact hK|exact aM hK0 hK1)) (e:s=kS q:=by rfl):wz s (gC p) K=true:=aG q (bf ⟨e,hm⟩ (bf hp hK))
theorem Sl (p:iN) (K:KC) (hpre:kC p) (hK:yW p K=true):(cQ (bH vQ) Df 600 Ck (kS p).1 (kS p).2.1 (kS p).2.2 (fun e S M nx=>Nat.casesOn e (aI fun q:iN=>ac (au ((S,M,nx)=kS q∧gC q<gC p)) (vE q K)) (fun e2=>K (Nat.succ e2) S M nx)))=true:=by
 refine Eq.trans (b:=(iP (p.i<(p.g.s.length:Int)) (mP (0≤p.i∧p.i<(p.g.s.length:Int)) (mP (p.i.toNat<p.g.s.length) (aA fun x1:cM=>iP (p.g.s[p.i.toNat]?=some x1) (qZ (⟨x1.who.node,x1.who.life⟩:Proc) p.v.who (iP (x1.vg=p.v.vg) (iP (x1.vn=p.v.vn) (K 1 (.cons 4 (.bool false) .nil) (ba p.g) 9) (mP (aL 0 (p.i+(1:Int))) (wz ((.cons 5 (.sy (.int 0 (p.i+(1:Int)))) (.cons 3 (.ptr 1 0) (.cons 0 (.ptr 0 0) .nil))),(Nu p.g p.v),10) (gC p) K))) (mP (aL 0 (p.i+(1:Int))) (wz ((.cons 5 (.sy (.int 0 (p.i+(1:Int)))) (.cons 3 (.ptr 1 0) (.cons 0 (.ptr 0 0) .nil))),(Nu p.g p.v),10) (gC p) K))) (mP (aL 0 (p.i+(1:Int))) (wz ((.cons 5 (.sy (.int 0 (p.i+(1:Int)))) (.cons 3 (.ptr 1 0) (.cons 0 (.ptr 0 0) .nil))),(Nu p.g p.v),10) (gC p) K))) true))) (K 2 (.cons 3 (.ptr 1 0) (.cons 0 (.ptr 0 0) .nil)) (Nu p.g p.v) 10))) (by kernel_rfl) ?_
 obtain⟨hK0,hKr0⟩:=aw hK
 have hK1:=hKr0
 dsimp only[kC]at hpre
 refine iI (fun hc1=> ?_) (fun hc1=> ?_)
 refine dL (fX ?_)
 refine aB (fun x1=> ?_)
 refine iI (fun hi2=> ?_) (fun _=>rfl)
 refine rN (fun hc3=> ?_) (fun hc3=> ?_)
 refine iI (fun hc4=> ?_) (fun hc4=> ?_)
 refine iI (fun hc5=> ?_) (fun hc5=> ?_)
 exact hK1
 refine aN ?_
 exact Ci (q:=⟨p.g,p.v,p.i+(1:Int)⟩)
 refine aN ?_
 exact Ci (q:=⟨p.g,p.v,p.i+(1:Int)⟩)
 refine aN ?_
 exact Ci (q:=⟨p.g,p.v,p.i+(1:Int)⟩)
 exact hK0
theorem Ta:dI Tryz.prog 56 1 Df true 0 Ck:=by
 exact dM (lf:=600) bv (aT uz) (by rfl) kS gC vE (fun b j x h=>by cases h) (fun S M nx K h=>by obtain⟨p,h⟩:=bL h;exact⟨p,(aa h).1,(aa h).2⟩) (fun p K h=>Sl p K (aa h).1 (aa h).2)
structure vr where
 g:bW
 v:cM
structure Nx where
 s:List cM
 q:Prop
def tM (p:vr) (r:Nx):Prop:=r.s.length≤p.g.s.length+1
noncomputable def CG (p:vr):IE:=([.ptr 0 0,.agg (Hp p.v)],(ba p.g),9)
noncomputable def EW (p:vr) (K:KE):Bool:=aA fun r:Nx=>iP (tM p r) (K (.sy (.bool r.q)) (ba ({p.g with s:=r.s}:bW)) 9) true
def uc (p:vr):Prop:=p.g.s.length≤80
theorem MH {p:vr} {K:KE} (hK:EW p K=true) (r:Nx) (h:tM p r):K (.sy (.bool r.q)) (ba ({p.g with s:=r.s}:bW)) 9=true:=aP h (aF hK r)
theorem Xd (p:vr) (K:KE) (hpre:uc p) (hK:EW p K=true):(bZ 1 (bH vQ) Df 600 Pm (CG p).1 (CG p).2.1 (CG p).2.2 K)=true:=by
 refine Eq.trans (b:=(aI fun p1:iN=>mP (((.cons 5 (.sy (.int 0 0)) (.cons 3 (.ptr 1 0) (.cons 0 (.ptr 0 0) .nil))),(Nu p.g p.v),10)=kS p1) (mP (kC p1) (ac (mP (((.prow 5 p1.g.s.length):SY)=(.prow 5 p1.g.s.length)) (mP (p1.g.s.length=p1.g.s.length) (aI fun m1:List cM=>mP (dx (m1.map cp) [[.sint 1 p1.v.who.node,.sint 2 p1.v.who.life,.sint 1 p1.v.vg,.sint 3 p1.v.vn,.imm p1.v.hm 2 Proc p1.v.ms bJ]]) (mP (dh 40 (p1.g.s.length+m1.length)) (K (.sy (.bool (true=true))) (ba ({p1.g with s:=p1.g.s++m1}:bW)) 9))))) (K (.sy (.bool (false=true))) (ba p1.g) 9))))) (by kernel_rfl) ?_
 dsimp only[uc]at hpre
 refine dG (⟨p.g,p.v,(0:Int)⟩:iN) rfl (by(try dsimp only[kC]);omega) ?_
 refine aM ?_ ?_
 refine az (az ?_)
 refine aG [p.v] ?_
 refine jN (li ?_)
 exact MH hK ⟨p.g.s++[p.v],true=true⟩ (by dsimp only[tM]<;>(first|omega|(simp only[acC,acD,acF];omega)))
 exact MH hK ⟨p.g.s,false=true⟩ (by dsimp only[tM]<;>(first|omega|(simp only[acC,acD,acF];omega)))
noncomputable def Fm:=bM vQ 1 (ce CG (dD uc EW)) 29 [(1,15)]
theorem DZ:be Tryz.prog Fm:=aY (bV (f:=29) (k:=1) (lp:=Df) (lf:=600) bv (aT uz) QV (by rfl) (fun b j x h=>(cd Ta (fun h=>(by cases h)) h)) fun p K h=>Xd p K (aa h).1 (aa h).2) uz
def nX:XF:=.mk 67 (.one 8) (.aft (.seq (g_ 2 [e_ 0 7 (.box 62 (.t 3)),p_ 1 8 (.mv (.c (.bool false)))]) (.seq (.seq (g_ 17 [p_ 0 9 (m_ 1),p_ 1 10 (.bin 3 2 (.t 9) (.c (.int 1 (.ofNat 3)))),p_ 2 11 (m_ 10),aK 3 12 11 false (m_ 2),aK 4 13 11 false (.bin 3 0 (.t 12) (i_ 0)),p_ 5 14 (.pick (.t 11) (.c (.bool true)) (.t 13)),p_ 6 15 (m_ 14),aK 7 16 15 false (m_ 2),aK 8 17 15 false (m_ 0),aK 9 18 15 false (m_ 1),aK 10 19 15 false (n_ 17),aK 11 20 15 false (f_ 4 19),aK 12 21 15 false (.ixa 4 1 (.t 20) (.t 18)),bU 13 22 15 false (l_ 21),aK 14 23 15 false (k_ 22),aK 15 24 15 false (.bin 3 2 (.t 16) (.t 23)),p_ 16 25 (.pick (.t 15) (.c (.bool true)) (.t 24))]) (.cond (.t 25) (.seq (g_ 1 [p_ 0 8 (.mv (.c (.bool false)))]) .ret) .skip)) (.seq (.seq (g_ 9 [p_ 0 26 (m_ 2),p_ 1 27 (m_ 0),p_ 2 28 (m_ 1),p_ 3 29 (n_ 27),p_ 4 30 (f_ 4 29),p_ 5 31 (.ixa 4 1 (.t 30) (.t 28)),r_ 6 32 (l_ 31),p_ 7 33 (k_ 32),p_ 8 34 (.bin 3 4 (.t 26) (.t 33))]) (.cond (.t 34) (.seq (h_ 15 [p_ 0 35 (m_ 0),p_ 1 36 (m_ 1),p_ 2 37 (m_ 0),p_ 3 38 (m_ 1),p_ 4 39 (n_ 37),p_ 5 40 (f_ 4 39),p_ 6 41 (.ixa 4 1 (.t 40) (.t 38)),r_ 7 42 (l_ 41),r_ 8 43 (.ld true 18 (.t 7)),p_ 11 46 (n_ 35),p_ 12 47 (f_ 4 46),e_ 9 44 (.bsl 62 18 1 [.int 1 (.ofNat 0),.int 1 (.ofNat 0),.int 2 (.ofNat 0),.int 3 (.ofNat 0),.int 1 (.ofNat 0),.int 1 (.ofNat 0),.int 1 (.ofNat 0),.int 1 (.ofNat 0),.int 1 (.ofNat 0),.int 1 (.ofNat 0),.int 1 (.ofNat 0),.int 3 (.ofNat 0),.nilS,.int 1 (.ofNat 0),.str [],.nilS,.int 1 (.ofNat 0),.int 2 (.ofNat 0)] [(0,18)] [.t 43]),a_ 7 42 (l_ 41),e_ 10 45 (.app 62 18 104 (.t 42) (.t 44)),p_ 13 48 (.ixa 4 1 (.t 47) (.t 36)),cA 14 (.st 1 (.t 48) (.t 45))]) (.seq (g_ 1 [p_ 0 8 (.mv (.c (.bool true)))]) .ret)) .skip)) (.seq (.seq (h_ 11 [p_ 0 49 (m_ 0),p_ 1 50 (m_ 1),p_ 2 51 (n_ 49),p_ 3 52 (f_ 4 51),p_ 4 53 (.ixa 4 1 (.t 52) (.t 50)),r_ 5 54 (l_ 53),p_ 6 55 (m_ 2),p_ 7 56 (.ixs 18 (.t 54) (.t 55)),r_ 8 57 (.ld true 18 (.t 56)),r_ 9 58 (.ld true 18 (.t 7)),c_ 10 59 62 [.t 57,.t 58]]) (.cond (.t 59) (.seq (g_ 1 [p_ 0 8 (.mv (.c (.bool true)))]) .ret) .skip)) (.seq (g_ 8 [p_ 0 60 (m_ 0),p_ 1 61 (n_ 60),p_ 2 62 (f_ 8 61),r_ 3 63 (l_ 62),p_ 4 64 (.bin 0 0 (.t 63) (i_ 1)),p_ 5 65 (n_ 60),p_ 6 66 (f_ 8 65),cA 7 (.st 1 (.t 66) (.t 64))]) (.seq (g_ 1 [p_ 0 8 (.mv (.c (.bool false)))]) .ret)))))) [(0,[.up 8]),(1,[.up 8])])
theorem nr:bT Tryz.prog 27 nX=true:=by kernel_rfl
structure lb where
 g:bW
 at_:Int
 v:ai
structure Az where
 o:List ai
 sp:Int
 q:Prop
def gi (p:lb) (r:Az):Prop:=(r.o.map aq=mH (p.g.o0.map aq) p.at_ (aq p.v)∧(∀x∈r.o,bp x)∧r.o.length≤p.g.o0.length+1)∧p.g.sp≤r.sp∧r.sp≤p.g.sp+1
noncomputable def qv (p:lb):IE:=([.ptr 0 0,.int 1 (.ofNat 0),.sy (.int 0 p.at_),.agg (br p.v)],(ba p.g),9)
noncomputable def ut (p:lb) (K:KE):Bool:=aA fun r:Az=>iP (gi p r) (K (.sy (.bool r.q)) (ba ({p.g with o0:=r.o,sp:=r.sp}:bW)) 9) true
def lQ (p:lb):Prop:=(∀x∈p.g.o0,bp x)∧bp p.v∧p.g.o0.length≤80∧0≤p.g.sp∧p.g.sp≤80
theorem my {p:lb} {K:KE} (hK:ut p K=true) (r:Az) (h:gi p r):K (.sy (.bool r.q)) (ba ({p.g with o0:=r.o,sp:=r.sp}:bW)) 9=true:=aP h (aF hK r)
theorem NN (p:lb) (K:KE) (hpre:lQ p) (hK:ut p K=true):(bZ 1 (bH Fm) dT 600 nX (qv p).1 (qv p).2.1 (qv p).2.2 K)=true:=by
 refine Eq.trans (b:=(iP (p.at_<(0:Int)) (K (.sy (.bool (false=true))) (ba p.g) 9) (iP ((p.g.o0.length:Int)<p.at_) (K (.sy (.bool (false=true))) (ba p.g) 9) (iP (p.at_=(p.g.o0.length:Int)) (mP (((.prow 5 p.g.o0.length):SY)=(.prow 5 p.g.o0.length)) (mP (p.g.o0.length=p.g.o0.length) (aI fun m1:List ai=>mP (dx (m1.map am) [[.sint 1 p.v.kind,.sint 1 p.v.id.client.node,.sint 2 p.v.id.client.life,.sint 3 p.v.id.seq,.sint 1 p.v.id.depth,.sint 1 p.v.id.p0.group,.sint 1 p.v.id.p0.index,.sint 1 p.v.id.p1.group,.sint 1 p.v.id.p1.index,.sint 1 p.v.id.p2.group,.sint 1 p.v.id.p2.index,.sint 3 p.v.floor,.imm p.v.hp 5 aW p.v.ps encP,.sint 1 p.v.rc,.sstr p.v.rv,.imm p.v.hw 3 bg p.v.ws bb,.sint 1 p.v.vic.node,.sint 2 p.v.vic.life]]) (mP (dh 104 (p.g.o0.length+m1.length)) (K (.sy (.bool (true=true))) (ba ({p.g with o0:=p.g.o0++m1}:bW)) 9))))) (mP (0≤p.at_∧p.at_<(p.g.o0.length:Int)) (mP (p.at_.toNat<p.g.o0.length) (aA fun x1:ai=>iP (p.g.o0[p.at_.toNat]?=some x1) (aI fun p1:iZ=>mP (([.agg (br ({x1 with id:=⟨⟨x1.id.client.node,x1.id.client.life⟩,x1.id.seq,x1.id.depth,⟨x1.id.p0.group,x1.id.p0.index⟩,⟨x1.id.p1.group,x1.id.p1.index⟩,⟨x1.id.p2.group,x1.id.p2.index⟩⟩,vic:=⟨x1.vic.node,x1.vic.life⟩}:ai)),.agg (br p.v)],.leaf,0)=pr p1) (mP (gy p1) (aA fun r1:gP=>iP (r1.q) (K (.sy (.bool (true=true))) (ba p.g) 9) (mP (aL 0 (p.g.sp+(1:Int))) (K (.sy (.bool (false=true))) (ba ({p.g with sp:=p.g.sp+(1:Int)}:bW)) 9))))) true))))))) (by kernel_rfl) ?_
 dsimp only[lQ]at hpre
 obtain⟨g0,g1,g2,g3,g4⟩:=hpre
 refine iI (fun hc1=> ?_) (fun hc1=> ?_)
 exact my hK ⟨p.g.o0,p.g.sp,false=true⟩ (by dsimp only[gi]<;>(refine⟨?_,by omega,by omega⟩;first|exact cR g0 (by omega)|exact cN g0 g1 rfl (by omega)))
 refine iI (fun hc2=> ?_) (fun hc2=> ?_)
 exact my hK ⟨p.g.o0,p.g.sp,false=true⟩ (by dsimp only[gi]<;>(refine⟨?_,by omega,by omega⟩;first|exact cR g0 (by omega)|exact cN g0 g1 rfl (by omega)))
 refine iI (fun hc3=> ?_) (fun hc3=> ?_)
 refine az (az ?_)
 refine aG [p.v] ?_
 refine jN ?_
 refine li ?_
 exact my hK ⟨p.g.o0++[p.v],p.g.sp,true=true⟩ (by dsimp only[gi]<;>(refine⟨?_,by omega,by omega⟩;first|exact cR g0 (by omega)|exact cN g0 g1 rfl (by omega)))
 refine dL (fX ?_)
 refine aB (fun x1=> ?_)
 refine iI (fun hi4=> ?_) (fun _=>rfl)
 refine dG (⟨({x1 with id:=⟨⟨x1.id.client.node,x1.id.client.life⟩,x1.id.seq,x1.id.depth,⟨x1.id.p0.group,x1.id.p0.index⟩,⟨x1.id.p1.group,x1.id.p1.index⟩,⟨x1.id.p2.group,x1.id.p2.index⟩⟩,vic:=⟨x1.vic.node,x1.vic.life⟩}:ai),p.v⟩:iZ) rfl (by(try dsimp only[gy]);exact⟨(g0 _ (acH (by assumption))).2,g1.2⟩) ?_
 refine aB (fun r1=> ?_)
 refine iI (fun hc5=> ?_) (fun hc5=> ?_)
 exact my hK ⟨p.g.o0,p.g.sp,true=true⟩ (by dsimp only[gi]<;>(refine⟨?_,by omega,by omega⟩;first|exact cR g0 (by omega)|exact cN g0 g1 rfl (by omega)))
 refine aN ?_
 exact my hK ⟨p.g.o0,p.g.sp+(1:Int),false=true⟩ (by dsimp only[gi]<;>(refine⟨?_,by omega,by omega⟩;first|exact cR g0 (by omega)|exact cN g0 g1 rfl (by omega)))
noncomputable def xg:dC:=qD (fun us M=>AR us 1 0) (ce qv (dD lQ ut)) (fun _ _ _ _=>false)
theorem DW:cY Tryz.prog 27 1 xg:=iT (cX (f:=27) (k:=1) (aT DZ) nr (by rfl) (by rfl) NN) Iw
noncomputable def uG:=bM Fm 1 xg 27 [(1,1)]
theorem vX:be Tryz.prog uG:=aY DW DZ
def Ek:XF:=nX
theorem II:bT Tryz.prog 27 Ek=true:=nr
structure la where
 g:bW
 at_:Int
 v:ai
structure Ay where
 o:List ai
 sp:Int
 q:Prop
def gh (p:la) (r:Ay):Prop:=(r.o.map aq=mH (p.g.o1.map aq) p.at_ (aq p.v)∧(∀x∈r.o,bp x)∧r.o.length≤p.g.o1.length+1)∧p.g.sp≤r.sp∧r.sp≤p.g.sp+1
noncomputable def qu (p:la):IE:=([.ptr 0 0,.int 1 (.ofNat 1),.sy (.int 0 p.at_),.agg (br p.v)],(ba p.g),9)
noncomputable def ur (p:la) (K:KE):Bool:=aA fun r:Ay=>iP (gh p r) (K (.sy (.bool r.q)) (ba ({p.g with o1:=r.o,sp:=r.sp}:bW)) 9) true
def lP (p:la):Prop:=(∀x∈p.g.o1,bp x)∧bp p.v∧p.g.o1.length≤80∧0≤p.g.sp∧p.g.sp≤80
theorem mw {p:la} {K:KE} (hK:ur p K=true) (r:Ay) (h:gh p r):K (.sy (.bool r.q)) (ba ({p.g with o1:=r.o,sp:=r.sp}:bW)) 9=true:=aP h (aF hK r)
theorem NM (p:la) (K:KE) (hpre:lP p) (hK:ur p K=true):(bZ 1 (bH uG) dT 600 Ek (qu p).1 (qu p).2.1 (qu p).2.2 K)=true:=by
 refine Eq.trans (b:=(iP (p.at_<(0:Int)) (K (.sy (.bool (false=true))) (ba p.g) 9) (iP ((p.g.o1.length:Int)<p.at_) (K (.sy (.bool (false=true))) (ba p.g) 9) (iP (p.at_=(p.g.o1.length:Int)) (mP (((.prow 6 p.g.o1.length):SY)=(.prow 6 p.g.o1.length)) (mP (p.g.o1.length=p.g.o1.length) (aI fun m1:List ai=>mP (dx (m1.map am) [[.sint 1 p.v.kind,.sint 1 p.v.id.client.node,.sint 2 p.v.id.client.life,.sint 3 p.v.id.seq,.sint 1 p.v.id.depth,.sint 1 p.v.id.p0.group,.sint 1 p.v.id.p0.index,.sint 1 p.v.id.p1.group,.sint 1 p.v.id.p1.index,.sint 1 p.v.id.p2.group,.sint 1 p.v.id.p2.index,.sint 3 p.v.floor,.imm p.v.hp 5 aW p.v.ps encP,.sint 1 p.v.rc,.sstr p.v.rv,.imm p.v.hw 3 bg p.v.ws bb,.sint 1 p.v.vic.node,.sint 2 p.v.vic.life]]) (mP (dh 104 (p.g.o1.length+m1.length)) (K (.sy (.bool (true=true))) (ba ({p.g with o1:=p.g.o1++m1}:bW)) 9))))) (mP (0≤p.at_∧p.at_<(p.g.o1.length:Int)) (mP (p.at_.toNat<p.g.o1.length) (aA fun x1:ai=>iP (p.g.o1[p.at_.toNat]?=some x1) (aI fun p1:iZ=>mP (([.agg (br ({x1 with id:=⟨⟨x1.id.client.node,x1.id.client.life⟩,x1.id.seq,x1.id.depth,⟨x1.id.p0.group,x1.id.p0.index⟩,⟨x1.id.p1.group,x1.id.p1.index⟩,⟨x1.id.p2.group,x1.id.p2.index⟩⟩,vic:=⟨x1.vic.node,x1.vic.life⟩}:ai)),.agg (br p.v)],.leaf,0)=pr p1) (mP (gy p1) (aA fun r1:gP=>iP (r1.q) (K (.sy (.bool (true=true))) (ba p.g) 9) (mP (aL 0 (p.g.sp+(1:Int))) (K (.sy (.bool (false=true))) (ba ({p.g with sp:=p.g.sp+(1:Int)}:bW)) 9))))) true))))))) (by kernel_rfl) ?_
 dsimp only[lP]at hpre
 obtain⟨g0,g1,g2,g3,g4⟩:=hpre
 refine iI (fun hc1=> ?_) (fun hc1=> ?_)
 exact mw hK ⟨p.g.o1,p.g.sp,false=true⟩ (by dsimp only[gh]<;>(refine⟨?_,by omega,by omega⟩;first|exact cR g0 (by omega)|exact cN g0 g1 rfl (by omega)))
 refine iI (fun hc2=> ?_) (fun hc2=> ?_)
 exact mw hK ⟨p.g.o1,p.g.sp,false=true⟩ (by dsimp only[gh]<;>(refine⟨?_,by omega,by omega⟩;first|exact cR g0 (by omega)|exact cN g0 g1 rfl (by omega)))
 refine iI (fun hc3=> ?_) (fun hc3=> ?_)
 refine az (az ?_)
 refine aG [p.v] ?_
 refine jN ?_
 refine li ?_
 exact mw hK ⟨p.g.o1++[p.v],p.g.sp,true=true⟩ (by dsimp only[gh]<;>(refine⟨?_,by omega,by omega⟩;first|exact cR g0 (by omega)|exact cN g0 g1 rfl (by omega)))
 refine dL (fX ?_)
 refine aB (fun x1=> ?_)
 refine iI (fun hi4=> ?_) (fun _=>rfl)
 refine dG (⟨({x1 with id:=⟨⟨x1.id.client.node,x1.id.client.life⟩,x1.id.seq,x1.id.depth,⟨x1.id.p0.group,x1.id.p0.index⟩,⟨x1.id.p1.group,x1.id.p1.index⟩,⟨x1.id.p2.group,x1.id.p2.index⟩⟩,vic:=⟨x1.vic.node,x1.vic.life⟩}:ai),p.v⟩:iZ) rfl (by(try dsimp only[gy]);exact⟨(g0 _ (acH (by assumption))).2,g1.2⟩) ?_
 refine aB (fun r1=> ?_)
 refine iI (fun hc5=> ?_) (fun hc5=> ?_)
 exact mw hK ⟨p.g.o1,p.g.sp,true=true⟩ (by dsimp only[gh]<;>(refine⟨?_,by omega,by omega⟩;first|exact cR g0 (by omega)|exact cN g0 g1 rfl (by omega)))
 refine aN ?_
 exact mw hK ⟨p.g.o1,p.g.sp+(1:Int),false=true⟩ (by dsimp only[gh]<;>(refine⟨?_,by omega,by omega⟩;first|exact cR g0 (by omega)|exact cN g0 g1 rfl (by omega)))
noncomputable def xe:dC:=qD (fun us M=>AR us 1 1) (ce qu (dD lP ur)) xg
theorem DV:cY Tryz.prog 27 1 xe:=iT (cX (f:=27) (k:=1) (aT vX) II (by rfl) (by rfl) NM) DW
noncomputable def uF:=bM uG 1 xe 27 [(1,1)]
theorem vW:be Tryz.prog uF:=aY DV vX
def Ej:XF:=nX
theorem IH:bT Tryz.prog 27 Ej=true:=nr
structure kZ where
 g:bW
 at_:Int
 v:ai
structure Ax where
 o:List ai
 sp:Int
 q:Prop
def gf (p:kZ) (r:Ax):Prop:=(r.o.map aq=mH (p.g.o2.map aq) p.at_ (aq p.v)∧(∀x∈r.o,bp x)∧r.o.length≤p.g.o2.length+1)∧p.g.sp≤r.sp∧r.sp≤p.g.sp+1
noncomputable def qt (p:kZ):IE:=([.ptr 0 0,.int 1 (.ofNat 2),.sy (.int 0 p.at_),.agg (br p.v)],(ba p.g),9)
noncomputable def uq (p:kZ) (K:KE):Bool:=aA fun r:Ax=>iP (gf p r) (K (.sy (.bool r.q)) (ba ({p.g with o2:=r.o,sp:=r.sp}:bW)) 9) true
def lO (p:kZ):Prop:=(∀x∈p.g.o2,bp x)∧bp p.v∧p.g.o2.length≤80∧0≤p.g.sp∧p.g.sp≤80
theorem mr {p:kZ} {K:KE} (hK:uq p K=true) (r:Ax) (h:gf p r):K (.sy (.bool r.q)) (ba ({p.g with o2:=r.o,sp:=r.sp}:bW)) 9=true:=aP h (aF hK r)
theorem NL (p:kZ) (K:KE) (hpre:lO p) (hK:uq p K=true):(bZ 1 (bH uF) dT 600 Ej (qt p).1 (qt p).2.1 (qt p).2.2 K)=true:=by
 refine Eq.trans (b:=(iP (p.at_<(0:Int)) (K (.sy (.bool (false=true))) (ba p.g) 9) (iP ((p.g.o2.length:Int)<p.at_) (K (.sy (.bool (false=true))) (ba p.g) 9) (iP (p.at_=(p.g.o2.length:Int)) (mP (((.prow 7 p.g.o2.length):SY)=(.prow 7 p.g.o2.length)) (mP (p.g.o2.length=p.g.o2.length) (aI fun m1:List ai=>mP (dx (m1.map am) [[.sint 1 p.v.kind,.sint 1 p.v.id.client.node,.sint 2 p.v.id.client.life,.sint 3 p.v.id.seq,.sint 1 p.v.id.depth,.sint 1 p.v.id.p0.group,.sint 1 p.v.id.p0.index,.sint 1 p.v.id.p1.group,.sint 1 p.v.id.p1.index,.sint 1 p.v.id.p2.group,.sint 1 p.v.id.p2.index,.sint 3 p.v.floor,.imm p.v.hp 5 aW p.v.ps encP,.sint 1 p.v.rc,.sstr p.v.rv,.imm p.v.hw 3 bg p.v.ws bb,.sint 1 p.v.vic.node,.sint 2 p.v.vic.life]]) (mP (dh 104 (p.g.o2.length+m1.length)) (K (.sy (.bool (true=true))) (ba ({p.g with o2:=p.g.o2++m1}:bW)) 9))))) (mP (0≤p.at_∧p.at_<(p.g.o2.length:Int)) (mP (p.at_.toNat<p.g.o2.length) (aA fun x1:ai=>iP (p.g.o2[p.at_.toNat]?=some x1) (aI fun p1:iZ=>mP (([.agg (br ({x1 with id:=⟨⟨x1.id.client.node,x1.id.client.life⟩,x1.id.seq,x1.id.depth,⟨x1.id.p0.group,x1.id.p0.index⟩,⟨x1.id.p1.group,x1.id.p1.index⟩,⟨x1.id.p2.group,x1.id.p2.index⟩⟩,vic:=⟨x1.vic.node,x1.vic.life⟩}:ai)),.agg (br p.v)],.leaf,0)=pr p1) (mP (gy p1) (aA fun r1:gP=>iP (r1.q) (K (.sy (.bool (true=true))) (ba p.g) 9) (mP (aL 0 (p.g.sp+(1:Int))) (K (.sy (.bool (false=true))) (ba ({p.g with sp:=p.g.sp+(1:Int)}:bW)) 9))))) true))))))) (by kernel_rfl) ?_
 dsimp only[lO]at hpre
 obtain⟨g0,g1,g2,g3,g4⟩:=hpre
 refine iI (fun hc1=> ?_) (fun hc1=> ?_)
 exact mr hK ⟨p.g.o2,p.g.sp,false=true⟩ (by dsimp only[gf]<;>(refine⟨?_,by omega,by omega⟩;first|exact cR g0 (by omega)|exact cN g0 g1 rfl (by omega)))
 refine iI (fun hc2=> ?_) (fun hc2=> ?_)
 exact mr hK ⟨p.g.o2,p.g.sp,false=true⟩ (by dsimp only[gf]<;>(refine⟨?_,by omega,by omega⟩;first|exact cR g0 (by omega)|exact cN g0 g1 rfl (by omega)))
 refine iI (fun hc3=> ?_) (fun hc3=> ?_)
 refine az (az ?_)
 refine aG [p.v] ?_
 refine jN ?_
 refine li ?_
 exact mr hK ⟨p.g.o2++[p.v],p.g.sp,true=true⟩ (by dsimp only[gf]<;>(refine⟨?_,by omega,by omega⟩;first|exact cR g0 (by omega)|exact cN g0 g1 rfl (by omega)))
 refine dL (fX ?_)
 refine aB (fun x1=> ?_)
 refine iI (fun hi4=> ?_) (fun _=>rfl)
 refine dG (⟨({x1 with id:=⟨⟨x1.id.client.node,x1.id.client.life⟩,x1.id.seq,x1.id.depth,⟨x1.id.p0.group,x1.id.p0.index⟩,⟨x1.id.p1.group,x1.id.p1.index⟩,⟨x1.id.p2.group,x1.id.p2.index⟩⟩,vic:=⟨x1.vic.node,x1.vic.life⟩}:ai),p.v⟩:iZ) rfl (by(try dsimp only[gy]);exact⟨(g0 _ (acH (by assumption))).2,g1.2⟩) ?_
 refine aB (fun r1=> ?_)
 refine iI (fun hc5=> ?_) (fun hc5=> ?_)
 exact mr hK ⟨p.g.o2,p.g.sp,true=true⟩ (by dsimp only[gf]<;>(refine⟨?_,by omega,by omega⟩;first|exact cR g0 (by omega)|exact cN g0 g1 rfl (by omega)))
 refine aN ?_
 exact mr hK ⟨p.g.o2,p.g.sp+(1:Int),false=true⟩ (by dsimp only[gf]<;>(refine⟨?_,by omega,by omega⟩;first|exact cR g0 (by omega)|exact cN g0 g1 rfl (by omega)))
noncomputable def xd:dC:=qD (fun us M=>AR us 1 2) (ce qt (dD lO uq)) xe
theorem DU:cY Tryz.prog 27 1 xd:=iT (cX (f:=27) (k:=1) (aT vW) IH (by rfl) (by rfl) NL) DV
noncomputable def uE:=bM uF 1 xd 27 [(1,1)]
theorem vV:be Tryz.prog uE:=aY DU vW
def Ei:XF:=nX
theorem IG:bT Tryz.prog 27 Ei=true:=nr
structure kY where
 g:bW
 at_:Int
 v:ai
structure Aw where
 o:List ai
 sp:Int
 q:Prop
def gc (p:kY) (r:Aw):Prop:=(r.o.map aq=mH (p.g.o3.map aq) p.at_ (aq p.v)∧(∀x∈r.o,bp x)∧r.o.length≤p.g.o3.length+1)∧p.g.sp≤r.sp∧r.sp≤p.g.sp+1
noncomputable def qr (p:kY):IE:=([.ptr 0 0,.int 1 (.ofNat 3),.sy (.int 0 p.at_),.agg (br p.v)],(ba p.g),9)
noncomputable def uo (p:kY) (K:KE):Bool:=aA fun r:Aw=>iP (gc p r) (K (.sy (.bool r.q)) (ba ({p.g with o3:=r.o,sp:=r.sp}:bW)) 9) true
def lN (p:kY):Prop:=(∀x∈p.g.o3,bp x)∧bp p.v∧p.g.o3.length≤80∧0≤p.g.sp∧p.g.sp≤80
theorem mq {p:kY} {K:KE} (hK:uo p K=true) (r:Aw) (h:gc p r):K (.sy (.bool r.q)) (ba ({p.g with o3:=r.o,sp:=r.sp}:bW)) 9=true:=aP h (aF hK r)
theorem NK (p:kY) (K:KE) (hpre:lN p) (hK:uo p K=true):(bZ 1 (bH uE) dT 600 Ei (qr p).1 (qr p).2.1 (qr p).2.2 K)=true:=by
 refine Eq.trans (b:=(iP (p.at_<(0:Int)) (K (.sy (.bool (false=true))) (ba p.g) 9) (iP ((p.g.o3.length:Int)<p.at_) (K (.sy (.bool (false=true))) (ba p.g) 9) (iP (p.at_=(p.g.o3.length:Int)) (mP (((.prow 8 p.g.o3.length):SY)=(.prow 8 p.g.o3.length)) (mP (p.g.o3.length=p.g.o3.length) (aI fun m1:List ai=>mP (dx (m1.map am) [[.sint 1 p.v.kind,.sint 1 p.v.id.client.node,.sint 2 p.v.id.client.life,.sint 3 p.v.id.seq,.sint 1 p.v.id.depth,.sint 1 p.v.id.p0.group,.sint 1 p.v.id.p0.index,.sint 1 p.v.id.p1.group,.sint 1 p.v.id.p1.index,.sint 1 p.v.id.p2.group,.sint 1 p.v.id.p2.index,.sint 3 p.v.floor,.imm p.v.hp 5 aW p.v.ps encP,.sint 1 p.v.rc,.sstr p.v.rv,.imm p.v.hw 3 bg p.v.ws bb,.sint 1 p.v.vic.node,.sint 2 p.v.vic.life]]) (mP (dh 104 (p.g.o3.length+m1.length)) (K (.sy (.bool (true=true))) (ba ({p.g with o3:=p.g.o3++m1}:bW)) 9))))) (mP (0≤p.at_∧p.at_<(p.g.o3.length:Int)) (mP (p.at_.toNat<p.g.o3.length) (aA fun x1:ai=>iP (p.g.o3[p.at_.toNat]?=some x1) (aI fun p1:iZ=>mP (([.agg (br ({x1 with id:=⟨⟨x1.id.client.node,x1.id.client.life⟩,x1.id.seq,x1.id.depth,⟨x1.id.p0.group,x1.id.p0.index⟩,⟨x1.id.p1.group,x1.id.p1.index⟩,⟨x1.id.p2.group,x1.id.p2.index⟩⟩,vic:=⟨x1.vic.node,x1.vic.life⟩}:ai)),.agg (br p.v)],.leaf,0)=pr p1) (mP (gy p1) (aA fun r1:gP=>iP (r1.q) (K (.sy (.bool (true=true))) (ba p.g) 9) (mP (aL 0 (p.g.sp+(1:Int))) (K (.sy (.bool (false=true))) (ba ({p.g with sp:=p.g.sp+(1:Int)}:bW)) 9))))) true))))))) (by kernel_rfl) ?_
 dsimp only[lN]at hpre
 obtain⟨g0,g1,g2,g3,g4⟩:=hpre
 refine iI (fun hc1=> ?_) (fun hc1=> ?_)
 exact mq hK ⟨p.g.o3,p.g.sp,false=true⟩ (by dsimp only[gc]<;>(refine⟨?_,by omega,by omega⟩;first|exact cR g0 (by omega)|exact cN g0 g1 rfl (by omega)))
 refine iI (fun hc2=> ?_) (fun hc2=> ?_)
 exact mq hK ⟨p.g.o3,p.g.sp,false=true⟩ (by dsimp only[gc]<;>(refine⟨?_,by omega,by omega⟩;first|exact cR g0 (by omega)|exact cN g0 g1 rfl (by omega)))
 refine iI (fun hc3=> ?_) (fun hc3=> ?_)
 refine az (az ?_)
 refine aG [p.v] ?_
 refine jN ?_
 refine li ?_
 exact mq hK ⟨p.g.o3++[p.v],p.g.sp,true=true⟩ (by dsimp only[gc]<;>(refine⟨?_,by omega,by omega⟩;first|exact cR g0 (by omega)|exact cN g0 g1 rfl (by omega)))
 refine dL (fX ?_)
 refine aB (fun x1=> ?_)
 refine iI (fun hi4=> ?_) (fun _=>rfl)
 refine dG (⟨({x1 with id:=⟨⟨x1.id.client.node,x1.id.client.life⟩,x1.id.seq,x1.id.depth,⟨x1.id.p0.group,x1.id.p0.index⟩,⟨x1.id.p1.group,x1.id.p1.index⟩,⟨x1.id.p2.group,x1.id.p2.index⟩⟩,vic:=⟨x1.vic.node,x1.vic.life⟩}:ai),p.v⟩:iZ) rfl (by(try dsimp only[gy]);exact⟨(g0 _ (acH (by assumption))).2,g1.2⟩) ?_
 refine aB (fun r1=> ?_)
 refine iI (fun hc5=> ?_) (fun hc5=> ?_)
 exact mq hK ⟨p.g.o3,p.g.sp,true=true⟩ (by dsimp only[gc]<;>(refine⟨?_,by omega,by omega⟩;first|exact cR g0 (by omega)|exact cN g0 g1 rfl (by omega)))
 refine aN ?_
 exact mq hK ⟨p.g.o3,p.g.sp+(1:Int),false=true⟩ (by dsimp only[gc]<;>(refine⟨?_,by omega,by omega⟩;first|exact cR g0 (by omega)|exact cN g0 g1 rfl (by omega)))
noncomputable def El:dC:=qD (fun us M=>AR us 1 3) (ce qr (dD lN uo)) xd
theorem NZ:cY Tryz.prog 27 1 El:=iT (cX (f:=27) (k:=1) (aT vV) IG (by rfl) (by rfl) NK) DU
noncomputable def uD:=bM uE 1 El 27 [(1,1)]
theorem vU:be Tryz.prog uD:=aY NZ vV
def Eh:XF:=.mk 67 (.one 8) (.aft (.seq (g_ 2 [e_ 0 7 (.box 62 (.t 3)),p_ 1 8 (.mv (.c (.bool false)))]) (.seq (.seq (g_ 17 [p_ 0 9 (m_ 1),p_ 1 10 (.bin 3 2 (.t 9) (.c (.int 1 (.ofNat 3)))),p_ 2 11 (m_ 10),aK 3 12 11 false (m_ 2),aK 4 13 11 false (.bin 3 0 (.t 12) (i_ 0)),p_ 5 14 (.pick (.t 11) (.c (.bool true)) (.t 13)),p_ 6 15 (m_ 14),aK 7 16 15 false (m_ 2),aK 8 17 15 false (m_ 0),aK 9 18 15 false (m_ 1),aK 10 19 15 false (n_ 17),aK 11 20 15 false (f_ 4 19),aK 12 21 15 false (.ixa 4 1 (.t 20) (.t 18)),bU 13 22 15 false (l_ 21),aK 14 23 15 false (k_ 22),aK 15 24 15 false (.bin 3 2 (.t 16) (.t 23)),p_ 16 25 (.pick (.t 15) (.c (.bool true)) (.t 24))]) (.cond (.t 25) (.seq (g_ 1 [p_ 0 8 (.mv (.c (.bool false)))]) .ret) .skip)) (.seq (.seq (.pre [.die] (g_ 9 [p_ 0 26 (m_ 2),p_ 1 27 (m_ 0),p_ 2 28 (m_ 1),p_ 3 29 (n_ 27),p_ 4 30 (f_ 4 29),p_ 5 31 (.ixa 4 1 (.t 30) (.t 28)),r_ 6 32 (l_ 31),p_ 7 33 (k_ 32),p_ 8 34 (.bin 3 4 (.t 26) (.t 33))])) (.cond (.t 34) (.seq (h_ 15 [p_ 0 35 (m_ 0),p_ 1 36 (m_ 1),p_ 2 37 (m_ 0),p_ 3 38 (m_ 1),p_ 4 39 (n_ 37),p_ 5 40 (f_ 4 39),p_ 6 41 (.ixa 4 1 (.t 40) (.t 38)),r_ 7 42 (l_ 41),r_ 8 43 (.ld true 18 (.t 7)),p_ 11 46 (n_ 35),p_ 12 47 (f_ 4 46),e_ 9 44 (.bsl 62 18 1 [.int 1 (.ofNat 0),.int 1 (.ofNat 0),.int 2 (.ofNat 0),.int 3 (.ofNat 0),.int 1 (.ofNat 0),.int 1 (.ofNat 0),.int 1 (.ofNat 0),.int 1 (.ofNat 0),.int 1 (.ofNat 0),.int 1 (.ofNat 0),.int 1 (.ofNat 0),.int 3 (.ofNat 0),.nilS,.int 1 (.ofNat 0),.str [],.nilS,.int 1 (.ofNat 0),.int 2 (.ofNat 0)] [(0,18)] [.t 43]),a_ 7 42 (l_ 41),e_ 10 45 (.app 62 18 104 (.t 42) (.t 44)),p_ 13 48 (.ixa 4 1 (.t 47) (.t 36)),cA 14 (.st 1 (.t 48) (.t 45))]) (.seq (g_ 1 [p_ 0 8 (.mv (.c (.bool true)))]) .ret)) .skip)) (.seq (.seq (h_ 11 [p_ 0 49 (m_ 0),p_ 1 50 (m_ 1),p_ 2 51 (n_ 49),p_ 3 52 (f_ 4 51),p_ 4 53 (.ixa 4 1 (.t 52) (.t 50)),r_ 5 54 (l_ 53),p_ 6 55 (m_ 2),p_ 7 56 (.ixs 18 (.t 54) (.t 55)),r_ 8 57 (.ld true 18 (.t 56)),r_ 9 58 (.ld true 18 (.t 7)),c_ 10 59 62 [.t 57,.t 58]]) (.cond (.t 59) (.seq (g_ 1 [p_ 0 8 (.mv (.c (.bool true)))]) .ret) .skip)) (.seq (g_ 8 [p_ 0 60 (m_ 0),p_ 1 61 (n_ 60),p_ 2 62 (f_ 8 61),r_ 3 63 (l_ 62),p_ 4 64 (.bin 0 0 (.t 63) (i_ 1)),p_ 5 65 (n_ 60),p_ 6 66 (f_ 8 65),cA 7 (.st 1 (.t 66) (.t 64))]) (.seq (g_ 1 [p_ 0 8 (.mv (.c (.bool false)))]) .ret)))))) [(0,[.up 8]),(1,[.up 8])])
theorem IF:bT Tryz.prog 27 Eh=true:=by kernel_rfl
structure nH where
 g:bW
 g1:Int
 at_:Int
 v:ai
structure ju where
 q:Prop
noncomputable def qq (p:nH):IE:=([.ptr 0 0,.sy (.int 1 p.g1),.sy (.int 0 p.at_),.agg (br p.v)],(ba p.g),9)
noncomputable def Bn (p:nH) (K:KE):Bool:=aA fun r:ju=>K (.sy (.bool r.q)) (ba p.g) 9
def lM (p:nH):Prop:=4≤p.g1∧p.g1≤255
theorem NJ (p:nH) (K:KE) (hpre:lM p) (hK:Bn p K=true):(bZ 1 (bH uD) dT 600 Eh (qq p).1 (qq p).2.1 (qq p).2.2 K)=true:=by
 refine Eq.trans (b:=(let z0:Bool:=(K (.sy (.bool (false=true))) (ba p.g) 9);iP ((3:Int)<p.g1) z0 (iP (p.at_<(0:Int)) z0 (iP (p.g1=0) (iP ((p.g.o0.length:Int)<p.at_) z0 (false)) (iP (p.g1=1) (iP ((p.g.o1.length:Int)<p.at_) z0 (false)) (iP (p.g1=2) (iP ((p.g.o2.length:Int)<p.at_) z0 (false)) (iP (p.g1=3) (iP ((p.g.o3.length:Int)<p.at_) z0 (false)) (mP (False) (true))))))))) (by kernel_rfl) ?_
 dsimp only[lM]at hpre
 obtain⟨g0,g1⟩:=hpre
 refine iI (fun hc1=> ?_) (fun hc1=> ?_)
 exact aF hK (⟨false=true⟩:ju)
 refine iI (fun hc2=> ?_) (fun hc2=> ?_)
 exact aF hK (⟨false=true⟩:ju)
 refine iI (fun hc3=> ?_) (fun hc3=> ?_)
 refine iI (fun hc4=> ?_) (fun hc4=> ?_)
 exact aF hK (⟨false=true⟩:ju)
 exfalso;omega
 refine iI (fun hc5=> ?_) (fun hc5=> ?_)
 refine iI (fun hc6=> ?_) (fun hc6=> ?_)
 exact aF hK (⟨false=true⟩:ju)
 exfalso;omega
 refine iI (fun hc7=> ?_) (fun hc7=> ?_)
 refine iI (fun hc8=> ?_) (fun hc8=> ?_)
 exact aF hK (⟨false=true⟩:ju)
 exfalso;omega
 refine iI (fun hc9=> ?_) (fun hc9=> ?_)
 refine iI (fun hc10=> ?_) (fun hc10=> ?_)
 exact aF hK (⟨false=true⟩:ju)
 exfalso;omega
 refine fX ?_
 rfl
noncomputable def uC:=bM uD 1 (ce qq (dD lM Bn)) 27 [(1,20)]
theorem vT:be Tryz.prog uC:=aY (cX (f:=27) (k:=1) (aT vU) IF (by rfl) (by rfl) NJ) vU
def Pp:XF:=.mk 41 (.one 4) (.aft (.seq (g_ 2 [e_ 0 3 (.box 64 (.t 1)),p_ 1 4 (.mv (.c (.bool false)))]) (.seq (.seq (g_ 2 [p_ 0 5 (f_ 0 3),r_ 1 6 (l_ 5)]) (.block 2 (.seq (g_ 2 [p_ 0 8 (.bin 3 4 (.t 6) (i_ 0)),p_ 1 7 (m_ 8)]) (.cond (.t 7) (.seq (g_ 5 [p_ 0 9 (m_ 0),p_ 1 10 (f_ 3 3),r_ 2 11 (.ld true 14 (.t 10)),c_ 3 12 25 [.t 9,.t 11],p_ 4 4 (m_ 12)]) .ret) (.seq (g_ 2 [p_ 0 14 (.bin 3 4 (.t 6) (i_ 1)),p_ 1 13 (m_ 14)]) (.cond (.t 13) (.seq (g_ 5 [p_ 0 15 (m_ 0),p_ 1 16 (f_ 17 3),r_ 2 17 (.ld true 17 (.t 16)),c_ 3 18 26 [.t 15,.t 17],p_ 4 4 (m_ 18)]) .ret) (.seq (g_ 2 [p_ 0 20 (.bin 3 4 (.t 6) (i_ 2)),p_ 1 19 (m_ 20)]) (.cond (.t 19) (.seq (.pre [.fixo 9 0 2 4] (g_ 9 [p_ 0 21 (m_ 0),p_ 1 22 (f_ 2 3),r_ 2 23 (l_ 22),p_ 3 24 (f_ 1 3),r_ 4 25 (l_ 24),p_ 5 26 (f_ 56 3),r_ 6 27 (.ld true 18 (.t 26)),c_ 7 28 27 [.t 21,.t 23,.t 25,.t 27],p_ 8 4 (m_ 28)])) .ret) (.seq (g_ 2 [p_ 0 30 (.bin 3 4 (.t 6) (i_ 3)),p_ 1 29 (m_ 30)]) (.cond (.t 29) (.seq (g_ 5 [p_ 0 31 (m_ 0),p_ 1 32 (f_ 34 3),r_ 2 33 (.ld true 17 (.t 32)),c_ 3 34 28 [.t 31,.t 33],p_ 4 4 (m_ 34)]) .ret) (.seq (g_ 2 [p_ 0 36 (.bin 3 4 (.t 6) (i_ 4)),p_ 1 35 (m_ 36)]) (.cond (.t 35) (.seq (g_ 5 [p_ 0 37 (m_ 0),p_ 1 38 (f_ 51 3),r_ 2 39 (.ld true 5 (.t 38)),c_ 3 40 29 [.t 37,.t 39],p_ 4 4 (m_ 40)]) .ret) .skip)))))))))))) (.seq (g_ 1 [p_ 0 4 (.mv (.c (.bool false)))]) .ret))) [(0,[.up 4]),(1,[.up 4])])
theorem QY:bT Tryz.prog 8 Pp=true:=by kernel_rfl
structure vu where
 g:bW
 a:ez
structure Nz where
 g:bW
 q:Prop
def gK (p:vu) (r:Nz):Prop:=oe r.g∧aS r.g=nI p.a (aS p.g)∧∀k,bD p.g k→bD r.g (k+1)
noncomputable def CJ (p:vu):IE:=([.ptr 0 0,.agg (KV p.a)],(ba p.g),9)
noncomputable def EY (p:vu) (K:KE):Bool:=aA fun r:Nz=>iP (gK p r) (K (.sy (.bool r.q)) (ba r.g) 9) true
def uf (p:vu):Prop:=oe p.g∧bD p.g 79∧aaS p.a
theorem jG {p:vu} {K:KE} (hK:EY p K=true) (r:Nz) (h:gK p r):K (.sy (.bool r.q)) (ba r.g) 9=true:=aP h (aF hK r)
theorem Xg (p:vu) (K:KE) (hpre:uf p) (hK:EY p K=true):(bZ 1 (bH uC) dT 600 Pp (CJ p).1 (CJ p).2.1 (CJ p).2.2 K)=true:=by
 refine Eq.trans (b:=(iP (p.a.kind=(0:Int)) (aX (([.ptr 0 0,.agg (KU p.a.b)],(ba p.g),9)) vk pL oZ fun p1 r1=>K (.sy (.bool r1.q)) (ba ({p1.g with b:=r1.b}:bW)) 9) (iP (p.a.kind=(1:Int)) (aX (([.ptr 0 0,.agg (tG p.a.e)],(ba p.g),9)) CI ue qM fun p2 r2=>K (.sy (.bool r2.q)) (ba ({p2.g with e:=r2.e}:bW)) 9) (iP (p.a.kind=(2:Int)) (iP (p.a.g=0) (aX (([.ptr 0 0,.int 1 (.ofNat 0),.sy (.int 0 p.a.at_),.agg (br p.a.l)],(ba p.g),9)) qv lQ gi fun p7 r7=>K (.sy (.bool r7.q)) (ba ({p7.g with o0:=r7.o,sp:=r7.sp}:bW)) 9) (iP (p.a.g=1) (aX (([.ptr 0 0,.int 1 (.ofNat 1),.sy (.int 0 p.a.at_),.agg (br p.a.l)],(ba p.g),9)) qu lP gh fun p6 r6=>K (.sy (.bool r6.q)) (ba ({p6.g with o1:=r6.o,sp:=r6.sp}:bW)) 9) (iP (p.a.g=2) (aX (([.ptr 0 0,.int 1 (.ofNat 2),.sy (.int 0 p.a.at_),.agg (br p.a.l)],(ba p.g),9)) qt lO gf fun p5 r5=>K (.sy (.bool r5.q)) (ba ({p5.g with o2:=r5.o,sp:=r5.sp}:bW)) 9) (iP (p.a.g=3) (aX (([.ptr 0 0,.int 1 (.ofNat 3),.sy (.int 0 p.a.at_),.agg (br p.a.l)],(ba p.g),9)) qr lN gc fun p4 r4=>K (.sy (.bool r4.q)) (ba ({p4.g with o3:=r4.o,sp:=r4.sp}:bW)) 9) (aI fun p3:nH=>mP (([.ptr 0 0,.sy (.int 1 p.a.g),.sy (.int 0 p.a.at_),.agg (br p.a.l)],(ba p.g),9)=qq p3) (mP (lM p3) (aA fun r3:ju=>K (.sy (.bool r3.q)) (ba p3.g) 9))))))) (iP (p.a.kind=(3:Int)) (aX (([.ptr 0 0,.agg (Ho p.a.t)],(ba p.g),9)) ym rU qK fun p8 r8=>K (.sy (.bool r8.q)) (ba ({p8.g with t:=r8.t}:bW)) 9) (iP (p.a.kind=(4:Int)) (aX (([.ptr 0 0,.agg (Hp p.a.s)],(ba p.g),9)) CG uc tM fun p9 r9=>K (.sy (.bool r9.q)) (ba ({p9.g with s:=r9.s}:bW)) 9) (K (.sy (.bool (false=true))) (ba p.g) 9))))))) (by kernel_rfl) ?_
 dsimp only[uf]at hpre
 obtain⟨⟨i0,i1,i2,i3,i4,i5⟩,hl,⟨a1,a2,a3,a4,a5,a6,a7⟩,c0,c1,c2,c3⟩:=hpre
 have hl1:=hl
 unfold bD at hl1
 refine iI (fun hc1=> ?_) (fun hc1=> ?_)
 refine aJ (⟨p.g,p.a.b⟩:oS) rfl (by(try dsimp only[pL]);exact⟨i0,⟨a5,a1.1⟩,by omega⟩) fun r1 hi2=> ?_
 dsimp only[oZ]at hi2
 exact jG hK ⟨({p.g with b:=r1.b}:bW),r1.q⟩ (by dsimp only[gK]<;>(first|(exact⟨⟨hi2.2.1,i1,i2,i3,i4,i5⟩,gI (x:=aS p.g) (by assumption) hi2.1,fun k h=>by unfold bD at h ⊢;(try simp only at*);omega⟩)|(exact⟨⟨i0,hi2.2.1,i2,i3,i4,i5⟩,gH (x:=aS p.g) (by assumption) hi2.1,fun k h=>by unfold bD at h ⊢;(try simp only at*);omega⟩)|(have hz:=hi2;(exact⟨⟨i0,i1,hz.1.2.1,i3,i4,i5⟩,eY (x:=aS p.g) (by assumption) (by assumption) rfl hz.1.1,fun k h=>by unfold bD at h ⊢;(try simp only at*);omega⟩))|(have hz:=hi2;(exact⟨⟨i0,i1,i2,hz.1.2.1,i4,i5⟩,eX (x:=aS p.g) (by assumption) (by assumption) rfl hz.1.1,fun k h=>by unfold bD at h ⊢;(try simp only at*);omega⟩))|(have hz:=hi2;(exact⟨⟨i0,i1,i2,i3,hz.1.2.1,i5⟩,eW (x:=aS p.g) (by assumption) (by assumption) rfl hz.1.1,fun k h=>by unfold bD at h ⊢;(try simp only at*);omega⟩))|(have hz:=hi2;(exact⟨⟨i0,i1,i2,i3,i4,hz.1.2.1⟩,eV (x:=aS p.g) (by assumption) (by assumption) rfl hz.1.1,fun k h=>by unfold bD at h ⊢;(try simp only at*);omega⟩))|(exact⟨⟨i0,i1,i2,i3,i4,i5⟩,gG (x:=aS p.g) (by assumption) (by omega),fun k h=>by unfold bD at h ⊢;(try simp only at*);omega⟩)|(exact⟨⟨i0,i1,i2,i3,i4,i5⟩,eZ (x:=aS p.g) (by omega) (by omega) (by omega),fun k h=>by unfold bD at h ⊢;(try simp only at*);omega⟩)))
 refine iI (fun hc3=> ?_) (fun hc3=> ?_)
 refine aJ (⟨p.g,p.a.e⟩:vt) rfl (by(try dsimp only[ue]);exact⟨i1,⟨a6,c0⟩,by omega,by omega⟩) fun r2 hi4=> ?_
 dsimp only[qM]at hi4
 exact jG hK ⟨({p.g with e:=r2.e}:bW),r2.q⟩ (by dsimp only[gK]<;>(first|(exact⟨⟨hi4.2.1,i1,i2,i3,i4,i5⟩,gI (x:=aS p.g) (by assumption) hi4.1,fun k h=>by unfold bD at h ⊢;(try simp only at*);omega⟩)|(exact⟨⟨i0,hi4.2.1,i2,i3,i4,i5⟩,gH (x:=aS p.g) (by assumption) hi4.1,fun k h=>by unfold bD at h ⊢;(try simp only at*);omega⟩)|(have hz:=hi4;(exact⟨⟨i0,i1,hz.1.2.1,i3,i4,i5⟩,eY (x:=aS p.g) (by assumption) (by assumption) rfl hz.1.1,fun k h=>by unfold bD at h ⊢;(try simp only at*);omega⟩))|(have hz:=hi4;(exact⟨⟨i0,i1,i2,hz.1.2.1,i4,i5⟩,eX (x:=aS p.g) (by assumption) (by assumption) rfl hz.1.1,fun k h=>by unfold bD at h ⊢;(try simp only at*);omega⟩))|(have hz:=hi4;(exact⟨⟨i0,i1,i2,i3,hz.1.2.1,i5⟩,eW (x:=aS p.g) (by assumption) (by assumption) rfl hz.1.1,fun k h=>by unfold bD at h ⊢;(try simp only at*);omega⟩))|(have hz:=hi4;(exact⟨⟨i0,i1,i2,i3,i4,hz.1.2.1⟩,eV (x:=aS p.g) (by assumption) (by assumption) rfl hz.1.1,fun k h=>by unfold bD at h ⊢;(try simp only at*);omega⟩))|(exact⟨⟨i0,i1,i2,i3,i4,i5⟩,gG (x:=aS p.g) (by assumption) (by omega),fun k h=>by unfold bD at h ⊢;(try simp only at*);omega⟩)|(exact⟨⟨i0,i1,i2,i3,i4,i5⟩,eZ (x:=aS p.g) (by omega) (by omega) (by omega),fun k h=>by unfold bD at h ⊢;(try simp only at*);omega⟩)))
 refine iI (fun hc5=> ?_) (fun hc5=> ?_)
 refine iI (fun hc6=> ?_) (fun hc6=> ?_)
 refine aJ (⟨p.g,p.a.at_,p.a.l⟩:lb) rfl (by(try dsimp only[lQ]);exact⟨i2,⟨a7,c3⟩,by omega,by omega,by omega⟩) fun r7 hi7=> ?_
 dsimp only[gi]at hi7
 exact jG hK ⟨({p.g with o0:=r7.o,sp:=r7.sp}:bW),r7.q⟩ (by dsimp only[gK]<;>(first|(exact⟨⟨hi7.2.1,i1,i2,i3,i4,i5⟩,gI (x:=aS p.g) (by assumption) hi7.1,fun k h=>by unfold bD at h ⊢;(try simp only at*);omega⟩)|(exact⟨⟨i0,hi7.2.1,i2,i3,i4,i5⟩,gH (x:=aS p.g) (by assumption) hi7.1,fun k h=>by unfold bD at h ⊢;(try simp only at*);omega⟩)|(have hz:=hi7;(exact⟨⟨i0,i1,hz.1.2.1,i3,i4,i5⟩,eY (x:=aS p.g) (by assumption) (by assumption) rfl hz.1.1,fun k h=>by unfold bD at h ⊢;(try simp only at*);omega⟩))|(have hz:=hi7;(exact⟨⟨i0,i1,i2,hz.1.2.1,i4,i5⟩,eX (x:=aS p.g) (by assumption) (by assumption) rfl hz.1.1,fun k h=>by unfold bD at h ⊢;(try simp only at*);omega⟩))|(have hz:=hi7;(exact⟨⟨i0,i1,i2,i3,hz.1.2.1,i5⟩,eW (x:=aS p.g) (by assumption) (by assumption) rfl hz.1.1,fun k h=>by unfold bD at h ⊢;(try simp only at*);omega⟩))|(have hz:=hi7;(exact⟨⟨i0,i1,i2,i3,i4,hz.1.2.1⟩,eV (x:=aS p.g) (by assumption) (by assumption) rfl hz.1.1,fun k h=>by unfold bD at h ⊢;(try simp only at*);omega⟩))|(exact⟨⟨i0,i1,i2,i3,i4,i5⟩,gG (x:=aS p.g) (by assumption) (by omega),fun k h=>by unfold bD at h ⊢;(try simp only at*);omega⟩)|(exact⟨⟨i0,i1,i2,i3,i4,i5⟩,eZ (x:=aS p.g) (by omega) (by omega) (by omega),fun k h=>by unfold bD at h ⊢;(try simp only at*);omega⟩)))
 refine iI (fun hc8=> ?_) (fun hc8=> ?_)
 refine aJ (⟨p.g,p.a.at_,p.a.l⟩:la) rfl (by(try dsimp only[lP]);exact⟨i3,⟨a7,c3⟩,by omega,by omega,by omega⟩) fun r6 hi9=> ?_
 dsimp only[gh]at hi9
 exact jG hK ⟨({p.g with o1:=r6.o,sp:=r6.sp}:bW),r6.q⟩ (by dsimp only[gK]<;>(first|(exact⟨⟨hi9.2.1,i1,i2,i3,i4,i5⟩,gI (x:=aS p.g) (by assumption) hi9.1,fun k h=>by unfold bD at h ⊢;(try simp only at*);omega⟩)|(exact⟨⟨i0,hi9.2.1,i2,i3,i4,i5⟩,gH (x:=aS p.g) (by assumption) hi9.1,fun k h=>by unfold bD at h ⊢;(try simp only at*);omega⟩)|(have hz:=hi9;(exact⟨⟨i0,i1,hz.1.2.1,i3,i4,i5⟩,eY (x:=aS p.g) (by assumption) (by assumption) rfl hz.1.1,fun k h=>by unfold bD at h ⊢;(try simp only at*);omega⟩))|(have hz:=hi9;(exact⟨⟨i0,i1,i2,hz.1.2.1,i4,i5⟩,eX (x:=aS p.g) (by assumption) (by assumption) rfl hz.1.1,fun k h=>by unfold bD at h ⊢;(try simp only at*);omega⟩))|(have hz:=hi9;(exact⟨⟨i0,i1,i2,i3,hz.1.2.1,i5⟩,eW (x:=aS p.g) (by assumption) (by assumption) rfl hz.1.1,fun k h=>by unfold bD at h ⊢;(try simp only at*);omega⟩))|(have hz:=hi9;(exact⟨⟨i0,i1,i2,i3,i4,hz.1.2.1⟩,eV (x:=aS p.g) (by assumption) (by assumption) rfl hz.1.1,fun k h=>by unfold bD at h ⊢;(try simp only at*);omega⟩))|(exact⟨⟨i0,i1,i2,i3,i4,i5⟩,gG (x:=aS p.g) (by assumption) (by omega),fun k h=>by unfold bD at h ⊢;(try simp only at*);omega⟩)|(exact⟨⟨i0,i1,i2,i3,i4,i5⟩,eZ (x:=aS p.g) (by omega) (by omega) (by omega),fun k h=>by unfold bD at h ⊢;(try simp only at*);omega⟩)))
 refine iI (fun hc10=> ?_) (fun hc10=> ?_)
 refine aJ (⟨p.g,p.a.at_,p.a.l⟩:kZ) rfl (by(try dsimp only[lO]);exact⟨i4,⟨a7,c3⟩,by omega,by omega,by omega⟩) fun r5 hi11=> ?_
 dsimp only[gf]at hi11
 exact jG hK ⟨({p.g with o2:=r5.o,sp:=r5.sp}:bW),r5.q⟩ (by dsimp only[gK]<;>(first|(exact⟨⟨hi11.2.1,i1,i2,i3,i4,i5⟩,gI (x:=aS p.g) (by assumption) hi11.1,fun k h=>by unfold bD at h ⊢;(try simp only at*);omega⟩)|(exact⟨⟨i0,hi11.2.1,i2,i3,i4,i5⟩,gH (x:=aS p.g) (by assumption) hi11.1,fun k h=>by unfold bD at h ⊢;(try simp only at*);omega⟩)|(have hz:=hi11;(exact⟨⟨i0,i1,hz.1.2.1,i3,i4,i5⟩,eY (x:=aS p.g) (by assumption) (by assumption) rfl hz.1.1,fun k h=>by unfold bD at h ⊢;(try simp only at*);omega⟩))|(have hz:=hi11;(exact⟨⟨i0,i1,i2,hz.1.2.1,i4,i5⟩,eX (x:=aS p.g) (by assumption) (by assumption) rfl hz.1.1,fun k h=>by unfold bD at h ⊢;(try simp only at*);omega⟩))|(have hz:=hi11;(exact⟨⟨i0,i1,i2,i3,hz.1.2.1,i5⟩,eW (x:=aS p.g) (by assumption) (by assumption) rfl hz.1.1,fun k h=>by unfold bD at h ⊢;(try simp only at*);omega⟩))|(have hz:=hi11;(exact⟨⟨i0,i1,i2,i3,i4,hz.1.2.1⟩,eV (x:=aS p.g) (by assumption) (by assumption) rfl hz.1.1,fun k h=>by unfold bD at h ⊢;(try simp only at*);omega⟩))|(exact⟨⟨i0,i1,i2,i3,i4,i5⟩,gG (x:=aS p.g) (by assumption) (by omega),fun k h=>by unfold bD at h ⊢;(try simp only at*);omega⟩)|(exact⟨⟨i0,i1,i2,i3,i4,i5⟩,eZ (x:=aS p.g) (by omega) (by omega) (by omega),fun k h=>by unfold bD at h ⊢;(try simp only at*);omega⟩)))
 refine iI (fun hc12=> ?_) (fun hc12=> ?_)
 refine aJ (⟨p.g,p.a.at_,p.a.l⟩:kY) rfl (by(try dsimp only[lN]);exact⟨i5,⟨a7,c3⟩,by omega,by omega,by omega⟩) fun r4 hi13=> ?_
 dsimp only[gc]at hi13
 exact jG hK ⟨({p.g with o3:=r4.o,sp:=r4.sp}:bW),r4.q⟩ (by dsimp only[gK]<;>(first|(exact⟨⟨hi13.2.1,i1,i2,i3,i4,i5⟩,gI (x:=aS p.g) (by assumption) hi13.1,fun k h=>by unfold bD at h ⊢;(try simp only at*);omega⟩)|(exact⟨⟨i0,hi13.2.1,i2,i3,i4,i5⟩,gH (x:=aS p.g) (by assumption) hi13.1,fun k h=>by unfold bD at h ⊢;(try simp only at*);omega⟩)|(have hz:=hi13;(exact⟨⟨i0,i1,hz.1.2.1,i3,i4,i5⟩,eY (x:=aS p.g) (by assumption) (by assumption) rfl hz.1.1,fun k h=>by unfold bD at h ⊢;(try simp only at*);omega⟩))|(have hz:=hi13;(exact⟨⟨i0,i1,i2,hz.1.2.1,i4,i5⟩,eX (x:=aS p.g) (by assumption) (by assumption) rfl hz.1.1,fun k h=>by unfold bD at h ⊢;(try simp only at*);omega⟩))|(have hz:=hi13;(exact⟨⟨i0,i1,i2,i3,hz.1.2.1,i5⟩,eW (x:=aS p.g) (by assumption) (by assumption) rfl hz.1.1,fun k h=>by unfold bD at h ⊢;(try simp only at*);omega⟩))|(have hz:=hi13;(exact⟨⟨i0,i1,i2,i3,i4,hz.1.2.1⟩,eV (x:=aS p.g) (by assumption) (by assumption) rfl hz.1.1,fun k h=>by unfold bD at h ⊢;(try simp only at*);omega⟩))|(exact⟨⟨i0,i1,i2,i3,i4,i5⟩,gG (x:=aS p.g) (by assumption) (by omega),fun k h=>by unfold bD at h ⊢;(try simp only at*);omega⟩)|(exact⟨⟨i0,i1,i2,i3,i4,i5⟩,eZ (x:=aS p.g) (by omega) (by omega) (by omega),fun k h=>by unfold bD at h ⊢;(try simp only at*);omega⟩)))
 refine dG (⟨p.g,p.a.g,p.a.at_,p.a.l⟩:nH) rfl (by(try dsimp only[lM]);omega) ?_
 refine aB (fun r3=> ?_)
 exact jG hK ⟨p.g,r3.q⟩ (by dsimp only[gK]<;>(first|(exact⟨⟨hi0.2.1,i1,i2,i3,i4,i5⟩,gI (x:=aS p.g) (by assumption) hi0.1,fun k h=>by unfold bD at h ⊢;(try simp only at*);omega⟩)|(exact⟨⟨i0,hi0.2.1,i2,i3,i4,i5⟩,gH (x:=aS p.g) (by assumption) hi0.1,fun k h=>by unfold bD at h ⊢;(try simp only at*);omega⟩)|(have hz:=hi0;(exact⟨⟨i0,i1,hz.1.2.1,i3,i4,i5⟩,eY (x:=aS p.g) (by assumption) (by assumption) rfl hz.1.1,fun k h=>by unfold bD at h ⊢;(try simp only at*);omega⟩))|(have hz:=hi0;(exact⟨⟨i0,i1,i2,hz.1.2.1,i4,i5⟩,eX (x:=aS p.g) (by assumption) (by assumption) rfl hz.1.1,fun k h=>by unfold bD at h ⊢;(try simp only at*);omega⟩))|(have hz:=hi0;(exact⟨⟨i0,i1,i2,i3,hz.1.2.1,i5⟩,eW (x:=aS p.g) (by assumption) (by assumption) rfl hz.1.1,fun k h=>by unfold bD at h ⊢;(try simp only at*);omega⟩))|(have hz:=hi0;(exact⟨⟨i0,i1,i2,i3,i4,hz.1.2.1⟩,eV (x:=aS p.g) (by assumption) (by assumption) rfl hz.1.1,fun k h=>by unfold bD at h ⊢;(try simp only at*);omega⟩))|(exact⟨⟨i0,i1,i2,i3,i4,i5⟩,gG (x:=aS p.g) (by assumption) (by omega),fun k h=>by unfold bD at h ⊢;(try simp only at*);omega⟩)|(exact⟨⟨i0,i1,i2,i3,i4,i5⟩,eZ (x:=aS p.g) (by omega) (by omega) (by omega),fun k h=>by unfold bD at h ⊢;(try simp only at*);omega⟩)))
 refine iI (fun hc14=> ?_) (fun hc14=> ?_)
 refine aJ (⟨p.g,p.a.t⟩:rm) rfl (by(try dsimp only[rU]);omega) fun r8 hi15=> ?_
 dsimp only[qK]at hi15
 exact jG hK ⟨({p.g with t:=r8.t}:bW),r8.q⟩ (by dsimp only[gK]<;>(first|(exact⟨⟨hi15.2.1,i1,i2,i3,i4,i5⟩,gI (x:=aS p.g) (by assumption) hi15.1,fun k h=>by unfold bD at h ⊢;(try simp only at*);omega⟩)|(exact⟨⟨i0,hi15.2.1,i2,i3,i4,i5⟩,gH (x:=aS p.g) (by assumption) hi15.1,fun k h=>by unfold bD at h ⊢;(try simp only at*);omega⟩)|(have hz:=hi15;(exact⟨⟨i0,i1,hz.1.2.1,i3,i4,i5⟩,eY (x:=aS p.g) (by assumption) (by assumption) rfl hz.1.1,fun k h=>by unfold bD at h ⊢;(try simp only at*);omega⟩))|(have hz:=hi15;(exact⟨⟨i0,i1,i2,hz.1.2.1,i4,i5⟩,eX (x:=aS p.g) (by assumption) (by assumption) rfl hz.1.1,fun k h=>by unfold bD at h ⊢;(try simp only at*);omega⟩))|(have hz:=hi15;(exact⟨⟨i0,i1,i2,i3,hz.1.2.1,i5⟩,eW (x:=aS p.g) (by assumption) (by assumption) rfl hz.1.1,fun k h=>by unfold bD at h ⊢;(try simp only at*);omega⟩))|(have hz:=hi15;(exact⟨⟨i0,i1,i2,i3,i4,hz.1.2.1⟩,eV (x:=aS p.g) (by assumption) (by assumption) rfl hz.1.1,fun k h=>by unfold bD at h ⊢;(try simp only at*);omega⟩))|(exact⟨⟨i0,i1,i2,i3,i4,i5⟩,gG (x:=aS p.g) (by assumption) (by omega),fun k h=>by unfold bD at h ⊢;(try simp only at*);omega⟩)|(exact⟨⟨i0,i1,i2,i3,i4,i5⟩,eZ (x:=aS p.g) (by omega) (by omega) (by omega),fun k h=>by unfold bD at h ⊢;(try simp only at*);omega⟩)))
 refine iI (fun hc16=> ?_) (fun hc16=> ?_)
 refine aJ (⟨p.g,p.a.s⟩:vr) rfl (by(try dsimp only[uc]);omega) fun r9 hi17=> ?_
 dsimp only[tM]at hi17
 exact jG hK ⟨({p.g with s:=r9.s}:bW),r9.q⟩ (by dsimp only[gK]<;>(first|(exact⟨⟨hi17.2.1,i1,i2,i3,i4,i5⟩,gI (x:=aS p.g) (by assumption) hi17.1,fun k h=>by unfold bD at h ⊢;(try simp only at*);omega⟩)|(exact⟨⟨i0,hi17.2.1,i2,i3,i4,i5⟩,gH (x:=aS p.g) (by assumption) hi17.1,fun k h=>by unfold bD at h ⊢;(try simp only at*);omega⟩)|(have hz:=hi17;(exact⟨⟨i0,i1,hz.1.2.1,i3,i4,i5⟩,eY (x:=aS p.g) (by assumption) (by assumption) rfl hz.1.1,fun k h=>by unfold bD at h ⊢;(try simp only at*);omega⟩))|(have hz:=hi17;(exact⟨⟨i0,i1,i2,hz.1.2.1,i4,i5⟩,eX (x:=aS p.g) (by assumption) (by assumption) rfl hz.1.1,fun k h=>by unfold bD at h ⊢;(try simp only at*);omega⟩))|(have hz:=hi17;(exact⟨⟨i0,i1,i2,i3,hz.1.2.1,i5⟩,eW (x:=aS p.g) (by assumption) (by assumption) rfl hz.1.1,fun k h=>by unfold bD at h ⊢;(try simp only at*);omega⟩))|(have hz:=hi17;(exact⟨⟨i0,i1,i2,i3,i4,hz.1.2.1⟩,eV (x:=aS p.g) (by assumption) (by assumption) rfl hz.1.1,fun k h=>by unfold bD at h ⊢;(try simp only at*);omega⟩))|(exact⟨⟨i0,i1,i2,i3,i4,i5⟩,gG (x:=aS p.g) (by assumption) (by omega),fun k h=>by unfold bD at h ⊢;(try simp only at*);omega⟩)|(exact⟨⟨i0,i1,i2,i3,i4,i5⟩,eZ (x:=aS p.g) (by omega) (by omega) (by omega),fun k h=>by unfold bD at h ⊢;(try simp only at*);omega⟩)))
 exact jG hK ⟨p.g,false=true⟩ (by dsimp only[gK]<;>(first|(exact⟨⟨hi0.2.1,i1,i2,i3,i4,i5⟩,gI (x:=aS p.g) (by assumption) hi0.1,fun k h=>by unfold bD at h ⊢;(try simp only at*);omega⟩)|(exact⟨⟨i0,hi0.2.1,i2,i3,i4,i5⟩,gH (x:=aS p.g) (by assumption) hi0.1,fun k h=>by unfold bD at h ⊢;(try simp only at*);omega⟩)|(have hz:=hi0;(exact⟨⟨i0,i1,hz.1.2.1,i3,i4,i5⟩,eY (x:=aS p.g) (by assumption) (by assumption) rfl hz.1.1,fun k h=>by unfold bD at h ⊢;(try simp only at*);omega⟩))|(have hz:=hi0;(exact⟨⟨i0,i1,i2,hz.1.2.1,i4,i5⟩,eX (x:=aS p.g) (by assumption) (by assumption) rfl hz.1.1,fun k h=>by unfold bD at h ⊢;(try simp only at*);omega⟩))|(have hz:=hi0;(exact⟨⟨i0,i1,i2,i3,hz.1.2.1,i5⟩,eW (x:=aS p.g) (by assumption) (by assumption) rfl hz.1.1,fun k h=>by unfold bD at h ⊢;(try simp only at*);omega⟩))|(have hz:=hi0;(exact⟨⟨i0,i1,i2,i3,i4,hz.1.2.1⟩,eV (x:=aS p.g) (by assumption) (by assumption) rfl hz.1.1,fun k h=>by unfold bD at h ⊢;(try simp only at*);omega⟩))|(exact⟨⟨i0,i1,i2,i3,i4,i5⟩,gG (x:=aS p.g) (by assumption) (by omega),fun k h=>by unfold bD at h ⊢;(try simp only at*);omega⟩)|(exact⟨⟨i0,i1,i2,i3,i4,i5⟩,eZ (x:=aS p.g) (by omega) (by omega) (by omega),fun k h=>by unfold bD at h ⊢;(try simp only at*);omega⟩)))
noncomputable def Fp:=bM uC 1 (ce CJ (dD uf EY)) 8 [(1,15)]
theorem Eb:be Tryz.prog Fp:=aY (cX (f:=8) (k:=1) (aT vT) QY (by rfl) (by rfl) Xg) vT
def na (p:aW):List UInt8:=Lib.itoa p.g++([58]++(if p.k=0 then [82,101,97,100,40]++p.key++[41] else if p.k=1 then [87,114,105,116,101,40]++p.key++[61]++p.val++[41] else if p.k=2 then [65,100,100,40]++p.key++[43]++Lib.itoa p.n++[41] else if p.k=3 then [84,97,107,101,40]++p.key++[45]++Lib.itoa p.n++[41] else if p.k=4 then [69,114,97,115,101,40]++p.key++[41] else [63]))
theorem Bd {p:aW} (h:qz p) (h2:qG p):(na p).length≤6100:=by
 unfold qG oO at h2
 unfold qz at h
 have e1:=Lib.itoa_length_le p.g (by omega) (by omega)
 have e2:=Lib.itoa_length_le p.n (by omega) (by omega)
 unfold na
 repeat' split
 all_goals
  simp only[acC,acD,acF]
  omega
theorem bF {a b:List UInt8} {n:Nat} (h:a=b) (h2:b.length≤n):a=b∧a.length≤n:=⟨h,h▸h2⟩
def jf (l:List aW):List UInt8:=(l.map fun p=>32::na p).flatten
theorem Gl {l:List aW} {i:Int} {x:aW} (h0:0≤i) (hx:l[i.toNat]?=some x):jf (l.drop i.toNat)=32::(na x++jf (l.drop (i+1).toNat)):=by
 obtain⟨h,e⟩:=List.getElem?_eq_some_iff.1 hx
 rw[show(i+1).toNat=i.toNat+1 by omega,List.drop_eq_getElem_cons h,e]
 simp[jf]
theorem Jl {l:List aW} {i:Int} (h:(l.length:Int)≤i):jf (l.drop i.toNat)=[]:=by
 rw[List.drop_eq_nil_of_le (by omega)];rfl
theorem Jm:∀{l:List aW},(∀y∈l,qz y)→(∀y∈l,qG y)→(jf l).length≤6101*l.length
 |[],_,_=>by simp[jf]
 |x::l,h1,h2=>by
  have e1:=Bd (h1 x List.mem_cons_self) (h2 x List.mem_cons_self)
  have e2:=Jm (l:=l) (fun y hy=>h1 y (List.mem_cons_of_mem _ hy)) (fun y hy=>h2 y (List.mem_cons_of_mem _ hy))
  have e3:jf (x::l)=(32::na x)++jf l:=by simp[jf]
  rw[e3,acC,acD,acD,Nat.mul_add]
  omega
def bI (e:lJ):List UInt8:=if e.kind=2 then [75,105,108,108,32]++aE e.vic.node e.vic.life else if e.kind=1 then [66,97,99,107,32]++ah e.id else if e.kind=3 then [67,104,101,99,107,32]++ah e.id++jf e.ps else if e.kind=0 then [67,97,108,108,32]++ah e.id++jf e.ps else []
theorem fC {e:ai} (h:bp e):(bI (aq e)).length≤1300000:=by
 obtain⟨⟨h1,h2,h3,h4⟩,⟨h5,h6⟩,h7⟩:=h
 have e1:=ib e.id h2
 have e2:=Jm h6 h3
 have e3:=cq e.vic.node e.vic.life (by obtain⟨⟨_,_⟩,⟨_,_⟩⟩:=h4;constructor<;>omega) (by obtain⟨⟨_,_⟩,⟨_,_⟩⟩:=h4;constructor<;>omega)
 have e4:6101*e.ps.length≤6101*199:=Nat.mul_le_mul_left _ h5
 unfold bI aq
 simp only
 repeat' split
 all_goals
  simp only[acC,acD,acF]
  omega
theorem Xr {ps:List aW} {i:Int} {x:aW} {w r s:List UInt8} (h0:0≤i) (hx:ps[i.toNat]?=some x) (hs:s=na x) (h:r=(w++(t_0++s))++jf (ps.drop (i+1).toNat)):r=w++jf (ps.drop i.toNat):=by
 rw[h,Gl h0 hx,hs];simp
theorem UK {ps:List aW} {i:Int} {x:aW} {w r s:List UInt8} (h0:0≤i) (hx:ps[i.toNat]?=some x) (hs:s=na x) (h:r=((w++t_0)++s)++jf (ps.drop (i+1).toNat)):r=w++jf (ps.drop i.toNat):=by
 rw[h,Gl h0 hx,hs];simp
def LZ:XF:=.mk 67 (.one 2) (.aft (.seq (g_ 2 [e_ 0 1 (.box 154 (.t 0)),p_ 1 2 (.mv (.c (.str [])))]) (.seq (g_ 6 [p_ 0 5 (f_ 0 1),r_ 1 6 (l_ 5),p_ 2 7 (.cnv 0 (.t 6)),c_ 3 8 32 [.t 7],p_ 4 9 (.bin 4 0 (.t 8) (.c (.str [58]))),p_ 5 3 (m_ 9)]) (.seq (g_ 4 [p_ 0 10 (f_ 4 1),r_ 1 11 (l_ 10),c_ 2 12 85 [.t 11,i_ 10],p_ 3 4 (m_ 12)]) (.seq (.seq (g_ 2 [p_ 0 13 (f_ 1 1),r_ 1 14 (l_ 13)]) (.block 2 (.seq (g_ 2 [p_ 0 16 (.bin 3 4 (.t 14) (.c (.int 1 (.ofNat 0)))),p_ 1 15 (m_ 16)]) (.cond (.t 15) (.seq (g_ 7 [p_ 0 17 (m_ 3),p_ 1 18 (.bin 4 0 (.t 17) (.c (.str [82,101,97,100,40]))),p_ 2 19 (f_ 2 1),r_ 3 20 (l_ 19),p_ 4 21 (.bin 4 0 (.t 18) (.t 20)),p_ 5 22 (.bin 4 0 (.t 21) (.c (.str [41]))),p_ 6 2 (m_ 22)]) .ret) (.seq (g_ 2 [p_ 0 24 (.bin 3 4 (.t 14) (.c (.int 1 (.ofNat 1)))),p_ 1 23 (m_ 24)]) (.cond (.t 23) (.seq (g_ 11 [p_ 0 25 (m_ 3),p_ 1 26 (.bin 4 0 (.t 25) (.c (.str [87,114,105,116,101,40]))),p_ 2 27 (f_ 2 1),r_ 3 28 (l_ 27),p_ 4 29 (.bin 4 0 (.t 26) (.t 28)),p_ 5 30 (.bin 4 0 (.t 29) (.c (.str [61]))),p_ 6 31 (f_ 3 1),r_ 7 32 (l_ 31),p_ 8 33 (.bin 4 0 (.t 30) (.t 32)),p_ 9 34 (.bin 4 0 (.t 33) (.c (.str [41]))),p_ 10 2 (m_ 34)]) .ret) (.seq (g_ 2 [p_ 0 36 (.bin 3 4 (.t 14) (.c (.int 1 (.ofNat 2)))),p_ 1 35 (m_ 36)]) (.cond (.t 35) (.seq (g_ 10 [p_ 0 37 (m_ 3),p_ 1 38 (.bin 4 0 (.t 37) (.c (.str [65,100,100,40]))),p_ 2 39 (f_ 2 1),r_ 3 40 (l_ 39),p_ 4 41 (.bin 4 0 (.t 38) (.t 40)),p_ 5 42 (.bin 4 0 (.t 41) (.c (.str [43]))),p_ 6 43 (m_ 4),p_ 7 44 (.bin 4 0 (.t 42) (.t 43)),p_ 8 45 (.bin 4 0 (.t 44) (.c (.str [41]))),p_ 9 2 (m_ 45)]) .ret) (.seq (g_ 2 [p_ 0 47 (.bin 3 4 (.t 14) (.c (.int 1 (.ofNat 3)))),p_ 1 46 (m_ 47)]) (.cond (.t 46) (.seq (g_ 10 [p_ 0 48 (m_ 3),p_ 1 49 (.bin 4 0 (.t 48) (.c (.str [84,97,107,101,40]))),p_ 2 50 (f_ 2 1),r_ 3 51 (l_ 50),p_ 4 52 (.bin 4 0 (.t 49) (.t 51)),p_ 5 53 (.bin 4 0 (.t 52) (.c (.str [45]))),p_ 6 54 (m_ 4),p_ 7 55 (.bin 4 0 (.t 53) (.t 54)),p_ 8 56 (.bin 4 0 (.t 55) (.c (.str [41]))),p_ 9 2 (m_ 56)]) .ret) (.seq (g_ 2 [p_ 0 58 (.bin 3 4 (.t 14) (.c (.int 1 (.ofNat 4)))),p_ 1 57 (m_ 58)]) (.cond (.t 57) (.seq (g_ 7 [p_ 0 59 (m_ 3),p_ 1 60 (.bin 4 0 (.t 59) (.c (.str [69,114,97,115,101,40]))),p_ 2 61 (f_ 2 1),r_ 3 62 (l_ 61),p_ 4 63 (.bin 4 0 (.t 60) (.t 62)),p_ 5 64 (.bin 4 0 (.t 63) (.c (.str [41]))),p_ 6 2 (m_ 64)]) .ret) .skip)))))))))))) (.seq (g_ 3 [p_ 0 65 (m_ 3),p_ 1 66 (.bin 4 0 (.t 65) (.c (.str [63]))),p_ 2 2 (m_ 66)]) .ret))))) [(0,[.up 2]),(1,[.up 2])])
theorem Ok:bT Tryz.prog 69 LZ=true:=by kernel_rfl
structure rl where
 p:aW
structure IW where
 s:List UInt8
def uk (p:rl) (r:IW):Prop:=r.s=na p.p∧r.s.length≤6100
noncomputable def yj (p:rl):IE:=([.agg (Rx p.p)],.leaf,0)
noncomputable def Bj (p:rl) (K:KE):Bool:=aA fun r:IW=>iP (uk p r) (K (.sy (.str r.s)) .leaf 0) true
def rT (p:rl):Prop:=qz p.p∧qG p.p
theorem pg {p:rl} {K:KE} (hK:Bj p K=true) (r:IW) (h:uk p r:=by dsimp only[uk]<;>(exact bF (by first|(simp_all [na];done)|(unfold na;simp;simp_all;done)) (Bd pr1 pr2))):K (.sy (.str r.s)) .leaf 0=true:=aP h (aF hK r)
theorem Ui (p:rl) (K:KE) (hpre:rT p) (hK:Bj p K=true):(bZ 0 (bH Fp) dT 600 LZ (yj p).1 (yj p).2.1 (yj p).2.2 K)=true:=by
 refine Eq.trans (b:=(mP (aL 0 p.p.g) (mP (aL 0 p.p.g) (mP ((Lib.itoa p.p.g).length+t_2.length≤9223372036854775807) (mP (aL 0 p.p.n) (iP (p.p.k=(0:Int)) (mP (((Lib.itoa p.p.g)++t_2).length+t_23.length≤9223372036854775807) (mP ((((Lib.itoa p.p.g)++t_2)++t_23).length+p.p.key.length≤9223372036854775807) (mP (((((Lib.itoa p.p.g)++t_2)++t_23)++p.p.key).length+t_11.length≤9223372036854775807) (K (.sy (.str (((((Lib.itoa p.p.g)++t_2)++t_23)++p.p.key)++t_11))) .leaf 0)))) (iP (p.p.k=(1:Int)) (mP (((Lib.itoa p.p.g)++t_2).length+t_16.length≤9223372036854775807) (mP ((((Lib.itoa p.p.g)++t_2)++t_16).length+p.p.key.length≤9223372036854775807) (mP (((((Lib.itoa p.p.g)++t_2)++t_16)++p.p.key).length+t_24.length≤9223372036854775807) (mP ((((((Lib.itoa p.p.g)++t_2)++t_16)++p.p.key)++t_24).length+p.p.val.length≤9223372036854775807) (mP (((((((Lib.itoa p.p.g)++t_2)++t_16)++p.p.key)++t_24)++p.p.val).length+t_11.length≤9223372036854775807) (K (.sy (.str (((((((Lib.itoa p.p.g)++t_2)++t_16)++p.p.key)++t_24)++p.p.val)++t_11))) .leaf 0)))))) (iP (p.p.k=(2:Int)) (mP (((Lib.itoa p.p.g)++t_2).length+t_17.length≤9223372036854775807) (mP ((((Lib.itoa p.p.g)++t_2)++t_17).length+p.p.key.length≤9223372036854775807) (mP (((((Lib.itoa p.p.g)++t_2)++t_17)++p.p.key).length+t_25.length≤9223372036854775807) (mP ((((((Lib.itoa p.p.g)++t_2)++t_17)++p.p.key)++t_25).length+(Lib.itoa p.p.n).length≤9223372036854775807) (mP (((((((Lib.itoa p.p.g)++t_2)++t_17)++p.p.key)++t_25)++(Lib.itoa p.p.n)).length+t_11.length≤9223372036854775807) (K (.sy (.str (((((((Lib.itoa p.p.g)++t_2)++t_17)++p.p.key)++t_25)++(Lib.itoa p.p.n))++t_11))) .leaf 0)))))) (iP (p.p.k=(3:Int)) (mP (((Lib.itoa p.p.g)++t_2).length+t_18.length≤9223372036854775807) (mP ((((Lib.itoa p.p.g)++t_2)++t_18).length+p.p.key.length≤9223372036854775807) (mP (((((Lib.itoa p.p.g)++t_2)++t_18)++p.p.key).length+t_26.length≤9223372036854775807) (mP ((((((Lib.itoa p.p.g)++t_2)++t_18)++p.p.key)++t_26).length+(Lib.itoa p.p.n).length≤9223372036854775807) (mP (((((((Lib.itoa p.p.g)++t_2)++t_18)++p.p.key)++t_26)++(Lib.itoa p.p.n)).length+t_11.length≤9223372036854775807) (K (.sy (.str (((((((Lib.itoa p.p.g)++t_2)++t_18)++p.p.key)++t_26)++(Lib.itoa p.p.n))++t_11))) .leaf 0)))))) (iP (p.p.k=(4:Int)) (mP (((Lib.itoa p.p.g)++t_2).length+t_27.length≤9223372036854775807) (mP ((((Lib.itoa p.p.g)++t_2)++t_27).length+p.p.key.length≤9223372036854775807) (mP (((((Lib.itoa p.p.g)++t_2)++t_27)++p.p.key).length+t_11.length≤9223372036854775807) (K (.sy (.str (((((Lib.itoa p.p.g)++t_2)++t_27)++p.p.key)++t_11))) .leaf 0)))) (mP (((Lib.itoa p.p.g)++t_2).length+t_31.length≤9223372036854775807) (K (.sy (.str (((Lib.itoa p.p.g)++t_2)++t_31))) .leaf 0)))))))))))) (by kernel_rfl) ?_
 dsimp only[rT]at hpre
 obtain⟨pr1,pr2⟩:=hpre
 have pr3:=pr1
 have pr4:=pr2
 unfold qz at pr3
 unfold qG oO at pr4
 have pr5:=Lib.itoa_length_le p.p.g (by omega) (by omega)
 have pr6:=Lib.itoa_length_le p.p.n (by omega) (by omega)
 refine aN (aN (bq (aN ?_)))
 refine iI (fun hc1=> ?_) (fun hc1=> ?_)
 refine bq (bq (bq ?_))
 exact pg hK ⟨((((Lib.itoa p.p.g)++t_2)++t_23)++p.p.key)++t_11⟩
 refine iI (fun hc2=> ?_) (fun hc2=> ?_)
 refine bq (bq (bq (bq ?_)))
 refine bq ?_
 exact pg hK ⟨((((((Lib.itoa p.p.g)++t_2)++t_16)++p.p.key)++t_24)++p.p.val)++t_11⟩
 refine iI (fun hc3=> ?_) (fun hc3=> ?_)
 refine bq (bq (bq (bq ?_)))
 refine bq ?_
 exact pg hK ⟨((((((Lib.itoa p.p.g)++t_2)++t_17)++p.p.key)++t_25)++(Lib.itoa p.p.n))++t_11⟩
 refine iI (fun hc4=> ?_) (fun hc4=> ?_)
 refine bq (bq (bq (bq ?_)))
 refine bq ?_
 exact pg hK ⟨((((((Lib.itoa p.p.g)++t_2)++t_18)++p.p.key)++t_26)++(Lib.itoa p.p.n))++t_11⟩
 refine iI (fun hc5=> ?_) (fun hc5=> ?_)
 refine bq (bq (bq ?_))
 exact pg hK ⟨((((Lib.itoa p.p.g)++t_2)++t_27)++p.p.key)++t_11⟩
 refine bq ?_
 exact pg hK ⟨((Lib.itoa p.p.g)++t_2)++t_31⟩
noncomputable def Bz:=bM Fp 0 (ce yj (dD rT Bj)) 69 [(0,15)]
theorem By:be Tryz.prog Bz:=aY (cX (f:=69) (k:=0) (aT Eb) Ok (by rfl) (by rfl) Ui) Eb
def JO:XF:=.mk 67 (.one 2) (.aft (.seq (g_ 2 [e_ 0 1 (.box 150 (.t 0)),p_ 1 2 (.mv (.c (.str [])))]) (.seq (g_ 6 [p_ 0 4 (f_ 0 1),r_ 1 5 (l_ 4),p_ 2 6 (.cnv 0 (.t 5)),c_ 3 7 70 [.t 6],p_ 4 8 (.bin 4 0 (.t 7) (.c (.str [58]))),p_ 5 3 (m_ 8)]) (.seq (.seq (g_ 2 [p_ 0 9 (f_ 1 1),r_ 1 10 (l_ 9)]) (.block 2 (.seq (g_ 2 [p_ 0 12 (.bin 3 4 (.t 10) (.c (.int 1 (.ofNat 0)))),p_ 1 11 (m_ 12)]) (.cond (.t 11) (.seq (g_ 7 [p_ 0 13 (m_ 3),p_ 1 14 (.bin 4 0 (.t 13) (.c (.str [82,101,97,100,40]))),p_ 2 15 (f_ 2 1),r_ 3 16 (l_ 15),p_ 4 17 (.bin 4 0 (.t 14) (.t 16)),p_ 5 18 (.bin 4 0 (.t 17) (.c (.str [41]))),p_ 6 2 (m_ 18)]) .ret) (.seq (g_ 2 [p_ 0 20 (.bin 3 4 (.t 10) (.c (.int 1 (.ofNat 1)))),p_ 1 19 (m_ 20)]) (.cond (.t 19) (.seq (g_ 11 [p_ 0 21 (m_ 3),p_ 1 22 (.bin 4 0 (.t 21) (.c (.str [87,114,105,116,101,40]))),p_ 2 23 (f_ 2 1),r_ 3 24 (l_ 23),p_ 4 25 (.bin 4 0 (.t 22) (.t 24)),p_ 5 26 (.bin 4 0 (.t 25) (.c (.str [61]))),p_ 6 27 (f_ 3 1),r_ 7 28 (l_ 27),p_ 8 29 (.bin 4 0 (.t 26) (.t 28)),p_ 9 30 (.bin 4 0 (.t 29) (.c (.str [41]))),p_ 10 2 (m_ 30)]) .ret) (.seq (g_ 2 [p_ 0 32 (.bin 3 4 (.t 10) (.c (.int 1 (.ofNat 2)))),p_ 1 31 (m_ 32)]) (.cond (.t 31) (.seq (h_ 12 [p_ 0 33 (m_ 3),p_ 1 34 (.bin 4 0 (.t 33) (.c (.str [65,100,100,40]))),p_ 2 35 (f_ 2 1),r_ 3 36 (l_ 35),p_ 4 37 (.bin 4 0 (.t 34) (.t 36)),p_ 5 38 (.bin 4 0 (.t 37) (.c (.str [43]))),p_ 6 39 (f_ 4 1),r_ 7 40 (l_ 39),c_ 8 41 70 [.t 40],a_ 3 36 (l_ 35),p_ 9 42 (.bin 4 0 (.t 38) (.t 41)),p_ 10 43 (.bin 4 0 (.t 42) (.c (.str [41]))),p_ 11 2 (m_ 43)]) .ret) (.seq (g_ 2 [p_ 0 45 (.bin 3 4 (.t 10) (.c (.int 1 (.ofNat 3)))),p_ 1 44 (m_ 45)]) (.cond (.t 44) (.seq (h_ 12 [p_ 0 46 (m_ 3),p_ 1 47 (.bin 4 0 (.t 46) (.c (.str [84,97,107,101,40]))),p_ 2 48 (f_ 2 1),r_ 3 49 (l_ 48),p_ 4 50 (.bin 4 0 (.t 47) (.t 49)),p_ 5 51 (.bin 4 0 (.t 50) (.c (.str [45]))),p_ 6 52 (f_ 4 1),r_ 7 53 (l_ 52),c_ 8 54 70 [.t 53],a_ 3 49 (l_ 48),p_ 9 55 (.bin 4 0 (.t 51) (.t 54)),p_ 10 56 (.bin 4 0 (.t 55) (.c (.str [41]))),p_ 11 2 (m_ 56)]) .ret) (.seq (g_ 2 [p_ 0 58 (.bin 3 4 (.t 10) (.c (.int 1 (.ofNat 4)))),p_ 1 57 (m_ 58)]) (.cond (.t 57) (.seq (g_ 7 [p_ 0 59 (m_ 3),p_ 1 60 (.bin 4 0 (.t 59) (.c (.str [69,114,97,115,101,40]))),p_ 2 61 (f_ 2 1),r_ 3 62 (l_ 61),p_ 4 63 (.bin 4 0 (.t 60) (.t 62)),p_ 5 64 (.bin 4 0 (.t 63) (.c (.str [41]))),p_ 6 2 (m_ 64)]) .ret) .skip)))))))))))) (.seq (g_ 3 [p_ 0 65 (m_ 3),p_ 1 66 (.bin 4 0 (.t 65) (.c (.str [63]))),p_ 2 2 (m_ 66)]) .ret)))) [(0,[.up 2]),(1,[.up 2])])
theorem Mc:bT Tryz.prog 71 JO=true:=by kernel_rfl
structure oQ where
 p:aW
structure FV where
 s:List UInt8
def sc (p:oQ) (r:FV):Prop:=r.s=na p.p∧r.s.length≤6100
noncomputable def vi (p:oQ):IE:=([.agg (Rx p.p)],.leaf,0)
noncomputable def yN (p:oQ) (K:KE):Bool:=aA fun r:FV=>iP (sc p r) (K (.sy (.str r.s)) .leaf 0) true
def pJ (p:oQ):Prop:=qz p.p∧qG p.p
theorem nt {p:oQ} {K:KE} (hK:yN p K=true) (r:FV) (h:sc p r:=by dsimp only[sc]<;>(exact bF (by first|(simp_all [na];done)|(unfold na;simp;simp_all;done)) (Bd pr1 pr2))):K (.sy (.str r.s)) .leaf 0=true:=aP h (aF hK r)
theorem RW (p:oQ) (K:KE) (hpre:pJ p) (hK:yN p K=true):(bZ 0 (bH Bz) dT 600 JO (vi p).1 (vi p).2.1 (vi p).2.2 K)=true:=by
 refine Eq.trans (b:=(mP (aL 0 p.p.g) (mP (aL 0 p.p.g) (mP ((Lib.itoa p.p.g).length+t_2.length≤9223372036854775807) (iP (p.p.k=(0:Int)) (mP (((Lib.itoa p.p.g)++t_2).length+t_23.length≤9223372036854775807) (mP ((((Lib.itoa p.p.g)++t_2)++t_23).length+p.p.key.length≤9223372036854775807) (mP (((((Lib.itoa p.p.g)++t_2)++t_23)++p.p.key).length+t_11.length≤9223372036854775807) (K (.sy (.str (((((Lib.itoa p.p.g)++t_2)++t_23)++p.p.key)++t_11))) .leaf 0)))) (iP (p.p.k=(1:Int)) (mP (((Lib.itoa p.p.g)++t_2).length+t_16.length≤9223372036854775807) (mP ((((Lib.itoa p.p.g)++t_2)++t_16).length+p.p.key.length≤9223372036854775807) (mP (((((Lib.itoa p.p.g)++t_2)++t_16)++p.p.key).length+t_24.length≤9223372036854775807) (mP ((((((Lib.itoa p.p.g)++t_2)++t_16)++p.p.key)++t_24).length+p.p.val.length≤9223372036854775807) (mP (((((((Lib.itoa p.p.g)++t_2)++t_16)++p.p.key)++t_24)++p.p.val).length+t_11.length≤9223372036854775807) (K (.sy (.str (((((((Lib.itoa p.p.g)++t_2)++t_16)++p.p.key)++t_24)++p.p.val)++t_11))) .leaf 0)))))) (iP (p.p.k=(2:Int)) (mP (((Lib.itoa p.p.g)++t_2).length+t_17.length≤9223372036854775807) (mP ((((Lib.itoa p.p.g)++t_2)++t_17).length+p.p.key.length≤9223372036854775807) (mP (((((Lib.itoa p.p.g)++t_2)++t_17)++p.p.key).length+t_25.length≤9223372036854775807) (mP (aL 0 p.p.n) (mP (((.str p.p.key):SY)=(.str p.p.key)) (mP ((((((Lib.itoa p.p.g)++t_2)++t_17)++p.p.key)++t_25).length+(Lib.itoa p.p.n).length≤9223372036854775807) (mP (((((((Lib.itoa p.p.g)++t_2)++t_17)++p.p.key)++t_25)++(Lib.itoa p.p.n)).length+t_11.length≤9223372036854775807) (K (.sy (.str (((((((Lib.itoa p.p.g)++t_2)++t_17)++p.p.key)++t_25)++(Lib.itoa p.p.n))++t_11))) .leaf 0)))))))) (iP (p.p.k=(3:Int)) (mP (((Lib.itoa p.p.g)++t_2).length+t_18.length≤9223372036854775807) (mP ((((Lib.itoa p.p.g)++t_2)++t_18).length+p.p.key.length≤9223372036854775807) (mP (((((Lib.itoa p.p.g)++t_2)++t_18)++p.p.key).length+t_26.length≤9223372036854775807) (mP (aL 0 p.p.n) (mP (((.str p.p.key):SY)=(.str p.p.key)) (mP ((((((Lib.itoa p.p.g)++t_2)++t_18)++p.p.key)++t_26).length+(Lib.itoa p.p.n).length≤9223372036854775807) (mP (((((((Lib.itoa p.p.g)++t_2)++t_18)++p.p.key)++t_26)++(Lib.itoa p.p.n)).length+t_11.length≤9223372036854775807) (K (.sy (.str (((((((Lib.itoa p.p.g)++t_2)++t_18)++p.p.key)++t_26)++(Lib.itoa p.p.n))++t_11))) .leaf 0)))))))) (iP (p.p.k=(4:Int)) (mP (((Lib.itoa p.p.g)++t_2).length+t_27.length≤9223372036854775807) (mP ((((Lib.itoa p.p.g)++t_2)++t_27).length+p.p.key.length≤9223372036854775807) (mP (((((Lib.itoa p.p.g)++t_2)++t_27)++p.p.key).length+t_11.length≤9223372036854775807) (K (.sy (.str (((((Lib.itoa p.p.g)++t_2)++t_27)++p.p.key)++t_11))) .leaf 0)))) (mP (((Lib.itoa p.p.g)++t_2).length+t_31.length≤9223372036854775807) (K (.sy (.str (((Lib.itoa p.p.g)++t_2)++t_31))) .leaf 0))))))))))) (by kernel_rfl) ?_
 dsimp only[pJ]at hpre
 obtain⟨pr1,pr2⟩:=hpre
 have pr3:=pr1
 have pr4:=pr2
 unfold qz at pr3
 unfold qG oO at pr4
 have pr5:=Lib.itoa_length_le p.p.g (by omega) (by omega)
 have pr6:=Lib.itoa_length_le p.p.n (by omega) (by omega)
 refine aN (aN (bq ?_))
 refine iI (fun hc1=> ?_) (fun hc1=> ?_)
 refine bq (bq (bq ?_))
 exact nt hK ⟨((((Lib.itoa p.p.g)++t_2)++t_23)++p.p.key)++t_11⟩
 refine iI (fun hc2=> ?_) (fun hc2=> ?_)
 refine bq (bq (bq (bq ?_)))
 refine bq ?_
 exact nt hK ⟨((((((Lib.itoa p.p.g)++t_2)++t_16)++p.p.key)++t_24)++p.p.val)++t_11⟩
 refine iI (fun hc3=> ?_) (fun hc3=> ?_)
 refine bq (bq (bq (aN (az (bq ?_)))))
 refine bq ?_
 exact nt hK ⟨((((((Lib.itoa p.p.g)++t_2)++t_17)++p.p.key)++t_25)++(Lib.itoa p.p.n))++t_11⟩
 refine iI (fun hc4=> ?_) (fun hc4=> ?_)
 refine bq (bq (bq (aN (az (bq ?_)))))
 refine bq ?_
 exact nt hK ⟨((((((Lib.itoa p.p.g)++t_2)++t_18)++p.p.key)++t_26)++(Lib.itoa p.p.n))++t_11⟩
 refine iI (fun hc5=> ?_) (fun hc5=> ?_)
 refine bq (bq (bq ?_))
 exact nt hK ⟨((((Lib.itoa p.p.g)++t_2)++t_27)++p.p.key)++t_11⟩
 refine bq ?_
 exact nt hK ⟨((Lib.itoa p.p.g)++t_2)++t_31⟩
noncomputable def zB:=bM Bz 0 (ce vi (dD pJ yN)) 71 [(0,15)]
theorem AK:be Tryz.prog zB:=aY (cX (f:=71) (k:=0) (aT By) Mc (by rfl) (by rfl) RW) By
def JN:XF:=.mk 54 (.one 2) (.aft (.seq (g_ 2 [e_ 0 1 (.box 45 (.t 0)),p_ 1 2 (.mv (.c (.str [])))]) (.seq (h_ 19 [p_ 0 5 (f_ 0 1),p_ 1 6 (f_ 0 5),r_ 2 7 (l_ 6),p_ 3 8 (.cnv 0 (.t 7)),p_ 6 11 (f_ 0 1),p_ 7 12 (f_ 1 11),r_ 8 13 (l_ 12),p_ 9 14 (.cnv 0 (.t 13)),p_ 13 18 (f_ 2 1),r_ 14 19 (l_ 18),p_ 15 20 (.cnv 0 (.t 19)),c_ 4 9 70 [.t 8],a_ 8 13 (l_ 12),a_ 14 19 (l_ 18),p_ 5 10 (.bin 4 0 (.t 9) (.c (.str [46]))),c_ 10 15 70 [.t 14],a_ 14 19 (l_ 18),p_ 11 16 (.bin 4 0 (.t 10) (.t 15)),p_ 12 17 (.bin 4 0 (.t 16) (.c (.str [47]))),c_ 16 21 70 [.t 20],p_ 17 22 (.bin 4 0 (.t 17) (.t 21)),p_ 18 3 (m_ 22)]) (.seq (.seq (g_ 1 [p_ 0 4 (.mv (i_ 0))]) (.block 2 (.loop [1,2,3,4,23,24,25,26,27,28,29,30,31,32,33,34,35,36,37,38,39,40,41,42,43,44,45,46,47,48,49,50,51,52,53] (.seq (.seq (g_ 9 [p_ 0 23 (m_ 4),p_ 1 24 (.bin 3 0 (.t 23) (i_ 3)),p_ 2 25 (m_ 24),aK 3 26 25 true (m_ 4),aK 4 27 25 true (f_ 3 1),bU 5 28 25 true (l_ 27),aK 6 29 25 true (.cnv 0 (.t 28)),aK 7 30 25 true (.bin 3 0 (.t 26) (.t 29)),p_ 8 31 (.pick (.t 25) (.t 30) (.c (.bool false)))]) (.cond (.t 31) .skip (.exit 2))) (.seq (.block 3 (h_ 20 [p_ 0 34 (m_ 3),p_ 1 35 (.bin 4 0 (.t 34) (.c (.str [47]))),p_ 2 36 (m_ 4),p_ 3 37 (f_ 4 1),p_ 4 38 (.ixa 3 2 (.t 37) (.t 36)),p_ 5 39 (f_ 0 38),r_ 6 40 (l_ 39),p_ 7 41 (.cnv 0 (.t 40)),p_ 11 45 (m_ 4),p_ 12 46 (f_ 4 1),p_ 13 47 (.ixa 3 2 (.t 46) (.t 45)),p_ 14 48 (f_ 1 47),r_ 15 49 (l_ 48),p_ 16 50 (.cnv 0 (.t 49)),c_ 8 42 70 [.t 41],a_ 15 49 (l_ 48),p_ 9 43 (.bin 4 0 (.t 35) (.t 42)),p_ 10 44 (.bin 4 0 (.t 43) (.c (.str [46]))),c_ 17 51 70 [.t 50],p_ 18 52 (.bin 4 0 (.t 44) (.t 51)),p_ 19 3 (m_ 52)])) (g_ 3 [p_ 0 32 (m_ 4),p_ 1 33 (.bin 0 0 (.t 32) (i_ 1)),p_ 2 4 (m_ 33)])))))) (.seq (g_ 2 [p_ 0 53 (m_ 3),p_ 1 2 (m_ 53)]) .ret)))) [(0,[.up 2]),(1,[.up 2])])
theorem Ma:bT Tryz.prog 42 JN=true:=by kernel_rfl
structure gT where
 d:ID
structure FU where
 s:List UInt8
def dw (p:gT) (r:FU):Prop:=r.s=ah p.d∧r.s.length≤260
noncomputable def jK (p:gT):IE:=([.agg (ee p.d)],.leaf,0)
noncomputable def yM (p:gT) (K:KE):Bool:=aA fun r:FU=>iP (dw p r) (K (.sy (.str r.s)) .leaf 0) true
def dE (p:gT):Prop:=p.d.ok
theorem tD {p:gT} {K:KE} (hK:yM p K=true) (r:FU) (h:dw p r):K (.sy (.str r.s)) .leaf 0=true:=aP h (aF hK r)
theorem RU (p:gT) (K:KE) (hpre:dE p) (hK:yM p K=true):(bZ 0 (bH zB) dT 600 JN (jK p).1 (jK p).2.1 (jK p).2.2 K)=true:=by
 refine Eq.trans (b:=(mP (aL 0 p.d.client.node) (mP (aL 0 p.d.client.life) (mP (aL 0 p.d.seq) (mP (aL 0 p.d.client.node) (mP (((.int 2 p.d.client.life):SY)=(.int 2 p.d.client.life)) (mP (((.int 3 p.d.seq):SY)=(.int 3 p.d.seq)) (mP ((Lib.itoa p.d.client.node).length+t_3.length≤9223372036854775807) (mP (aL 0 p.d.client.life) (mP (((.int 3 p.d.seq):SY)=(.int 3 p.d.seq)) (mP (((Lib.itoa p.d.client.node)++t_3).length+(Lib.itoa p.d.client.life).length≤9223372036854775807) (mP ((((Lib.itoa p.d.client.node)++t_3)++(Lib.itoa p.d.client.life)).length+t_4.length≤9223372036854775807) (mP (aL 0 p.d.seq) (mP (((((Lib.itoa p.d.client.node)++t_3)++(Lib.itoa p.d.client.life))++t_4).length+(Lib.itoa p.d.seq).length≤9223372036854775807) (mP (aL 0 p.d.depth) (iP ((0:Int)<p.d.depth) (mP ((((((Lib.itoa p.d.client.node)++t_3)++(Lib.itoa p.d.client.life))++t_4)++(Lib.itoa p.d.seq)).length+t_4.length≤9223372036854775807) (mP (aL 0 p.d.p0.group) (mP (aL 0 p.d.p0.index) (mP (aL 0 p.d.p0.group) (mP (((.int 1 p.d.p0.index):SY)=(.int 1 p.d.p0.index)) (mP (((((((Lib.itoa p.d.client.node)++t_3)++(Lib.itoa p.d.client.life))++t_4)++(Lib.itoa p.d.seq))++t_4).length+(Lib.itoa p.d.p0.group).length≤9223372036854775807) (mP ((((((((Lib.itoa p.d.client.node)++t_3)++(Lib.itoa p.d.client.life))++t_4)++(Lib.itoa p.d.seq))++t_4)++(Lib.itoa p.d.p0.group)).length+t_3.length≤9223372036854775807) (mP (aL 0 p.d.p0.index) (mP (((((((((Lib.itoa p.d.client.node)++t_3)++(Lib.itoa p.d.client.life))++t_4)++(Lib.itoa p.d.seq))++t_4)++(Lib.itoa p.d.p0.group))++t_3).length+(Lib.itoa p.d.p0.index).length≤9223372036854775807) (mP (aL 0 p.d.depth) (iP ((1:Int)<p.d.depth) (mP ((((((((((Lib.itoa p.d.client.node)++t_3)++(Lib.itoa p.d.client.life))++t_4)++(Lib.itoa p.d.seq))++t_4)++(Lib.itoa p.d.p0.group))++t_3)++(Lib.itoa p.d.p0.index)).length+t_4.length≤9223372036854775807) (mP (aL 0 p.d.p1.group) (mP (aL 0 p.d.p1.index) (mP (aL 0 p.d.p1.group) (mP (((.int 1 p.d.p1.index):SY)=(.int 1 p.d.p1.index)) (mP (((((((((((Lib.itoa p.d.client.node)++t_3)++(Lib.itoa p.d.client.life))++t_4)++(Lib.itoa p.d.seq))++t_4)++(Lib.itoa p.d.p0.group))++t_3)++(Lib.itoa p.d.p0.index))++t_4).length+(Lib.itoa p.d.p1.group).length≤9223372036854775807) (mP ((((((((((((Lib.itoa p.d.client.node)++t_3)++(Lib.itoa p.d.client.life))++t_4)++(Lib.itoa p.d.seq))++t_4)++(Lib.itoa p.d.p0.group))++t_3)++(Lib.itoa p.d.p0.index))++t_4)++(Lib.itoa p.d.p1.group)).length+t_3.length≤9223372036854775807) (mP (aL 0 p.d.p1.index) (mP (((((((((((((Lib.itoa p.d.client.node)++t_3)++(Lib.itoa p.d.client.life))++t_4)++(Lib.itoa p.d.seq))++t_4)++(Lib.itoa p.d.p0.group))++t_3)++(Lib.itoa p.d.p0.index))++t_4)++(Lib.itoa p.d.p1.group))++t_3).length+(Lib.itoa p.d.p1.index).length≤9223372036854775807) (mP (aL 0 p.d.depth) (iP ((2:Int)<p.d.depth) (mP ((((((((((((((Lib.itoa p.d.client.node)++t_3)++(Lib.itoa p.d.client.life))++t_4)++(Lib.itoa p.d.seq))++t_4)++(Lib.itoa p.d.p0.group))++t_3)++(Lib.itoa p.d.p0.index))++t_4)++(Lib.itoa p.d.p1.group))++t_3)++(Lib.itoa p.d.p1.index)).length+t_4.length≤9223372036854775807) (mP (aL 0 p.d.p2.group) (mP (aL 0 p.d.p2.index) (mP (aL 0 p.d.p2.group) (mP (((.int 1 p.d.p2.index):SY)=(.int 1 p.d.p2.index)) (mP (((((((((((((((Lib.itoa p.d.client.node)++t_3)++(Lib.itoa p.d.client.life))++t_4)++(Lib.itoa p.d.seq))++t_4)++(Lib.itoa p.d.p0.group))++t_3)++(Lib.itoa p.d.p0.index))++t_4)++(Lib.itoa p.d.p1.group))++t_3)++(Lib.itoa p.d.p1.index))++t_4).length+(Lib.itoa p.d.p2.group).length≤9223372036854775807) (mP ((((((((((((((((Lib.itoa p.d.client.node)++t_3)++(Lib.itoa p.d.client.life))++t_4)++(Lib.itoa p.d.seq))++t_4)++(Lib.itoa p.d.p0.group))++t_3)++(Lib.itoa p.d.p0.index))++t_4)++(Lib.itoa p.d.p1.group))++t_3)++(Lib.itoa p.d.p1.index))++t_4)++(Lib.itoa p.d.p2.group)).length+t_3.length≤9223372036854775807) (mP (aL 0 p.d.p2.index) (mP (((((((((((((((((Lib.itoa p.d.client.node)++t_3)++(Lib.itoa p.d.client.life))++t_4)++(Lib.itoa p.d.seq))++t_4)++(Lib.itoa p.d.p0.group))++t_3)++(Lib.itoa p.d.p0.index))++t_4)++(Lib.itoa p.d.p1.group))++t_3)++(Lib.itoa p.d.p1.index))++t_4)++(Lib.itoa p.d.p2.group))++t_3).length+(Lib.itoa p.d.p2.index).length≤9223372036854775807) (K (.sy (.str (((((((((((((((((Lib.itoa p.d.client.node)++t_3)++(Lib.itoa p.d.client.life))++t_4)++(Lib.itoa p.d.seq))++t_4)++(Lib.itoa p.d.p0.group))++t_3)++(Lib.itoa p.d.p0.index))++t_4)++(Lib.itoa p.d.p1.group))++t_3)++(Lib.itoa p.d.p1.index))++t_4)++(Lib.itoa p.d.p2.group))++t_3)++(Lib.itoa p.d.p2.index)))) .leaf 0)))))))))) (K (.sy (.str (((((((((((((Lib.itoa p.d.client.node)++t_3)++(Lib.itoa p.d.client.life))++t_4)++(Lib.itoa p.d.seq))++t_4)++(Lib.itoa p.d.p0.group))++t_3)++(Lib.itoa p.d.p0.index))++t_4)++(Lib.itoa p.d.p1.group))++t_3)++(Lib.itoa p.d.p1.index)))) .leaf 0)))))))))))) (K (.sy (.str (((((((((Lib.itoa p.d.client.node)++t_3)++(Lib.itoa p.d.client.life))++t_4)++(Lib.itoa p.d.seq))++t_4)++(Lib.itoa p.d.p0.group))++t_3)++(Lib.itoa p.d.p0.index)))) .leaf 0)))))))))))) (K (.sy (.str (((((Lib.itoa p.d.client.node)++t_3)++(Lib.itoa p.d.client.life))++t_4)++(Lib.itoa p.d.seq)))) .leaf 0))))))))))))))))) (by kernel_rfl) ?_
 dsimp only[dE]at hpre
 have hd0:=hpre
 obtain⟨⟨⟨hz1,hz2⟩,hz3,hz4⟩,⟨hz5,hz6⟩,⟨hz7,hz8⟩,⟨⟨hj1,hj2⟩,hj3,hj4⟩,⟨⟨hj5,hj6⟩,hj7,hj8⟩,⟨hk1,hk2⟩,hk3,hk4⟩:=hpre
 have hLa:=dp p.d.client.node (by constructor<;>omega)
 have hLa:=dp p.d.client.life (by constructor<;>omega)
 have hLa:=dp p.d.seq (by constructor<;>omega)
 have hLa:=dp p.d.p0.group (by constructor<;>omega)
 have hLa:=dp p.d.p0.index (by constructor<;>omega)
 have hLa:=dp p.d.p1.group (by constructor<;>omega)
 have hLa:=dp p.d.p1.index (by constructor<;>omega)
 have hLa:=dp p.d.p2.group (by constructor<;>omega)
 have hLa:=dp p.d.p2.index (by constructor<;>omega)
 refine aN (aN (aN (aN (az (az (bq (aN (az (bq ?_)))))))))
 refine bq (aN (bq (aN ?_)))
 refine iI (fun hc1=> ?_) (fun hc1=> ?_)
 refine bq (aN (aN (aN (az (bq (bq ?_))))))
 refine aN (bq (aN ?_))
 refine iI (fun hc2=> ?_) (fun hc2=> ?_)
 refine bq (aN (aN (aN (az (bq (bq ?_))))))
 refine aN (bq (aN ?_))
 refine iI (fun hc3=> ?_) (fun hc3=> ?_)
 refine bq (aN (aN (aN (az (bq (bq ?_))))))
 refine aN (bq ?_)
 exact tD hK ⟨((((((((((((((((Lib.itoa p.d.client.node)++t_3)++(Lib.itoa p.d.client.life))++t_4)++(Lib.itoa p.d.seq))++t_4)++(Lib.itoa p.d.p0.group))++t_3)++(Lib.itoa p.d.p0.index))++t_4)++(Lib.itoa p.d.p1.group))++t_3)++(Lib.itoa p.d.p1.index))++t_4)++(Lib.itoa p.d.p2.group))++t_3)++(Lib.itoa p.d.p2.index)⟩ (by dsimp only[dw]<;>(exact bF (by first|(unfold ah;rw[ol p.d (by omega)];simp only[acJ,acO,acK,acM,aC,aD,aE,acL];rfl)|(unfold ah;rw[oi p.d (by omega) (by omega)];simp only[acJ,acO,acK,acM,aC,aD,aE,acL];rfl)|(unfold ah;rw[oh p.d (by omega) (by omega)];simp only[acJ,acO,acK,acM,aC,aD,aE,acL];rfl)|(unfold ah;rw[og p.d (by omega)];simp only[acJ,acO,acK,acM,aC,aD,aE,acL];rfl)) (ib p.d hd0)))
 exact tD hK ⟨((((((((((((Lib.itoa p.d.client.node)++t_3)++(Lib.itoa p.d.client.life))++t_4)++(Lib.itoa p.d.seq))++t_4)++(Lib.itoa p.d.p0.group))++t_3)++(Lib.itoa p.d.p0.index))++t_4)++(Lib.itoa p.d.p1.group))++t_3)++(Lib.itoa p.d.p1.index)⟩ (by dsimp only[dw]<;>(exact bF (by first|(unfold ah;rw[ol p.d (by omega)];simp only[acJ,acO,acK,acM,aC,aD,aE,acL];rfl)|(unfold ah;rw[oi p.d (by omega) (by omega)];simp only[acJ,acO,acK,acM,aC,aD,aE,acL];rfl)|(unfold ah;rw[oh p.d (by omega) (by omega)];simp only[acJ,acO,acK,acM,aC,aD,aE,acL];rfl)|(unfold ah;rw[og p.d (by omega)];simp only[acJ,acO,acK,acM,aC,aD,aE,acL];rfl)) (ib p.d hd0)))
 exact tD hK ⟨((((((((Lib.itoa p.d.client.node)++t_3)++(Lib.itoa p.d.client.life))++t_4)++(Lib.itoa p.d.seq))++t_4)++(Lib.itoa p.d.p0.group))++t_3)++(Lib.itoa p.d.p0.index)⟩ (by dsimp only[dw]<;>(exact bF (by first|(unfold ah;rw[ol p.d (by omega)];simp only[acJ,acO,acK,acM,aC,aD,aE,acL];rfl)|(unfold ah;rw[oi p.d (by omega) (by omega)];simp only[acJ,acO,acK,acM,aC,aD,aE,acL];rfl)|(unfold ah;rw[oh p.d (by omega) (by omega)];simp only[acJ,acO,acK,acM,aC,aD,aE,acL];rfl)|(unfold ah;rw[og p.d (by omega)];simp only[acJ,acO,acK,acM,aC,aD,aE,acL];rfl)) (ib p.d hd0)))
 exact tD hK ⟨((((Lib.itoa p.d.client.node)++t_3)++(Lib.itoa p.d.client.life))++t_4)++(Lib.itoa p.d.seq)⟩ (by dsimp only[dw]<;>(exact bF (by first|(unfold ah;rw[ol p.d (by omega)];simp only[acJ,acO,acK,acM,aC,aD,aE,acL];rfl)|(unfold ah;rw[oi p.d (by omega) (by omega)];simp only[acJ,acO,acK,acM,aC,aD,aE,acL];rfl)|(unfold ah;rw[oh p.d (by omega) (by omega)];simp only[acJ,acO,acK,acM,aC,aD,aE,acL];rfl)|(unfold ah;rw[og p.d (by omega)];simp only[acJ,acO,acK,acM,aC,aD,aE,acL];rfl)) (ib p.d hd0)))
noncomputable def tv:=bM zB 0 (ce jK (dD dE yM)) 42 [(0,15)]
theorem sV:be Tryz.prog tv:=aY (cX (f:=42) (k:=0) (aT AK) Ma (by rfl) (by rfl) RU) AK
def Cj:XC:=(.aft (.seq (g_ 1 [p_ 0 40 (.bin 3 0 (.t 39) (.t 38))]) (.seq (.cond (.t 40) .skip (.exit 7)) (.seq (.block 8 (.seq (g_ 4 [p_ 0 41 (.ixs 5 (.t 37) (.t 39)),r_ 1 42 (.ld true 5 (.t 41)),e_ 2 6 (.al 154 [.int 1 (.ofNat 0),.int 1 (.ofNat 0),.str [],.str [],.int 0 (.ofNat 0)]),cA 3 (.st 5 (.t 6) (.t 42))]) (g_ 6 [p_ 0 43 (m_ 4),r_ 1 44 (.ld true 5 (.t 6)),c_ 2 45 69 [.t 44],p_ 3 46 (.bin 4 0 (.c (.str [32])) (.t 45)),p_ 4 47 (.bin 4 0 (.t 43) (.t 46)),p_ 5 4 (m_ 47)]))) (g_ 2 [p_ 0 48 (.bin 0 0 (.t 39) (i_ 1)),p_ 1 39 (m_ 48)])))) [(0,[.can 0 [4,37,38,39]]),(7,[.can 0 [4]])])
def Pj:XF:=.mk 50 (.one 2) (.aft (.seq (g_ 2 [e_ 0 1 (.box 108 (.t 0)),p_ 1 2 (.mv (.c (.str [])))]) (.seq (g_ 1 [p_ 0 3 (.mv (.c (.str [67,97,108,108,32])))]) (.seq (.seq (g_ 2 [p_ 0 7 (f_ 0 1),r_ 1 8 (l_ 7)]) (.block 2 (.seq (.block 6 (.seq (.block 5 (.seq (.block 4 (.seq (.block 3 (.seq (.seq (.seq (g_ 2 [p_ 0 10 (.bin 3 4 (.t 8) (.c (.int 1 (.ofNat 2)))),p_ 1 9 (m_ 10)]) (.cond (.t 9) (.exit 3) .skip)) (.seq (.seq (g_ 2 [p_ 0 12 (.bin 3 4 (.t 8) (.c (.int 1 (.ofNat 1)))),p_ 1 11 (m_ 12)]) (.cond (.t 11) (.exit 4) .skip)) (.seq (.seq (g_ 2 [p_ 0 14 (.bin 3 4 (.t 8) (.c (.int 1 (.ofNat 3)))),p_ 1 13 (m_ 14)]) (.cond (.t 13) (.exit 5) .skip)) (.seq (g_ 2 [p_ 0 16 (.bin 3 4 (.t 8) (.c (.int 1 (.ofNat 0)))),p_ 1 15 (m_ 16)]) (.cond (.t 15) (.exit 6) .skip))))) (.exit 2))) (.seq (.seq (g_ 11 [p_ 0 17 (f_ 16 1),p_ 1 18 (f_ 0 17),r_ 2 19 (l_ 18),p_ 3 20 (.cnv 0 (.t 19)),p_ 4 21 (f_ 16 1),p_ 5 22 (f_ 1 21),r_ 6 23 (l_ 22),p_ 7 24 (.cnv 0 (.t 23)),c_ 8 25 67 [.t 20,.t 24],p_ 9 26 (.bin 4 0 (.c (.str [75,105,108,108,32])) (.t 25)),p_ 10 2 (m_ 26)]) .ret) (.exit 2)))) (.seq (.seq (g_ 5 [p_ 0 27 (f_ 1 1),r_ 1 28 (.ld true 10 (.t 27)),c_ 2 29 68 [.t 28],p_ 3 30 (.bin 4 0 (.c (.str [66,97,99,107,32])) (.t 29)),p_ 4 2 (m_ 30)]) .ret) (.exit 2)))) (g_ 1 [p_ 0 3 (.mv (.c (.str [67,104,101,99,107,32])))]))) (.seq (.seq (g_ 6 [p_ 0 31 (m_ 3),p_ 1 32 (f_ 1 1),r_ 2 33 (.ld true 10 (.t 32)),c_ 3 34 68 [.t 33],p_ 4 35 (.bin 4 0 (.t 31) (.t 34)),p_ 5 4 (m_ 35)]) (.seq (.seq (g_ 4 [p_ 0 36 (f_ 12 1),r_ 1 37 (l_ 36),p_ 2 38 (k_ 37),p_ 3 39 (.mv (i_ 0))]) (.block 7 (.pre [.can 0 [4,37,38,39],.up 38,.up 39,.can 0 [4,37,38,39]] (.inv 0 Cj)))) (.seq (g_ 2 [p_ 0 49 (m_ 4),p_ 1 2 (m_ 49)]) .ret))) (.exit 2))))) (.seq (g_ 1 [p_ 0 2 (.mv (.c (.str [])))]) .ret)))) [(0,[.up 2]),(1,[.up 2])])
theorem QT:bT Tryz.prog 33 Pj=true:=by kernel_rfl
structure fU where
 hp:Value
 ps:List aW
 w:List UInt8
 i:Int
structure Ge where
 r:List UInt8
def mf (p:fU) (r:Ge):Prop:=r.r=p.w++jf (p.ps.drop p.i.toNat)∧(r.r.length:Int)≤2000000
noncomputable def jL (p:fU):IL:=((.cons 39 (.sy (.int 0 p.i)) (.cons 38 (.sy (.int 0 (p.ps.length:Int))) (.cons 37 (.sy (.imm p.hp 5 aW p.ps encP)) (.cons 4 (.sy (.str p.w)) .nil)))),.leaf,0)
noncomputable def tp (p:fU) (K:KC):Bool:=aA fun r:Ge=>iP (mf p r) (K 7 (.cons 4 (.sy (.str r.r)) .nil) .leaf 0) true
def gY (p:fU):Prop:=(p.ps.length≤199∧0≤p.i∧p.i≤(p.ps.length:Int)∧(p.w.length:Int)≤300+6200*p.i)∧(∀y∈p.ps,qz y)∧∀y∈p.ps,qG y
theorem Ro {p:fU} {K:KC} (hK:tp p K=true) (r:Ge) (h:mf p r):K 7 (.cons 4 (.sy (.str r.r)) .nil) .leaf 0=true:=aP h (aF hK r)
noncomputable def vD (p:fU) (K:KC):Bool:=ac (au (gY p)) (tp p K)
noncomputable def De:ft:=fun j S M nx K=>(Bool.rec (false) (aI fun p:fU=>ac (au ((S,M,nx)=jL p)) (vD p K)) (Nat.beq j 0))
def jm (p:fU):Nat:=((p.ps.length:Int) - p.i).toNat
noncomputable def Kr (s:IL) (n:Nat) (K:KC):Bool:=aI fun q=>mP (s=jL q∧jm q<n) (vD q K)
theorem TZ {p q:fU} {K:KC} {s:IL} (hm:jm q<jm p) (hp:gY q) (hK:tp q K=true) (e:s=jL q):Kr s (jm p) K=true:=aG q (bf ⟨e,hm⟩ (bf hp hK))
theorem Sk (p:fU) (K:KC) (hpre:gY p) (hK:tp p K=true):(cQ (bH tv) De 600 Cj (jL p).1 (jL p).2.1 (jL p).2.2 (fun e S M nx=>Nat.casesOn e (aI fun q:fU=>ac (au ((S,M,nx)=jL q∧jm q<jm p)) (vD q K)) (fun e2=>K (Nat.succ e2) S M nx)))=true:=by
 refine Eq.trans (b:=(iP (p.i<(p.ps.length:Int)) (mP (0≤p.i∧p.i<(p.ps.length:Int)) (aA fun x1:aW=>iP (p.ps[p.i.toNat]?=some x1) (aX (([.agg (Rx x1)],.leaf,0)) yj rT uk fun p1 r1=>mP (t_0.length+r1.s.length≤9223372036854775807) (mP (p.w.length+(t_0++r1.s).length≤9223372036854775807) (mP (aL 0 (p.i+(1:Int))) (Kr ((.cons 39 (.sy (.int 0 (p.i+(1:Int)))) (.cons 38 (.sy (.int 0 (p.ps.length:Int))) (.cons 37 (.sy (.imm p.hp 5 aW p.ps encP)) (.cons 4 (.sy (.str (p.w++(t_0++r1.s)))) .nil)))),.leaf,0) (jm p) K)))) true)) (K 7 (.cons 4 (.sy (.str p.w)) .nil) .leaf 0))) (by kernel_rfl) ?_
 dsimp only[gY]at hpre
 obtain⟨⟨g3,g4,g5,g6⟩,g1,g2⟩:=hpre
 refine iI (fun hc1=> ?_) (fun hc1=> ?_)
 refine dL ?_
 refine aB (fun x1=> ?_)
 refine iI (fun hi2=> ?_) (fun _=>rfl)
 have hg_x1:=g1 _ (acH (by assumption:p.ps[p.i.toNat]?=some x1))
 have hr_x1:=g2 _ (acH (by assumption:p.ps[p.i.toNat]?=some x1))
 refine aJ (⟨x1⟩:rl) rfl (by(try dsimp only[rT]);exact⟨by assumption,by assumption⟩) fun r1 hi3=> ?_
 dsimp only[uk]at hi3
 refine bq (bq (aN ?_))
 exact TZ (q:=⟨p.hp,p.ps,p.w++(t_0++r1.s),p.i+(1:Int)⟩) (by dsimp only[jm];omega) (by dsimp only[gY];exact⟨⟨g3,by omega,by omega,(by(try simp only[acC,acE,acD,acF]);omega)⟩,g1,g2⟩) (aV hK fun r hz=>⟨Xr g4 (by assumption) hi3.1 hz.1,hz.2⟩) rfl
 exact Ro hK ⟨p.w⟩ (by dsimp only[mf]<;>(exact⟨by rw[Jl (by omega)];simp,by omega⟩))
theorem SZ:dI Tryz.prog 50 0 De true 0 Cj:=by
 exact dM (lf:=600) bv (aT sV) (by rfl) jL jm vD (fun b j x h=>by cases h) (fun S M nx K h=>by obtain⟨p,h⟩:=bL h;exact⟨p,(aa h).1,(aa h).2⟩) (fun p K h=>Sk p K (aa h).1 (aa h).2)
structure sS where
 e:ai
structure Nw where
 s:List UInt8
def jQ (p:sS) (r:Nw):Prop:=r.s=bI (aq p.e)∧r.s.length≤1300000
noncomputable def yk (p:sS):IE:=([.agg (br p.e)],.leaf,0)
noncomputable def EV (p:sS) (K:KE):Bool:=aA fun r:Nw=>iP (jQ p r) (K (.sy (.str r.s)) .leaf 0) true
def oy (p:sS):Prop:=bp p.e
theorem uR {p:sS} {K:KE} (hK:EV p K=true) (r:Nw) (h:jQ p r):K (.sy (.str r.s)) .leaf 0=true:=aP h (aF hK r)
theorem Xb (p:sS) (K:KE) (hpre:oy p) (hK:EV p K=true):(bZ 0 (bH tv) De 600 Pj (yk p).1 (yk p).2.1 (yk p).2.2 K)=true:=by
 refine Eq.trans (b:=(iP (p.e.kind=(2:Int)) (mP (aL 0 p.e.vic.node) (mP (aL 0 p.e.vic.life) (mP (aL 0 p.e.vic.node) (mP ((Lib.itoa p.e.vic.node).length+t_3.length≤9223372036854775807) (mP (aL 0 p.e.vic.life) (mP (((Lib.itoa p.e.vic.node)++t_3).length+(Lib.itoa p.e.vic.life).length≤9223372036854775807) (mP (t_30.length+(((Lib.itoa p.e.vic.node)++t_3)++(Lib.itoa p.e.vic.life)).length≤9223372036854775807) (K (.sy (.str (t_30++(((Lib.itoa p.e.vic.node)++t_3)++(Lib.itoa p.e.vic.life))))) .leaf 0)))))))) (iP (p.e.kind=(1:Int)) (mP (ID.ok p.e.id) (mP (t_32.length+(ah p.e.id).length≤9223372036854775807) (K (.sy (.str (t_32++(ah p.e.id)))) .leaf 0))) (iP (p.e.kind=(3:Int)) (mP (ID.ok p.e.id) (mP (t_28.length+(ah p.e.id).length≤9223372036854775807) (aX (((.cons 39 (.sy (.int 0 0)) (.cons 38 (.sy (.int 0 (p.e.ps.length:Int))) (.cons 37 (.sy (.imm p.e.hp 5 aW p.e.ps encP)) (.cons 4 (.sy (.str (t_28++(ah p.e.id)))) .nil)))),.leaf,0)) jL gY mf fun p1 r1=>K (.sy (.str r1.r)) .leaf 0))) (iP (p.e.kind=(0:Int)) (mP (ID.ok p.e.id) (mP (t_29.length+(ah p.e.id).length≤9223372036854775807) (aX (((.cons 39 (.sy (.int 0 0)) (.cons 38 (.sy (.int 0 (p.e.ps.length:Int))) (.cons 37 (.sy (.imm p.e.hp 5 aW p.e.ps encP)) (.cons 4 (.sy (.str (t_29++(ah p.e.id)))) .nil)))),.leaf,0)) jL gY mf fun p2 r2=>K (.sy (.str r2.r)) .leaf 0))) (K (.sy (.str qE)) .leaf 0)))))) (by kernel_rfl) ?_
 dsimp only[oy]at hpre
 have he:=hpre
 obtain⟨⟨⟨k1,k2⟩,k3,k4,k5⟩,⟨k6,k7⟩,k8⟩:=hpre
 have k9:=ib p.e.id k3
 obtain⟨⟨v1,v2⟩,v3,v4⟩:=k5
 have v5:=cq p.e.vic.node p.e.vic.life (by constructor<;>omega) (by constructor<;>omega)
 have v6:=Lib.itoa_length_le p.e.vic.node (by omega) (by omega)
 have v7:=Lib.itoa_length_le p.e.vic.life (by omega) (by omega)
 refine iI (fun hc1=> ?_) (fun hc1=> ?_)
 refine aN (aN (aN (bq (aN (bq (bq ?_))))))
 exact uR hK ⟨t_30++(((Lib.itoa p.e.vic.node)++t_3)++(Lib.itoa p.e.vic.life))⟩ (by dsimp only[jQ]<;>(exact bF (by first|(simp_all [bI,aq];done)|(simp_all [bI,aq,aE];done)|(have e9:=hi0.1;simp only[Int.toNat_zero,List.drop_zero]at e9;rw[e9];simp_all [bI,aq];done)|(unfold bI aq;simp only;rw[if_neg (by omega),if_neg (by omega),if_neg (by omega),if_neg (by omega)];rfl)) (fC he)))
 refine iI (fun hc2=> ?_) (fun hc2=> ?_)
 refine LN (bq ?_)
 exact uR hK ⟨t_32++(ah p.e.id)⟩ (by dsimp only[jQ]<;>(exact bF (by first|(simp_all [bI,aq];done)|(simp_all [bI,aq,aE];done)|(have e9:=hi0.1;simp only[Int.toNat_zero,List.drop_zero]at e9;rw[e9];simp_all [bI,aq];done)|(unfold bI aq;simp only;rw[if_neg (by omega),if_neg (by omega),if_neg (by omega),if_neg (by omega)];rfl)) (fC he)))
 refine iI (fun hc3=> ?_) (fun hc3=> ?_)
 refine LN (bq ?_)
 refine aJ (⟨p.e.hp,p.e.ps,t_28++(ah p.e.id),(0:Int)⟩:fU) rfl (by(try dsimp only[gY]);exact⟨⟨k6,by omega,by omega,(by(try simp only[acC,acE,acD,acF]);omega)⟩,k7,k4⟩) fun r1 hi4=> ?_
 dsimp only[mf]at hi4
 exact uR hK ⟨r1.r⟩ (by dsimp only[jQ]<;>(exact bF (by first|(simp_all [bI,aq];done)|(simp_all [bI,aq,aE];done)|(have e9:=hi4.1;simp only[Int.toNat_zero,List.drop_zero]at e9;rw[e9];simp_all [bI,aq];done)|(unfold bI aq;simp only;rw[if_neg (by omega),if_neg (by omega),if_neg (by omega),if_neg (by omega)];rfl)) (fC he)))
 refine iI (fun hc5=> ?_) (fun hc5=> ?_)
 refine LN (bq ?_)
 refine aJ (⟨p.e.hp,p.e.ps,t_29++(ah p.e.id),(0:Int)⟩:fU) rfl (by(try dsimp only[gY]);exact⟨⟨k6,by omega,by omega,(by(try simp only[acC,acE,acD,acF]);omega)⟩,k7,k4⟩) fun r2 hi6=> ?_
 dsimp only[mf]at hi6
 exact uR hK ⟨r2.r⟩ (by dsimp only[jQ]<;>(exact bF (by first|(simp_all [bI,aq];done)|(simp_all [bI,aq,aE];done)|(have e9:=hi6.1;simp only[Int.toNat_zero,List.drop_zero]at e9;rw[e9];simp_all [bI,aq];done)|(unfold bI aq;simp only;rw[if_neg (by omega),if_neg (by omega),if_neg (by omega),if_neg (by omega)];rfl)) (fC he)))
 exact uR hK ⟨qE⟩ (by dsimp only[jQ]<;>(exact bF (by first|(simp_all [bI,aq];done)|(simp_all [bI,aq,aE];done)|(have e9:=hi0.1;simp only[Int.toNat_zero,List.drop_zero]at e9;rw[e9];simp_all [bI,aq];done)|(unfold bI aq;simp only;rw[if_neg (by omega),if_neg (by omega),if_neg (by omega),if_neg (by omega)];rfl)) (fC he)))
noncomputable def zy:=bM tv 0 (ce yk (dD oy EV)) 33 [(0,15)]
theorem wP:be Tryz.prog zy:=aY (bV (f:=33) (k:=0) (lp:=De) (lf:=600) bv (aT sV) QT (by rfl) (fun b j x h=>(cd SZ (fun h=>(by cases h)) h)) fun p K h=>Xb p K (aa h).1 (aa h).2) sV
def Ak:XC:=(.aft (.seq (.seq (g_ 5 [p_ 0 21 (m_ 4),p_ 1 22 (f_ 12 1),r_ 2 23 (l_ 22),p_ 3 24 (k_ 23),p_ 4 25 (.bin 3 0 (.t 21) (.t 24))]) (.cond (.t 25) .skip (.exit 3))) (.seq (.block 4 (g_ 10 [p_ 0 28 (m_ 3),p_ 1 29 (.bin 4 0 (.t 28) (.c (.str [32]))),p_ 2 30 (f_ 12 1),r_ 3 31 (l_ 30),p_ 4 32 (m_ 4),p_ 5 33 (.ixs 5 (.t 31) (.t 32)),r_ 6 34 (.ld true 5 (.t 33)),c_ 7 35 71 [.t 34],p_ 8 36 (.bin 4 0 (.t 29) (.t 35)),p_ 9 3 (m_ 36)])) (g_ 3 [p_ 0 26 (m_ 4),p_ 1 27 (.bin 0 0 (.t 26) (i_ 1)),p_ 2 4 (m_ 27)]))) [(0,[.can 0 [1,3,4]]),(3,[.can 0 [3]])])
def Md:XF:=.mk 59 (.one 2) (.aft (.seq (g_ 2 [e_ 0 1 (.box 62 (.t 0)),p_ 1 2 (.mv (.c (.str [])))]) (.seq (g_ 1 [p_ 0 3 (.mv (.c (.str [])))]) (.seq (.seq (g_ 2 [p_ 0 5 (f_ 0 1),r_ 1 6 (l_ 5)]) (.block 2 (.seq (.seq (g_ 2 [p_ 0 8 (.bin 3 4 (.t 6) (.c (.int 1 (.ofNat 0)))),p_ 1 7 (m_ 8)]) (.cond (.t 7) .skip (g_ 2 [p_ 0 9 (.bin 3 4 (.t 6) (.c (.int 1 (.ofNat 3)))),p_ 1 7 (m_ 9)]))) (.cond (.t 7) (.seq (g_ 5 [p_ 0 10 (f_ 1 1),r_ 1 11 (.ld true 10 (.t 10)),c_ 2 12 42 [.t 11],p_ 3 13 (.bin 4 0 (.c (.str [67,97,108,108,32])) (.t 12)),p_ 4 3 (m_ 13)]) (.seq (.seq (g_ 3 [p_ 0 14 (f_ 0 1),r_ 1 15 (l_ 14),p_ 2 16 (.bin 3 4 (.t 15) (.c (.int 1 (.ofNat 3))))]) (.cond (.t 16) (g_ 5 [p_ 0 17 (f_ 1 1),r_ 1 18 (.ld true 10 (.t 17)),c_ 2 19 42 [.t 18],p_ 3 20 (.bin 4 0 (.c (.str [67,104,101,99,107,32])) (.t 19)),p_ 4 3 (m_ 20)]) .skip)) (.seq (g_ 1 [p_ 0 4 (.mv (i_ 0))]) (.block 3 (.pre [.can 0 [1,3,4],.up 4,.can 0 [1,3,4]] (.inv 0 Ak)))))) (.seq (g_ 2 [p_ 0 38 (.bin 3 4 (.t 6) (.c (.int 1 (.ofNat 1)))),p_ 1 37 (m_ 38)]) (.cond (.t 37) (g_ 5 [p_ 0 39 (f_ 1 1),r_ 1 40 (.ld true 10 (.t 39)),c_ 2 41 42 [.t 40],p_ 3 42 (.bin 4 0 (.c (.str [66,97,99,107,32])) (.t 41)),p_ 4 3 (m_ 42)]) (.seq (g_ 2 [p_ 0 44 (.bin 3 4 (.t 6) (.c (.int 1 (.ofNat 2)))),p_ 1 43 (m_ 44)]) (.cond (.t 43) (h_ 14 [p_ 0 45 (f_ 16 1),p_ 1 46 (f_ 0 45),r_ 2 47 (l_ 46),p_ 3 48 (.cnv 0 (.t 47)),p_ 7 52 (f_ 16 1),p_ 8 53 (f_ 1 52),r_ 9 54 (l_ 53),p_ 10 55 (.cnv 0 (.t 54)),c_ 4 49 70 [.t 48],a_ 9 54 (l_ 53),p_ 5 50 (.bin 4 0 (.c (.str [75,105,108,108,32])) (.t 49)),p_ 6 51 (.bin 4 0 (.t 50) (.c (.str [46]))),c_ 11 56 70 [.t 55],p_ 12 57 (.bin 4 0 (.t 51) (.t 56)),p_ 13 3 (m_ 57)]) .skip)))))))) (.seq (g_ 2 [p_ 0 58 (m_ 3),p_ 1 2 (m_ 58)]) .ret)))) [(0,[.up 2]),(1,[.up 2])])
theorem Om:bT Tryz.prog 36 Md=true:=by kernel_rfl
structure ej where
 kind:Int
 id:ID
 floor:Int
 hp:Value
 ps:List aW
 rc:Int
 rv:List UInt8
 hw:Value
 ws:List bg
 vic:Proc
 w:List UInt8
 i:Int
structure Cy where
 r:List UInt8
def fk (p:ej) (r:Cy):Prop:=r.r=p.w++jf (p.ps.drop p.i.toNat)∧(r.r.length:Int)≤2000000
noncomputable def fJ (p:ej):IL:=((.cons 4 (.sy (.int 0 p.i)) (.cons 3 (.sy (.str p.w)) (.cons 1 (.ptr 0 0) .nil))),(.node .leaf (some (.blk false 62 18 [(br ⟨p.kind,p.id,p.floor,p.hp,p.ps,p.rc,p.rv,p.hw,p.ws,p.vic⟩)])) .leaf),1)
noncomputable def rE (p:ej) (K:KC):Bool:=aA fun r:Cy=>iP (fk p r) (K 3 (.cons 3 (.sy (.str r.r)) .nil) .leaf 0) true
def dR (p:ej):Prop:=(p.ps.length≤199∧0≤p.i∧p.i≤(p.ps.length:Int)∧(p.w.length:Int)≤300+6200*p.i)∧(∀y∈p.ps,qz y)∧∀y∈p.ps,qG y
theorem OB {p:ej} {K:KC} (hK:rE p K=true) (r:Cy) (h:fk p r):K 3 (.cons 3 (.sy (.str r.r)) .nil) .leaf 0=true:=aP h (aF hK r)
noncomputable def ti (p:ej) (K:KC):Bool:=ac (au (dR p)) (rE p K)
noncomputable def zS:ft:=fun j S M nx K=>(Bool.rec (false) (aI fun p:ej=>ac (au ((S,M,nx)=fJ p)) (ti p K)) (Nat.beq j 0))
def hQ (p:ej):Nat:=((p.ps.length:Int) - p.i).toNat
noncomputable def Hs (s:IL) (n:Nat) (K:KC):Bool:=aI fun q=>mP (s=fJ q∧hQ q<n) (ti q K)
theorem RD {p q:ej} {K:KC} {s:IL} (hm:hQ q<hQ p) (hp:dR q) (hK:rE q K=true) (e:s=fJ q):Hs s (hQ p) K=true:=aG q (bf ⟨e,hm⟩ (bf hp hK))
theorem PY (p:ej) (K:KC) (hpre:dR p) (hK:rE p K=true):(cQ (bH zy) zS 600 Ak (fJ p).1 (fJ p).2.1 (fJ p).2.2 (fun e S M nx=>Nat.casesOn e (aI fun q:ej=>ac (au ((S,M,nx)=fJ q∧hQ q<hQ p)) (ti q K)) (fun e2=>K (Nat.succ e2) S M nx)))=true:=by
 refine Eq.trans (b:=(iP (p.i<(p.ps.length:Int)) (mP (p.w.length+t_0.length≤9223372036854775807) (mP (0≤p.i∧p.i<(p.ps.length:Int)) (aA fun x1:aW=>iP (p.ps[p.i.toNat]?=some x1) (aX (([.agg (Rx x1)],.leaf,0)) vi pJ sc fun p1 r1=>mP ((p.w++t_0).length+r1.s.length≤9223372036854775807) (mP (aL 0 (p.i+(1:Int))) (Hs ((.cons 4 (.sy (.int 0 (p.i+(1:Int)))) (.cons 3 (.sy (.str ((p.w++t_0)++r1.s))) (.cons 1 (.ptr 0 0) .nil))),(.node .leaf (some (.blk false 62 18 [(br ⟨p.kind,p.id,p.floor,p.hp,p.ps,p.rc,p.rv,p.hw,p.ws,p.vic⟩)])) .leaf),1) (hQ p) K))) true))) (K 3 (.cons 3 (.sy (.str p.w)) .nil) .leaf 0))) (by kernel_rfl) ?_
 dsimp only[dR]at hpre
 obtain⟨⟨g3,g4,g5,g6⟩,g1,g2⟩:=hpre
 refine iI (fun hc1=> ?_) (fun hc1=> ?_)
 refine bq (dL ?_)
 refine aB (fun x1=> ?_)
 refine iI (fun hi2=> ?_) (fun _=>rfl)
 have hg_x1:=g1 _ (acH (by assumption:p.ps[p.i.toNat]?=some x1))
 have hr_x1:=g2 _ (acH (by assumption:p.ps[p.i.toNat]?=some x1))
 refine aJ (⟨x1⟩:oQ) rfl (by(try dsimp only[pJ]);exact⟨by assumption,by assumption⟩) fun r1 hi3=> ?_
 dsimp only[sc]at hi3
 refine bq (aN ?_)
 exact RD (q:=⟨p.kind,p.id,p.floor,p.hp,p.ps,p.rc,p.rv,p.hw,p.ws,p.vic,(p.w++t_0)++r1.s,p.i+(1:Int)⟩) (by dsimp only[hQ];omega) (by dsimp only[dR];exact⟨⟨g3,by omega,by omega,(by(try simp only[acC,acE,acD,acF]);omega)⟩,g1,g2⟩) (aV hK fun r hz=>⟨UK g4 (by assumption) hi3.1 hz.1,hz.2⟩) rfl
 exact OB hK ⟨p.w⟩ (by dsimp only[fk]<;>(exact⟨by rw[Jl (by omega)];simp,by omega⟩))
theorem QK:dI Tryz.prog 59 0 zS true 0 Ak:=by
 exact dM (lf:=600) bv (aT wP) (by rfl) fJ hQ ti (fun b j x h=>by cases h) (fun S M nx K h=>by obtain⟨p,h⟩:=bL h;exact⟨p,(aa h).1,(aa h).2⟩) (fun p K h=>PY p K (aa h).1 (aa h).2)
structure lB where
 e:ai
structure IY where
 s:List UInt8
def eg (p:lB) (r:IY):Prop:=r.s=bI (aq p.e)∧r.s.length≤1300000
noncomputable def pq (p:lB):IE:=([.agg (br p.e)],.leaf,0)
noncomputable def Bl (p:lB) (K:KE):Bool:=aA fun r:IY=>iP (eg p r) (K (.sy (.str r.s)) .leaf 0) true
def gx (p:lB):Prop:=bp p.e
theorem mp {p:lB} {K:KE} (hK:Bl p K=true) (r:IY) (h:eg p r):K (.sy (.str r.s)) .leaf 0=true:=aP h (aF hK r)
theorem Uk (p:lB) (K:KE) (hpre:gx p) (hK:Bl p K=true):(bZ 0 (bH zy) zS 600 Md (pq p).1 (pq p).2.1 (pq p).2.2 K)=true:=by
 refine Eq.trans (b:=(iP (p.e.kind=(0:Int)) (aX (([.agg (ee p.e.id)],.leaf,0)) jK dE dw fun p1 r1=>mP (t_29.length+r1.s.length≤9223372036854775807) (iP (p.e.kind=(3:Int)) (aX (([.agg (ee p.e.id)],.leaf,0)) jK dE dw fun p2 r2=>mP (t_28.length+r2.s.length≤9223372036854775807) (aX (((.cons 4 (.sy (.int 0 0)) (.cons 3 (.sy (.str (t_28++r2.s))) (.cons 1 (.ptr 0 0) .nil))),(.node .leaf (some (.blk false 62 18 [(br p.e)])) .leaf),1)) fJ dR fk fun p3 r3=>K (.sy (.str r3.r)) .leaf 0)) (aX (((.cons 4 (.sy (.int 0 0)) (.cons 3 (.sy (.str (t_29++r1.s))) (.cons 1 (.ptr 0 0) .nil))),(.node .leaf (some (.blk false 62 18 [(br p.e)])) .leaf),1)) fJ dR fk fun p4 r4=>K (.sy (.str r4.r)) .leaf 0))) (iP (p.e.kind=(3:Int)) (aX (([.agg (ee p.e.id)],.leaf,0)) jK dE dw fun p5 r5=>mP (t_29.length+r5.s.length≤9223372036854775807) (iP (p.e.kind=(3:Int)) (aX (([.agg (ee p.e.id)],.leaf,0)) jK dE dw fun p6 r6=>mP (t_28.length+r6.s.length≤9223372036854775807) (aX (((.cons 4 (.sy (.int 0 0)) (.cons 3 (.sy (.str (t_28++r6.s))) (.cons 1 (.ptr 0 0) .nil))),(.node .leaf (some (.blk false 62 18 [(br p.e)])) .leaf),1)) fJ dR fk fun p7 r7=>K (.sy (.str r7.r)) .leaf 0)) (aX (((.cons 4 (.sy (.int 0 0)) (.cons 3 (.sy (.str (t_29++r5.s))) (.cons 1 (.ptr 0 0) .nil))),(.node .leaf (some (.blk false 62 18 [(br p.e)])) .leaf),1)) fJ dR fk fun p8 r8=>K (.sy (.str r8.r)) .leaf 0))) (iP (p.e.kind=(1:Int)) (aX (([.agg (ee p.e.id)],.leaf,0)) jK dE dw fun p9 r9=>mP (t_32.length+r9.s.length≤9223372036854775807) (K (.sy (.str (t_32++r9.s))) .leaf 0)) (iP (p.e.kind=(2:Int)) (mP (aL 0 p.e.vic.node) (mP (aL 0 p.e.vic.life) (mP (aL 0 p.e.vic.node) (mP (((.int 2 p.e.vic.life):SY)=(.int 2 p.e.vic.life)) (mP (t_30.length+(Lib.itoa p.e.vic.node).length≤9223372036854775807) (mP ((t_30++(Lib.itoa p.e.vic.node)).length+t_3.length≤9223372036854775807) (mP (aL 0 p.e.vic.life) (mP (((t_30++(Lib.itoa p.e.vic.node))++t_3).length+(Lib.itoa p.e.vic.life).length≤9223372036854775807) (K (.sy (.str (((t_30++(Lib.itoa p.e.vic.node))++t_3)++(Lib.itoa p.e.vic.life)))) .leaf 0))))))))) (K (.sy (.str qE)) .leaf 0)))))) (by kernel_rfl) ?_
 dsimp only[gx]at hpre
 have he:=hpre
 obtain⟨⟨⟨k1,k2⟩,k3,k4,k5⟩,⟨k6,k7⟩,k8⟩:=hpre
 have k9:=ib p.e.id k3
 obtain⟨⟨v1,v2⟩,v3,v4⟩:=k5
 have v5:=cq p.e.vic.node p.e.vic.life (by constructor<;>omega) (by constructor<;>omega)
 have v6:=Lib.itoa_length_le p.e.vic.node (by omega) (by omega)
 have v7:=Lib.itoa_length_le p.e.vic.life (by omega) (by omega)
 refine iI (fun hc1=> ?_) (fun hc1=> ?_)
 refine aJ (⟨p.e.id⟩:gT) rfl (by(try dsimp only[dE]);assumption) fun r1 hi2=> ?_
 dsimp only[dw]at hi2
 refine bq ?_
 refine iI (fun hc3=> ?_) (fun hc3=> ?_)
 refine aJ (⟨p.e.id⟩:gT) rfl (by(try dsimp only[dE]);assumption) fun r2 hi4=> ?_
 dsimp only[dw]at hi4
 refine bq ?_
 refine aJ (⟨p.e.kind,p.e.id,p.e.floor,p.e.hp,p.e.ps,p.e.rc,p.e.rv,p.e.hw,p.e.ws,p.e.vic,t_28++r2.s,(0:Int)⟩:ej) rfl (by(try dsimp only[dR]);exact⟨⟨k6,by omega,by omega,(by(try simp only[acC,acE,acD,acF]);omega)⟩,k7,k4⟩) fun r3 hi5=> ?_
 dsimp only[fk]at hi5
 exact mp hK ⟨r3.r⟩ (by dsimp only[eg]<;>(exact bF (by first|(simp_all [bI,aq];done)|(simp_all [bI,aq,aE];done)|(have e9:=hi5.1;simp only[Int.toNat_zero,List.drop_zero]at e9;rw[e9];simp_all [bI,aq];done)|(unfold bI aq;simp only;rw[if_neg (by omega),if_neg (by omega),if_neg (by omega),if_neg (by omega)];rfl)) (fC he)))
 refine aJ (⟨p.e.kind,p.e.id,p.e.floor,p.e.hp,p.e.ps,p.e.rc,p.e.rv,p.e.hw,p.e.ws,p.e.vic,t_29++r1.s,(0:Int)⟩:ej) rfl (by(try dsimp only[dR]);exact⟨⟨k6,by omega,by omega,(by(try simp only[acC,acE,acD,acF]);omega)⟩,k7,k4⟩) fun r4 hi6=> ?_
 dsimp only[fk]at hi6
 exact mp hK ⟨r4.r⟩ (by dsimp only[eg]<;>(exact bF (by first|(simp_all [bI,aq];done)|(simp_all [bI,aq,aE];done)|(have e9:=hi6.1;simp only[Int.toNat_zero,List.drop_zero]at e9;rw[e9];simp_all [bI,aq];done)|(unfold bI aq;simp only;rw[if_neg (by omega),if_neg (by omega),if_neg (by omega),if_neg (by omega)];rfl)) (fC he)))
 refine iI (fun hc7=> ?_) (fun hc7=> ?_)
 refine aJ (⟨p.e.id⟩:gT) rfl (by(try dsimp only[dE]);assumption) fun r5 hi8=> ?_
 dsimp only[dw]at hi8
 refine bq ?_
 refine iI (fun hc9=> ?_) (fun hc9=> ?_)
 refine aJ (⟨p.e.id⟩:gT) rfl (by(try dsimp only[dE]);assumption) fun r6 hi10=> ?_
 dsimp only[dw]at hi10
 refine bq ?_
 refine aJ (⟨p.e.kind,p.e.id,p.e.floor,p.e.hp,p.e.ps,p.e.rc,p.e.rv,p.e.hw,p.e.ws,p.e.vic,t_28++r6.s,(0:Int)⟩:ej) rfl (by(try dsimp only[dR]);exact⟨⟨k6,by omega,by omega,(by(try simp only[acC,acE,acD,acF]);omega)⟩,k7,k4⟩) fun r7 hi11=> ?_
 dsimp only[fk]at hi11
 exact mp hK ⟨r7.r⟩ (by dsimp only[eg]<;>(exact bF (by first|(simp_all [bI,aq];done)|(simp_all [bI,aq,aE];done)|(have e9:=hi11.1;simp only[Int.toNat_zero,List.drop_zero]at e9;rw[e9];simp_all [bI,aq];done)|(unfold bI aq;simp only;rw[if_neg (by omega),if_neg (by omega),if_neg (by omega),if_neg (by omega)];rfl)) (fC he)))
 refine aJ (⟨p.e.kind,p.e.id,p.e.floor,p.e.hp,p.e.ps,p.e.rc,p.e.rv,p.e.hw,p.e.ws,p.e.vic,t_29++r5.s,(0:Int)⟩:ej) rfl (by(try dsimp only[dR]);exact⟨⟨k6,by omega,by omega,(by(try simp only[acC,acE,acD,acF]);omega)⟩,k7,k4⟩) fun r8 hi12=> ?_
 dsimp only[fk]at hi12
 exact mp hK ⟨r8.r⟩ (by dsimp only[eg]<;>(exact bF (by first|(simp_all [bI,aq];done)|(simp_all [bI,aq,aE];done)|(have e9:=hi12.1;simp only[Int.toNat_zero,List.drop_zero]at e9;rw[e9];simp_all [bI,aq];done)|(unfold bI aq;simp only;rw[if_neg (by omega),if_neg (by omega),if_neg (by omega),if_neg (by omega)];rfl)) (fC he)))
 refine iI (fun hc13=> ?_) (fun hc13=> ?_)
 refine aJ (⟨p.e.id⟩:gT) rfl (by(try dsimp only[dE]);assumption) fun r9 hi14=> ?_
 dsimp only[dw]at hi14
 refine bq ?_
 exact mp hK ⟨t_32++r9.s⟩ (by dsimp only[eg]<;>(exact bF (by first|(simp_all [bI,aq];done)|(simp_all [bI,aq,aE];done)|(have e9:=hi14.1;simp only[Int.toNat_zero,List.drop_zero]at e9;rw[e9];simp_all [bI,aq];done)|(unfold bI aq;simp only;rw[if_neg (by omega),if_neg (by omega),if_neg (by omega),if_neg (by omega)];rfl)) (fC he)))
 refine iI (fun hc15=> ?_) (fun hc15=> ?_)
 refine aN (aN (aN (az (bq (bq (aN (bq ?_)))))))
 exact mp hK ⟨((t_30++(Lib.itoa p.e.vic.node))++t_3)++(Lib.itoa p.e.vic.life)⟩ (by dsimp only[eg]<;>(exact bF (by first|(simp_all [bI,aq];done)|(simp_all [bI,aq,aE];done)|(have e9:=hi0.1;simp only[Int.toNat_zero,List.drop_zero]at e9;rw[e9];simp_all [bI,aq];done)|(unfold bI aq;simp only;rw[if_neg (by omega),if_neg (by omega),if_neg (by omega),if_neg (by omega)];rfl)) (fC he)))
 exact mp hK ⟨qE⟩ (by dsimp only[eg]<;>(exact bF (by first|(simp_all [bI,aq];done)|(simp_all [bI,aq,aE];done)|(have e9:=hi0.1;simp only[Int.toNat_zero,List.drop_zero]at e9;rw[e9];simp_all [bI,aq];done)|(unfold bI aq;simp only;rw[if_neg (by omega),if_neg (by omega),if_neg (by omega),if_neg (by omega)];rfl)) (fC he)))
noncomputable def vR:=bM zy 0 (ce pq (dD gx Bl)) 36 [(0,15)]
theorem uA:be Tryz.prog vR:=aY (bV (f:=36) (k:=0) (lp:=zS) (lf:=600) bv (aT wP) Om (by rfl) (fun b j x h=>(cd QK (fun h=>(by cases h)) h)) fun p K h=>Uk p K (aa h).1 (aa h).2) wP
theorem xx {b x y:Bool} (h:(Bool.rec (motive:=fun _=>Bool) x y b)=true):(b=true∧y=true)∨(b=false∧x=true):=by cases b;exact .inr ⟨rfl,h⟩;exact .inl ⟨rfl,h⟩
def fo:Int→List lJ→List UInt8
 |_,[]=>[]
 |i,e::r=>Lib.itoa i++([58,32]++(bI e++([10]++fo (i+1) r)))
def qR (g:Int) (l:List lJ):List UInt8:=if l.length=0 then [] else [111,114,100,101,114,32]++(Lib.itoa g++([10]++fo 0 l))
def jT (k:KyR) (g:Int):List lJ:=if g=0 then k.o0 else if g=1 then k.o1 else if g=2 then k.o2 else k.o3
def gA (k:KyR) (g:Int):List UInt8:=if g=0 then qR 0 k.o0++(qR 1 k.o1++(qR 2 k.o2++qR 3 k.o3)) else if g=1 then qR 1 k.o1++(qR 2 k.o2++qR 3 k.o3) else if g=2 then qR 2 k.o2++qR 3 k.o3 else if g=3 then qR 3 k.o3 else []
theorem sq {k:KyR} {g:Int} (h0:0≤g) (h1:g<4):gA k g=qR g (jT k g)++gA k (g+1):=by
 have:g=0∨g=1∨g=2∨g=3:=by omega
 rcases this with rfl|rfl|rfl|rfl<;>simp[gA,jT]
theorem Ff {k:KyR} {g:Int} (h:4≤g):gA k g=[]:=by
 unfold gA
 rw[if_neg (by omega),if_neg (by omega),if_neg (by omega),if_neg (by omega)]
theorem GU {l:List ai} {i:Int} {x:ai} (h0:0≤i) (hx:l[i.toNat]?=some x):fo i ((l.drop i.toNat).map aq)=Lib.itoa i++([58,32]++(bI (aq x)++([10]++fo (i+1) ((l.drop (i+1).toNat).map aq)))):=by
 obtain⟨h,e⟩:=List.getElem?_eq_some_iff.1 hx
 rw[show(i+1).toNat=i.toNat+1 by omega,List.drop_eq_getElem_cons h,e,acJ]
 rfl
theorem JJ {l:List ai} {i:Int} (h:(l.length:Int)≤i):fo i ((l.drop i.toNat).map aq)=[]:=by
 rw[List.drop_eq_nil_of_le (by omega)];rfl
theorem Fe {g:Int} {l:List lJ} (h:l.length=0):qR g l=[]:=if_pos h
theorem Jz {g:Int} {l:List lJ} (h:¬l.length=0):qR g l=[111,114,100,101,114,32]++(Lib.itoa g++([10]++fo 0 l)):=if_neg h
theorem Tf {l:List ai} {i:Int} {x:ai} {b r s:List UInt8} (h0:0≤i) (hx:l[i.toNat]?=some x) (hs:s=bI (aq x)) (h:r=(b++(Lib.itoa i++[58,32]++s)++[10])++fo (i+1) ((l.drop (i+1).toNat).map aq)):r=b++fo i ((l.drop i.toNat).map aq):=by
 rw[h,GU h0 hx,hs];simp
theorem dQ:Lib.itoa 0=[48]:=by decide+kernel
theorem dP:Lib.itoa 1=[49]:=by decide+kernel
theorem dO:Lib.itoa 2=[50]:=by decide+kernel
theorem dN:Lib.itoa 3=[51]:=by decide+kernel
theorem fD {α β:Type} {P:α→Prop} {Q:β→Prop} {K:α→Bool} (f:β→α) (h:(aA fun r=>iP (P r) (K r) true)=true) (hw:∀r,Q r→P (f r)):(aA fun r=>iP (Q r) (K (f r)) true)=true:=aB fun r=>iI (fun hz=>aP (hw r hz) (aF h (f r))) (fun _=>rfl)
noncomputable def Dj (M:T) (i:Nat):Nat:=Option.casesOn (M.get i) 0 fun o=>AObj.casesOn o (fun _ _ _ _=>0) (fun _ _=>0) (fun _ _ _ _=>0) 0 (fun _ _ _ _ _=>1) (fun _ _ _ _ _ _ _=>0)
theorem iY {l m:List ai} (h:l.map aq=m.map aq):l.length=m.length:=by simpa using congrArg List.length h
noncomputable def Ao (f:bE) (o:List ai) (k0:Nat) (k1:Nat) (k2:Nat) (k3:Nat) (k4:Nat) (k5:Nat) (k6:Nat) (k7:Nat):T:=(.node (.node (.node (.node .leaf (some (.kmap false true false eI f.ms ed cP)) .leaf) (some (.kmap false true false ID f.me bG bw)) (.node .leaf (some (.prow 108 18 ai f.o2 am)) .leaf)) (some (.kmap false true false ID f.mb bG bw)) (.node (.node .leaf (some (.prow 108 18 ai f.o0 am)) .leaf) (some (.kmap false true false eD f.mt dZ cO)) (.node .leaf (some (.prow 108 18 ai o am)) .leaf))) (some (.blk false 97 14 [[.sy (.kmp 1),.sy (.prow 2 k0),.sy (.kmp 3),.sy (.prow 4 k1),.sy (.kmp 5),.sy (.prow 6 k2),.sy (.kmp 7),.sy (.prow 8 k3),.sy (.prow 9 k4),.sy (.prow 10 k5),.sy (.prow 11 k6),.sy (.prow 12 k7),.sy (.int 0 f.sp),.bool true]])) (.node (.node (.node .leaf (some (.prow 119 5 cM f.s cp)) .leaf) (some (.prow 103 17 EdR f.e bA)) (.node .leaf (some (.prow 108 18 ai f.o3 am)) .leaf)) (some (.prow 78 14 BgR f.b bo)) (.node (.node .leaf (some (.prow 108 18 ai f.o1 am)) .leaf) (some (.prow 115 17 cL f.t co)) .leaf)))
noncomputable def lK (f:bE) (o:List ai):T:=Ao f o f.b.length f.e.length f.t.length f.s.length f.o0.length f.o1.length f.o2.length f.o3.length
def lz:XC:=(.aft (.seq (g_ 1 [p_ 0 22 (.bin 3 0 (.t 21) (.t 20))]) (.seq (.cond (.t 22) .skip (.exit 2)) (.seq (.block 3 (.seq (g_ 4 [p_ 0 23 (.ixs 18 (.t 19) (.t 21)),r_ 1 24 (.ld true 18 (.t 23)),e_ 2 7 (.al 108 [.int 1 (.ofNat 0),.int 1 (.ofNat 0),.int 2 (.ofNat 0),.int 3 (.ofNat 0),.int 1 (.ofNat 0),.int 1 (.ofNat 0),.int 1 (.ofNat 0),.int 1 (.ofNat 0),.int 1 (.ofNat 0),.int 1 (.ofNat 0),.int 1 (.ofNat 0),.int 3 (.ofNat 0),.nilS,.int 1 (.ofNat 0),.str [],.nilS,.int 1 (.ofNat 0),.int 2 (.ofNat 0)]),cA 3 (.st 18 (.t 7) (.t 24))]) (g_ 6 [p_ 0 25 (m_ 5),r_ 1 26 (.ld true 18 (.t 7)),c_ 2 27 52 [.t 26],e_ 3 28 (.bsl 108 18 1 [.int 1 (.ofNat 0),.int 1 (.ofNat 0),.int 2 (.ofNat 0),.int 3 (.ofNat 0),.int 1 (.ofNat 0),.int 1 (.ofNat 0),.int 1 (.ofNat 0),.int 1 (.ofNat 0),.int 1 (.ofNat 0),.int 1 (.ofNat 0),.int 1 (.ofNat 0),.int 3 (.ofNat 0),.nilS,.int 1 (.ofNat 0),.str [],.nilS,.int 1 (.ofNat 0),.int 2 (.ofNat 0)] [(0,18)] [.t 27]),e_ 4 29 (.app 108 18 104 (.t 25) (.t 28)),p_ 5 5 (m_ 29)]))) (g_ 2 [p_ 0 30 (.bin 0 0 (.t 21) (i_ 1)),p_ 1 21 (m_ 30)])))) [(0,[.can 13 [5,19,20,21]]),(2,[.can 13 [5]])])
def JY:XF:=.mk 32 (.one 4) (.aft (.seq (g_ 1 [p_ 0 4 (.mv (.c .nilS))]) (.seq (.seq (g_ 6 [p_ 0 8 (m_ 0),c_ 1 9 46 [.t 8],p_ 2 10 (m_ 9),aK 3 11 10 false (m_ 1),aK 4 12 10 false (.bin 3 3 (.t 11) (.c (.int 1 (.ofNat 4)))),p_ 5 13 (.pick (.t 10) (.c (.bool true)) (.t 12))]) (.cond (.t 13) (.seq (g_ 1 [p_ 0 4 (.mv (.c .nilS))]) .ret) .skip)) (.seq (g_ 1 [p_ 0 5 (.mv (.c .nilS))]) (.seq (.seq (g_ 8 [p_ 0 14 (m_ 0),p_ 1 15 (m_ 1),p_ 2 16 (n_ 14),p_ 3 17 (f_ 8 16),p_ 4 18 (.ixa 4 1 (.t 17) (.t 15)),r_ 5 19 (l_ 18),p_ 6 20 (k_ 19),p_ 7 21 (.mv (i_ 0))]) (.block 2 (.pre [.can 13 [5,19,20,21],.born 5 108 18 ai am,.up 20,.up 21,.can 13 [5,19,20,21]] (.inv 0 lz)))) (.seq (g_ 2 [p_ 0 31 (m_ 5),p_ 1 4 (m_ 31)]) .ret))))) [(0,[.frz 4]),(1,[.frz 4])])
theorem Mr:bT Tryz.prog 30 JY=true:=by kernel_rfl
structure eP where
 f:bE
 o:List ai
 i:Int
structure AF where
 o:List ai
def nV (p:eP) (r:AF):Prop:=r.o.map aq=p.f.o0.map aq∧∀x∈r.o,bp x
noncomputable def il (p:eP):IL:=((.cons 21 (.sy (.int 0 p.i)) (.cons 20 (.sy (.int 0 (p.f.o0.length:Int))) (.cons 19 (.sy (.prow 9 p.f.o0.length)) (.cons 5 (.sy (.prow 13 p.o.length)) .nil)))),(lK p.f p.o),14)
noncomputable def pX (p:eP) (K:KC):Bool:=aA fun r:AF=>iP (nV p r) (K 2 (.cons 5 (.sy (.prow 13 r.o.length)) .nil) (lK p.f r.o) 14) true
def iF (p:eP):Prop:=(p.f.o0.length≤80∧0≤p.i∧p.i≤(p.f.o0.length:Int)∧(p.o.length:Int)=p.i)∧(∀x∈p.f.o0,bp x)∧(∀x∈p.o,bp x)∧p.o.map aq=(p.f.o0.take p.i.toNat).map aq
theorem MO {p:eP} {K:KC} (hK:pX p K=true) (r:AF) (h:nV p r):K 2 (.cons 5 (.sy (.prow 13 r.o.length)) .nil) (lK p.f r.o) 14=true:=aP h (aF hK r)
noncomputable def rA (p:eP) (K:KC):Bool:=ac (au (iF p)) (pX p K)
noncomputable def wi:ft:=fun j S M nx K=>(Bool.rec (false) (aI fun p:eP=>ac (au ((S,M,nx)=il p)) (rA p K)) (Nat.beq j 0))
def gt (p:eP):Nat:=((p.f.o0.length:Int) - p.i).toNat
noncomputable def Eu (s:IL) (n:Nat) (K:KC):Bool:=aI fun q=>mP (s=il q∧gt q<n) (rA q K)
theorem OJ {p q:eP} {K:KC} {s:IL} (hm:gt q<gt p:=by dsimp only[gt]<;>(omega)) (hp:iF q:=by dsimp only[iF]<;>(have e1:=(by assumption:_=x1.ps);have e2:=(by assumption:_=x1.ws);have hx:=g5 _ (acH (by assumption:p.f.o0[p.i.toNat]?=some x1));exact⟨⟨g1,by omega,by omega,by simp;omega⟩,g5,jJ g6 (by unfold bp dU fg;simp only;rw[e1,e2];exact hx),xY g2 g7 (by assumption:p.f.o0[p.i.toNat]?=some x1) (by simp only[aq,e1])⟩)) (hK:pX q K=true:=by exact hK) (e:s=il q:=by rfl):Eu s (gt p) K=true:=aG q (bf ⟨e,hm⟩ (bf hp hK))
theorem NU (p:eP) (K:KC) (hpre:iF p) (hK:pX p K=true):(cQ (bH vR) wi 600 lz (il p).1 (il p).2.1 (il p).2.2 (fun e S M nx=>Nat.casesOn e (aI fun q:eP=>ac (au ((S,M,nx)=il q∧gt q<gt p)) (rA q K)) (fun e2=>K (Nat.succ e2) S M nx)))=true:=by
 refine Eq.trans (b:=(iP (p.i<(p.f.o0.length:Int)) (mP (0≤p.i∧p.i<(p.f.o0.length:Int)) (mP (p.i.toNat<p.f.o0.length) (aA fun x1:ai=>iP (p.f.o0[p.i.toNat]?=some x1) (aX (([.sy (.imm x1.hp 5 aW x1.ps encP)],.leaf,0)) eT bX bY fun p1 r1=>mP (((.imm x1.hw 3 bg x1.ws bb):SY)=(.imm x1.hw 3 bg x1.ws bb)) (aX (([.sy (.imm x1.hw 3 bg x1.ws bb)],.leaf,0)) gS cU cW fun p2 r2=>mP (p.o.length=p.o.length) (aI fun m1:List ai=>mP (dx (m1.map am) [[.sint 1 x1.kind,.sint 1 x1.id.client.node,.sint 2 x1.id.client.life,.sint 3 x1.id.seq,.sint 1 x1.id.depth,.sint 1 x1.id.p0.group,.sint 1 x1.id.p0.index,.sint 1 x1.id.p1.group,.sint 1 x1.id.p1.index,.sint 1 x1.id.p2.group,.sint 1 x1.id.p2.index,.sint 3 x1.floor,.imm r1.h 5 aW r1.o encP,.sint 1 x1.rc,.sstr x1.rv,.imm r2.h 3 bg r2.o bb,.sint 1 x1.vic.node,.sint 2 x1.vic.life]]) (mP (dh 104 (p.o.length+m1.length)) (mP (aL 0 (p.i+(1:Int))) (Eu ((.cons 21 (.sy (.int 0 (p.i+(1:Int)))) (.cons 20 (.sy (.int 0 (p.f.o0.length:Int))) (.cons 19 (.sy (.prow 9 p.f.o0.length)) (.cons 5 (.sy (.prow 13 ((p.o++m1).length))) .nil)))),(lK p.f (p.o++m1)),14) (gt p) K)))))) true))) (K 2 (.cons 5 (.sy (.prow 13 p.o.length)) .nil) (lK p.f p.o) 14))) (by kernel_rfl) ?_
 dsimp only[iF]at hpre
 obtain⟨⟨g1,g2,g3,g4⟩,g5,g6,g7⟩:=hpre
 refine iI (fun hc1=> ?_) (fun hc1=> ?_)
 refine dL (fX ?_)
 refine aB (fun x1=> ?_)
 refine iI (fun hi2=> ?_) (fun _=>rfl)
 refine aJ (⟨x1.hp,x1.ps⟩:ek) rfl (by(try dsimp only[bX]);have hx:=(g5 _ (acH (by assumption:p.f.o0[p.i.toNat]?=some x1))).2.1.1;omega) fun r1 hi3=> ?_
 dsimp only[bY]at hi3
 refine az ?_
 refine aJ (⟨x1.hw,x1.ws⟩:fv) rfl (by(try dsimp only[cU]);exact(g5 _ (acH (by assumption:p.f.o0[p.i.toNat]?=some x1))).2.2) fun r2 hi4=> ?_
 dsimp only[cW]at hi4
 refine az ?_
 refine aG [⟨x1.kind,⟨⟨x1.id.client.node,x1.id.client.life⟩,x1.id.seq,x1.id.depth,⟨x1.id.p0.group,x1.id.p0.index⟩,⟨x1.id.p1.group,x1.id.p1.index⟩,⟨x1.id.p2.group,x1.id.p2.index⟩⟩,x1.floor,r1.h,r1.o,x1.rc,x1.rv,r2.h,r2.o,⟨x1.vic.node,x1.vic.life⟩⟩] ?_
 refine jN ?_
 refine li (aN ?_)
 exact OJ (q:=⟨p.f,p.o++[⟨x1.kind,⟨⟨x1.id.client.node,x1.id.client.life⟩,x1.id.seq,x1.id.depth,⟨x1.id.p0.group,x1.id.p0.index⟩,⟨x1.id.p1.group,x1.id.p1.index⟩,⟨x1.id.p2.group,x1.id.p2.index⟩⟩,x1.floor,r1.h,r1.o,x1.rc,x1.rv,r2.h,r2.o,⟨x1.vic.node,x1.vic.life⟩⟩],p.i+(1:Int)⟩)
 exact MO hK ⟨p.o⟩ (by dsimp only[nV]<;>exact⟨xX g7 (by omega),g6⟩)
theorem Og:dI Tryz.prog 32 13 wi true 0 lz:=by
 exact dM (lf:=600) bv (aT uA) (by rfl) il gt rA (fun b j x h=>by cases h) (fun S M nx K h=>by obtain⟨p,h⟩:=bL h;exact⟨p,(aa h).1,(aa h).2⟩) (fun p K h=>NU p K (aa h).1 (aa h).2)
structure mT where
 f:bE
structure Gd where
 h:Value
 o:List ai
def md (p:mT) (r:Gd):Prop:=r.o.map aq=p.f.o0.map aq∧∀x∈r.o,bp x
noncomputable def ri (p:mT):IE:=([.ptr 0 0,.int 1 (.ofNat 0)],(bj p.f),13)
noncomputable def yV (p:mT) (K:KE):Bool:=aA fun r:Gd=>iP (md p r) (K (.sy (.imm r.h 18 ai r.o am)) (bj p.f) 13) true
def kB (p:mT):Prop:=(∀x∈p.f.o0,bp x)∧p.f.o0.length≤80
theorem Rn {p:mT} {K:KE} (hK:yV p K=true) (r:Gd) (h:md p r):K (.sy (.imm r.h 18 ai r.o am)) (bj p.f) 13=true:=aP h (aF hK r)
theorem Se (p:mT) (K:KE) (hpre:kB p) (hK:yV p K=true):(bZ 13 (bH vR) wi 600 JY (ri p).1 (ri p).2.1 (ri p).2.2 K)=true:=by
 refine Eq.trans (b:=(aX (((.cons 21 (.sy (.int 0 0)) (.cons 20 (.sy (.int 0 (p.f.o0.length:Int))) (.cons 19 (.sy (.prow 9 p.f.o0.length)) (.cons 5 (.sy (.prow 13 0)) .nil)))),(lK p.f ([]:List ai)),14)) il iF nV fun p1 r1=>mP (r1.o.length=r1.o.length) (aA fun h1:Value=>K (.sy (.imm h1 18 ai r1.o am)) (bj p1.f) 13))) (by kernel_rfl) ?_
 dsimp only[kB]at hpre
 obtain⟨u1,u2⟩:=hpre
 refine aJ (⟨p.f,([]:List ai),(0:Int)⟩:eP) rfl (by(try dsimp only[iF]);exact⟨⟨by omega,by omega,by omega,by simp⟩,u1,by simp,by simp⟩) fun r1 hi1=> ?_
 dsimp only[nV]at hi1
 refine az ?_
 refine aB (fun h1=> ?_)
 exact Rn hK ⟨h1,r1.o⟩ (by dsimp only[md]<;>exact hi1)
noncomputable def Cc:dC:=qD (fun us M=>AR us 1 0) (ce ri (dD kB yV)) (fun _ _ _ _=>false)
theorem JF:cY Tryz.prog 30 13 Cc:=iT (bV (f:=30) (k:=13) (lp:=wi) (lf:=600) bv (aT uA) Mr (by rfl) (fun b j x h=>(cd Og (fun h=>(by cases h)) h)) fun p K h=>Se p K (aa h).1 (aa h).2) Iw
noncomputable def tA:=bM vR 13 Cc 30 [(1,1)]
theorem sZ:be Tryz.prog tA:=aY JF uA
def xu:XC:=lz
def JX:XF:=.mk 32 (.one 4) (.aft (.seq (g_ 1 [p_ 0 4 (.mv (.c .nilS))]) (.seq (.seq (g_ 6 [p_ 0 8 (m_ 0),c_ 1 9 46 [.t 8],p_ 2 10 (m_ 9),aK 3 11 10 false (m_ 1),aK 4 12 10 false (.bin 3 3 (.t 11) (.c (.int 1 (.ofNat 4)))),p_ 5 13 (.pick (.t 10) (.c (.bool true)) (.t 12))]) (.cond (.t 13) (.seq (g_ 1 [p_ 0 4 (.mv (.c .nilS))]) .ret) .skip)) (.seq (g_ 1 [p_ 0 5 (.mv (.c .nilS))]) (.seq (.seq (g_ 8 [p_ 0 14 (m_ 0),p_ 1 15 (m_ 1),p_ 2 16 (n_ 14),p_ 3 17 (f_ 8 16),p_ 4 18 (.ixa 4 1 (.t 17) (.t 15)),r_ 5 19 (l_ 18),p_ 6 20 (k_ 19),p_ 7 21 (.mv (i_ 0))]) (.block 2 (.pre [.can 13 [5,19,20,21],.born 5 108 18 ai am,.up 20,.up 21,.can 13 [5,19,20,21]] (.inv 0 xu)))) (.seq (g_ 2 [p_ 0 31 (m_ 5),p_ 1 4 (m_ 31)]) .ret))))) [(0,[.frz 4]),(1,[.frz 4])])
theorem Mq:bT Tryz.prog 30 JX=true:=by kernel_rfl
structure eO where
 f:bE
 o:List ai
 i:Int
structure AE where
 o:List ai
def nU (p:eO) (r:AE):Prop:=r.o.map aq=p.f.o1.map aq∧∀x∈r.o,bp x
noncomputable def ik (p:eO):IL:=((.cons 21 (.sy (.int 0 p.i)) (.cons 20 (.sy (.int 0 (p.f.o1.length:Int))) (.cons 19 (.sy (.prow 10 p.f.o1.length)) (.cons 5 (.sy (.prow 13 p.o.length)) .nil)))),(lK p.f p.o),14)
noncomputable def pW (p:eO) (K:KC):Bool:=aA fun r:AE=>iP (nU p r) (K 2 (.cons 5 (.sy (.prow 13 r.o.length)) .nil) (lK p.f r.o) 14) true
def iE (p:eO):Prop:=(p.f.o1.length≤80∧0≤p.i∧p.i≤(p.f.o1.length:Int)∧(p.o.length:Int)=p.i)∧(∀x∈p.f.o1,bp x)∧(∀x∈p.o,bp x)∧p.o.map aq=(p.f.o1.take p.i.toNat).map aq
theorem MN {p:eO} {K:KC} (hK:pW p K=true) (r:AE) (h:nU p r):K 2 (.cons 5 (.sy (.prow 13 r.o.length)) .nil) (lK p.f r.o) 14=true:=aP h (aF hK r)
noncomputable def rz (p:eO) (K:KC):Bool:=ac (au (iE p)) (pW p K)
noncomputable def wh:ft:=fun j S M nx K=>(Bool.rec (false) (aI fun p:eO=>ac (au ((S,M,nx)=ik p)) (rz p K)) (Nat.beq j 0))
def gq (p:eO):Nat:=((p.f.o1.length:Int) - p.i).toNat
noncomputable def Et (s:IL) (n:Nat) (K:KC):Bool:=aI fun q=>mP (s=ik q∧gq q<n) (rz q K)
theorem OI {p q:eO} {K:KC} {s:IL} (hm:gq q<gq p:=by dsimp only[gq]<;>(omega)) (hp:iE q:=by dsimp only[iE]<;>(have e1:=(by assumption:_=x1.ps);have e2:=(by assumption:_=x1.ws);have hx:=g5 _ (acH (by assumption:p.f.o1[p.i.toNat]?=some x1));exact⟨⟨g1,by omega,by omega,by simp;omega⟩,g5,jJ g6 (by unfold bp dU fg;simp only;rw[e1,e2];exact hx),xY g2 g7 (by assumption:p.f.o1[p.i.toNat]?=some x1) (by simp only[aq,e1])⟩)) (hK:pW q K=true:=by exact hK) (e:s=ik q:=by rfl):Et s (gq p) K=true:=aG q (bf ⟨e,hm⟩ (bf hp hK))
theorem NT (p:eO) (K:KC) (hpre:iE p) (hK:pW p K=true):(cQ (bH tA) wh 600 xu (ik p).1 (ik p).2.1 (ik p).2.2 (fun e S M nx=>Nat.casesOn e (aI fun q:eO=>ac (au ((S,M,nx)=ik q∧gq q<gq p)) (rz q K)) (fun e2=>K (Nat.succ e2) S M nx)))=true:=by
 refine Eq.trans (b:=(iP (p.i<(p.f.o1.length:Int)) (mP (0≤p.i∧p.i<(p.f.o1.length:Int)) (mP (p.i.toNat<p.f.o1.length) (aA fun x1:ai=>iP (p.f.o1[p.i.toNat]?=some x1) (aX (([.sy (.imm x1.hp 5 aW x1.ps encP)],.leaf,0)) eT bX bY fun p1 r1=>mP (((.imm x1.hw 3 bg x1.ws bb):SY)=(.imm x1.hw 3 bg x1.ws bb)) (aX (([.sy (.imm x1.hw 3 bg x1.ws bb)],.leaf,0)) gS cU cW fun p2 r2=>mP (p.o.length=p.o.length) (aI fun m1:List ai=>mP (dx (m1.map am) [[.sint 1 x1.kind,.sint 1 x1.id.client.node,.sint 2 x1.id.client.life,.sint 3 x1.id.seq,.sint 1 x1.id.depth,.sint 1 x1.id.p0.group,.sint 1 x1.id.p0.index,.sint 1 x1.id.p1.group,.sint 1 x1.id.p1.index,.sint 1 x1.id.p2.group,.sint 1 x1.id.p2.index,.sint 3 x1.floor,.imm r1.h 5 aW r1.o encP,.sint 1 x1.rc,.sstr x1.rv,.imm r2.h 3 bg r2.o bb,.sint 1 x1.vic.node,.sint 2 x1.vic.life]]) (mP (dh 104 (p.o.length+m1.length)) (mP (aL 0 (p.i+(1:Int))) (Et ((.cons 21 (.sy (.int 0 (p.i+(1:Int)))) (.cons 20 (.sy (.int 0 (p.f.o1.length:Int))) (.cons 19 (.sy (.prow 10 p.f.o1.length)) (.cons 5 (.sy (.prow 13 ((p.o++m1).length))) .nil)))),(lK p.f (p.o++m1)),14) (gq p) K)))))) true))) (K 2 (.cons 5 (.sy (.prow 13 p.o.length)) .nil) (lK p.f p.o) 14))) (by kernel_rfl) ?_
 dsimp only[iE]at hpre
 obtain⟨⟨g1,g2,g3,g4⟩,g5,g6,g7⟩:=hpre
 refine iI (fun hc1=> ?_) (fun hc1=> ?_)
 refine dL (fX ?_)
 refine aB (fun x1=> ?_)
 refine iI (fun hi2=> ?_) (fun _=>rfl)
 refine aJ (⟨x1.hp,x1.ps⟩:ek) rfl (by(try dsimp only[bX]);have hx:=(g5 _ (acH (by assumption:p.f.o1[p.i.toNat]?=some x1))).2.1.1;omega) fun r1 hi3=> ?_
 dsimp only[bY]at hi3
 refine az ?_
 refine aJ (⟨x1.hw,x1.ws⟩:fv) rfl (by(try dsimp only[cU]);exact(g5 _ (acH (by assumption:p.f.o1[p.i.toNat]?=some x1))).2.2) fun r2 hi4=> ?_
 dsimp only[cW]at hi4
 refine az ?_
 refine aG [⟨x1.kind,⟨⟨x1.id.client.node,x1.id.client.life⟩,x1.id.seq,x1.id.depth,⟨x1.id.p0.group,x1.id.p0.index⟩,⟨x1.id.p1.group,x1.id.p1.index⟩,⟨x1.id.p2.group,x1.id.p2.index⟩⟩,x1.floor,r1.h,r1.o,x1.rc,x1.rv,r2.h,r2.o,⟨x1.vic.node,x1.vic.life⟩⟩] ?_
 refine jN ?_
 refine li (aN ?_)
 exact OI (q:=⟨p.f,p.o++[⟨x1.kind,⟨⟨x1.id.client.node,x1.id.client.life⟩,x1.id.seq,x1.id.depth,⟨x1.id.p0.group,x1.id.p0.index⟩,⟨x1.id.p1.group,x1.id.p1.index⟩,⟨x1.id.p2.group,x1.id.p2.index⟩⟩,x1.floor,r1.h,r1.o,x1.rc,x1.rv,r2.h,r2.o,⟨x1.vic.node,x1.vic.life⟩⟩],p.i+(1:Int)⟩)
 exact MN hK ⟨p.o⟩ (by dsimp only[nU]<;>exact⟨xX g7 (by omega),g6⟩)
theorem Of:dI Tryz.prog 32 13 wh true 0 xu:=by
 exact dM (lf:=600) bv (aT sZ) (by rfl) ik gq rz (fun b j x h=>by cases h) (fun S M nx K h=>by obtain⟨p,h⟩:=bL h;exact⟨p,(aa h).1,(aa h).2⟩) (fun p K h=>NT p K (aa h).1 (aa h).2)
structure mS where
 f:bE
structure Gc where
 h:Value
 o:List ai
def mc (p:mS) (r:Gc):Prop:=r.o.map aq=p.f.o1.map aq∧∀x∈r.o,bp x
noncomputable def rh (p:mS):IE:=([.ptr 0 0,.int 1 (.ofNat 1)],(bj p.f),13)
noncomputable def yU (p:mS) (K:KE):Bool:=aA fun r:Gc=>iP (mc p r) (K (.sy (.imm r.h 18 ai r.o am)) (bj p.f) 13) true
def kA (p:mS):Prop:=(∀x∈p.f.o1,bp x)∧p.f.o1.length≤80
theorem Rm {p:mS} {K:KE} (hK:yU p K=true) (r:Gc) (h:mc p r):K (.sy (.imm r.h 18 ai r.o am)) (bj p.f) 13=true:=aP h (aF hK r)
theorem Sd (p:mS) (K:KE) (hpre:kA p) (hK:yU p K=true):(bZ 13 (bH tA) wh 600 JX (rh p).1 (rh p).2.1 (rh p).2.2 K)=true:=by
 refine Eq.trans (b:=(aX (((.cons 21 (.sy (.int 0 0)) (.cons 20 (.sy (.int 0 (p.f.o1.length:Int))) (.cons 19 (.sy (.prow 10 p.f.o1.length)) (.cons 5 (.sy (.prow 13 0)) .nil)))),(lK p.f ([]:List ai)),14)) ik iE nU fun p1 r1=>mP (r1.o.length=r1.o.length) (aA fun h1:Value=>K (.sy (.imm h1 18 ai r1.o am)) (bj p1.f) 13))) (by kernel_rfl) ?_
 dsimp only[kA]at hpre
 obtain⟨u1,u2⟩:=hpre
 refine aJ (⟨p.f,([]:List ai),(0:Int)⟩:eO) rfl (by(try dsimp only[iE]);exact⟨⟨by omega,by omega,by omega,by simp⟩,u1,by simp,by simp⟩) fun r1 hi1=> ?_
 dsimp only[nU]at hi1
 refine az ?_
 refine aB (fun h1=> ?_)
 exact Rm hK ⟨h1,r1.o⟩ (by dsimp only[mc]<;>exact hi1)
noncomputable def Cb:dC:=qD (fun us M=>AR us 1 1) (ce rh (dD kA yU)) Cc
theorem JE:cY Tryz.prog 30 13 Cb:=iT (bV (f:=30) (k:=13) (lp:=wh) (lf:=600) bv (aT sZ) Mq (by rfl) (fun b j x h=>(cd Of (fun h=>(by cases h)) h)) fun p K h=>Sd p K (aa h).1 (aa h).2) JF
noncomputable def tz:=bM tA 13 Cb 30 [(1,1)]
theorem sY:be Tryz.prog tz:=aY JE sZ
def xt:XC:=lz
def JW:XF:=.mk 32 (.one 4) (.aft (.seq (g_ 1 [p_ 0 4 (.mv (.c .nilS))]) (.seq (.seq (g_ 6 [p_ 0 8 (m_ 0),c_ 1 9 46 [.t 8],p_ 2 10 (m_ 9),aK 3 11 10 false (m_ 1),aK 4 12 10 false (.bin 3 3 (.t 11) (.c (.int 1 (.ofNat 4)))),p_ 5 13 (.pick (.t 10) (.c (.bool true)) (.t 12))]) (.cond (.t 13) (.seq (g_ 1 [p_ 0 4 (.mv (.c .nilS))]) .ret) .skip)) (.seq (g_ 1 [p_ 0 5 (.mv (.c .nilS))]) (.seq (.seq (g_ 8 [p_ 0 14 (m_ 0),p_ 1 15 (m_ 1),p_ 2 16 (n_ 14),p_ 3 17 (f_ 8 16),p_ 4 18 (.ixa 4 1 (.t 17) (.t 15)),r_ 5 19 (l_ 18),p_ 6 20 (k_ 19),p_ 7 21 (.mv (i_ 0))]) (.block 2 (.pre [.can 13 [5,19,20,21],.born 5 108 18 ai am,.up 20,.up 21,.can 13 [5,19,20,21]] (.inv 0 xt)))) (.seq (g_ 2 [p_ 0 31 (m_ 5),p_ 1 4 (m_ 31)]) .ret))))) [(0,[.frz 4]),(1,[.frz 4])])
theorem Mp:bT Tryz.prog 30 JW=true:=by kernel_rfl
structure eN where
 f:bE
 o:List ai
 i:Int
structure AD where
 o:List ai
def nT (p:eN) (r:AD):Prop:=r.o.map aq=p.f.o2.map aq∧∀x∈r.o,bp x
noncomputable def ij (p:eN):IL:=((.cons 21 (.sy (.int 0 p.i)) (.cons 20 (.sy (.int 0 (p.f.o2.length:Int))) (.cons 19 (.sy (.prow 11 p.f.o2.length)) (.cons 5 (.sy (.prow 13 p.o.length)) .nil)))),(lK p.f p.o),14)
noncomputable def pV (p:eN) (K:KC):Bool:=aA fun r:AD=>iP (nT p r) (K 2 (.cons 5 (.sy (.prow 13 r.o.length)) .nil) (lK p.f r.o) 14) true
def iD (p:eN):Prop:=(p.f.o2.length≤80∧0≤p.i∧p.i≤(p.f.o2.length:Int)∧(p.o.length:Int)=p.i)∧(∀x∈p.f.o2,bp x)∧(∀x∈p.o,bp x)∧p.o.map aq=(p.f.o2.take p.i.toNat).map aq
theorem MM {p:eN} {K:KC} (hK:pV p K=true) (r:AD) (h:nT p r):K 2 (.cons 5 (.sy (.prow 13 r.o.length)) .nil) (lK p.f r.o) 14=true:=aP h (aF hK r)
noncomputable def ry (p:eN) (K:KC):Bool:=ac (au (iD p)) (pV p K)
noncomputable def wg:ft:=fun j S M nx K=>(Bool.rec (false) (aI fun p:eN=>ac (au ((S,M,nx)=ij p)) (ry p K)) (Nat.beq j 0))
def gp (p:eN):Nat:=((p.f.o2.length:Int) - p.i).toNat
noncomputable def Es (s:IL) (n:Nat) (K:KC):Bool:=aI fun q=>mP (s=ij q∧gp q<n) (ry q K)
theorem OH {p q:eN} {K:KC} {s:IL} (hm:gp q<gp p:=by dsimp only[gp]<;>(omega)) (hp:iD q:=by dsimp only[iD]<;>(have e1:=(by assumption:_=x1.ps);have e2:=(by assumption:_=x1.ws);have hx:=g5 _ (acH (by assumption:p.f.o2[p.i.toNat]?=some x1));exact⟨⟨g1,by omega,by omega,by simp;omega⟩,g5,jJ g6 (by unfold bp dU fg;simp only;rw[e1,e2];exact hx),xY g2 g7 (by assumption:p.f.o2[p.i.toNat]?=some x1) (by simp only[aq,e1])⟩)) (hK:pV q K=true:=by exact hK) (e:s=ij q:=by rfl):Es s (gp p) K=true:=aG q (bf ⟨e,hm⟩ (bf hp hK))
theorem NS (p:eN) (K:KC) (hpre:iD p) (hK:pV p K=true):(cQ (bH tz) wg 600 xt (ij p).1 (ij p).2.1 (ij p).2.2 (fun e S M nx=>Nat.casesOn e (aI fun q:eN=>ac (au ((S,M,nx)=ij q∧gp q<gp p)) (ry q K)) (fun e2=>K (Nat.succ e2) S M nx)))=true:=by
 refine Eq.trans (b:=(iP (p.i<(p.f.o2.length:Int)) (mP (0≤p.i∧p.i<(p.f.o2.length:Int)) (mP (p.i.toNat<p.f.o2.length) (aA fun x1:ai=>iP (p.f.o2[p.i.toNat]?=some x1) (aX (([.sy (.imm x1.hp 5 aW x1.ps encP)],.leaf,0)) eT bX bY fun p1 r1=>mP (((.imm x1.hw 3 bg x1.ws bb):SY)=(.imm x1.hw 3 bg x1.ws bb)) (aX (([.sy (.imm x1.hw 3 bg x1.ws bb)],.leaf,0)) gS cU cW fun p2 r2=>mP (p.o.length=p.o.length) (aI fun m1:List ai=>mP (dx (m1.map am) [[.sint 1 x1.kind,.sint 1 x1.id.client.node,.sint 2 x1.id.client.life,.sint 3 x1.id.seq,.sint 1 x1.id.depth,.sint 1 x1.id.p0.group,.sint 1 x1.id.p0.index,.sint 1 x1.id.p1.group,.sint 1 x1.id.p1.index,.sint 1 x1.id.p2.group,.sint 1 x1.id.p2.index,.sint 3 x1.floor,.imm r1.h 5 aW r1.o encP,.sint 1 x1.rc,.sstr x1.rv,.imm r2.h 3 bg r2.o bb,.sint 1 x1.vic.node,.sint 2 x1.vic.life]]) (mP (dh 104 (p.o.length+m1.length)) (mP (aL 0 (p.i+(1:Int))) (Es ((.cons 21 (.sy (.int 0 (p.i+(1:Int)))) (.cons 20 (.sy (.int 0 (p.f.o2.length:Int))) (.cons 19 (.sy (.prow 11 p.f.o2.length)) (.cons 5 (.sy (.prow 13 ((p.o++m1).length))) .nil)))),(lK p.f (p.o++m1)),14) (gp p) K)))))) true))) (K 2 (.cons 5 (.sy (.prow 13 p.o.length)) .nil) (lK p.f p.o) 14))) (by kernel_rfl) ?_
 dsimp only[iD]at hpre
 obtain⟨⟨g1,g2,g3,g4⟩,g5,g6,g7⟩:=hpre
 refine iI (fun hc1=> ?_) (fun hc1=> ?_)
 refine dL (fX ?_)
 refine aB (fun x1=> ?_)
 refine iI (fun hi2=> ?_) (fun _=>rfl)
 refine aJ (⟨x1.hp,x1.ps⟩:ek) rfl (by(try dsimp only[bX]);have hx:=(g5 _ (acH (by assumption:p.f.o2[p.i.toNat]?=some x1))).2.1.1;omega) fun r1 hi3=> ?_
 dsimp only[bY]at hi3
 refine az ?_
 refine aJ (⟨x1.hw,x1.ws⟩:fv) rfl (by(try dsimp only[cU]);exact(g5 _ (acH (by assumption:p.f.o2[p.i.toNat]?=some x1))).2.2) fun r2 hi4=> ?_
 dsimp only[cW]at hi4
 refine az ?_
 refine aG [⟨x1.kind,⟨⟨x1.id.client.node,x1.id.client.life⟩,x1.id.seq,x1.id.depth,⟨x1.id.p0.group,x1.id.p0.index⟩,⟨x1.id.p1.group,x1.id.p1.index⟩,⟨x1.id.p2.group,x1.id.p2.index⟩⟩,x1.floor,r1.h,r1.o,x1.rc,x1.rv,r2.h,r2.o,⟨x1.vic.node,x1.vic.life⟩⟩] ?_
 refine jN ?_
 refine li (aN ?_)
 exact OH (q:=⟨p.f,p.o++[⟨x1.kind,⟨⟨x1.id.client.node,x1.id.client.life⟩,x1.id.seq,x1.id.depth,⟨x1.id.p0.group,x1.id.p0.index⟩,⟨x1.id.p1.group,x1.id.p1.index⟩,⟨x1.id.p2.group,x1.id.p2.index⟩⟩,x1.floor,r1.h,r1.o,x1.rc,x1.rv,r2.h,r2.o,⟨x1.vic.node,x1.vic.life⟩⟩],p.i+(1:Int)⟩)
 exact MM hK ⟨p.o⟩ (by dsimp only[nT]<;>exact⟨xX g7 (by omega),g6⟩)
theorem Oe:dI Tryz.prog 32 13 wg true 0 xt:=by
 exact dM (lf:=600) bv (aT sY) (by rfl) ij gp ry (fun b j x h=>by cases h) (fun S M nx K h=>by obtain⟨p,h⟩:=bL h;exact⟨p,(aa h).1,(aa h).2⟩) (fun p K h=>NS p K (aa h).1 (aa h).2)
structure mR where
 f:bE
structure Gb where
 h:Value
 o:List ai
def ma (p:mR) (r:Gb):Prop:=r.o.map aq=p.f.o2.map aq∧∀x∈r.o,bp x
noncomputable def rf (p:mR):IE:=([.ptr 0 0,.int 1 (.ofNat 2)],(bj p.f),13)
noncomputable def yT (p:mR) (K:KE):Bool:=aA fun r:Gb=>iP (ma p r) (K (.sy (.imm r.h 18 ai r.o am)) (bj p.f) 13) true
def kz (p:mR):Prop:=(∀x∈p.f.o2,bp x)∧p.f.o2.length≤80
theorem Rl {p:mR} {K:KE} (hK:yT p K=true) (r:Gb) (h:ma p r):K (.sy (.imm r.h 18 ai r.o am)) (bj p.f) 13=true:=aP h (aF hK r)
theorem Sc (p:mR) (K:KE) (hpre:kz p) (hK:yT p K=true):(bZ 13 (bH tz) wg 600 JW (rf p).1 (rf p).2.1 (rf p).2.2 K)=true:=by
 refine Eq.trans (b:=(aX (((.cons 21 (.sy (.int 0 0)) (.cons 20 (.sy (.int 0 (p.f.o2.length:Int))) (.cons 19 (.sy (.prow 11 p.f.o2.length)) (.cons 5 (.sy (.prow 13 0)) .nil)))),(lK p.f ([]:List ai)),14)) ij iD nT fun p1 r1=>mP (r1.o.length=r1.o.length) (aA fun h1:Value=>K (.sy (.imm h1 18 ai r1.o am)) (bj p1.f) 13))) (by kernel_rfl) ?_
 dsimp only[kz]at hpre
 obtain⟨u1,u2⟩:=hpre
 refine aJ (⟨p.f,([]:List ai),(0:Int)⟩:eN) rfl (by(try dsimp only[iD]);exact⟨⟨by omega,by omega,by omega,by simp⟩,u1,by simp,by simp⟩) fun r1 hi1=> ?_
 dsimp only[nT]at hi1
 refine az ?_
 refine aB (fun h1=> ?_)
 exact Rl hK ⟨h1,r1.o⟩ (by dsimp only[ma]<;>exact hi1)
noncomputable def Ca:dC:=qD (fun us M=>AR us 1 2) (ce rf (dD kz yT)) Cb
theorem JD:cY Tryz.prog 30 13 Ca:=iT (bV (f:=30) (k:=13) (lp:=wg) (lf:=600) bv (aT sY) Mp (by rfl) (fun b j x h=>(cd Oe (fun h=>(by cases h)) h)) fun p K h=>Sc p K (aa h).1 (aa h).2) JE
noncomputable def tx:=bM tz 13 Ca 30 [(1,1)]
theorem sX:be Tryz.prog tx:=aY JD sY
def xr:XC:=lz
def JV:XF:=.mk 32 (.one 4) (.aft (.seq (g_ 1 [p_ 0 4 (.mv (.c .nilS))]) (.seq (.seq (g_ 6 [p_ 0 8 (m_ 0),c_ 1 9 46 [.t 8],p_ 2 10 (m_ 9),aK 3 11 10 false (m_ 1),aK 4 12 10 false (.bin 3 3 (.t 11) (.c (.int 1 (.ofNat 4)))),p_ 5 13 (.pick (.t 10) (.c (.bool true)) (.t 12))]) (.cond (.t 13) (.seq (g_ 1 [p_ 0 4 (.mv (.c .nilS))]) .ret) .skip)) (.seq (g_ 1 [p_ 0 5 (.mv (.c .nilS))]) (.seq (.seq (g_ 8 [p_ 0 14 (m_ 0),p_ 1 15 (m_ 1),p_ 2 16 (n_ 14),p_ 3 17 (f_ 8 16),p_ 4 18 (.ixa 4 1 (.t 17) (.t 15)),r_ 5 19 (l_ 18),p_ 6 20 (k_ 19),p_ 7 21 (.mv (i_ 0))]) (.block 2 (.pre [.can 13 [5,19,20,21],.born 5 108 18 ai am,.up 20,.up 21,.can 13 [5,19,20,21]] (.inv 0 xr)))) (.seq (g_ 2 [p_ 0 31 (m_ 5),p_ 1 4 (m_ 31)]) .ret))))) [(0,[.frz 4]),(1,[.frz 4])])
theorem Mo:bT Tryz.prog 30 JV=true:=by kernel_rfl
structure eM where
 f:bE
 o:List ai
 i:Int
structure AC where
 o:List ai
def nS (p:eM) (r:AC):Prop:=r.o.map aq=p.f.o3.map aq∧∀x∈r.o,bp x
noncomputable def ii (p:eM):IL:=((.cons 21 (.sy (.int 0 p.i)) (.cons 20 (.sy (.int 0 (p.f.o3.length:Int))) (.cons 19 (.sy (.prow 12 p.f.o3.length)) (.cons 5 (.sy (.prow 13 p.o.length)) .nil)))),(lK p.f p.o),14)
noncomputable def pU (p:eM) (K:KC):Bool:=aA fun r:AC=>iP (nS p r) (K 2 (.cons 5 (.sy (.prow 13 r.o.length)) .nil) (lK p.f r.o) 14) true
def iC (p:eM):Prop:=(p.f.o3.length≤80∧0≤p.i∧p.i≤(p.f.o3.length:Int)∧(p.o.length:Int)=p.i)∧(∀x∈p.f.o3,bp x)∧(∀x∈p.o,bp x)∧p.o.map aq=(p.f.o3.take p.i.toNat).map aq
theorem ML {p:eM} {K:KC} (hK:pU p K=true) (r:AC) (h:nS p r):K 2 (.cons 5 (.sy (.prow 13 r.o.length)) .nil) (lK p.f r.o) 14=true:=aP h (aF hK r)
noncomputable def rx (p:eM) (K:KC):Bool:=ac (au (iC p)) (pU p K)
noncomputable def we:ft:=fun j S M nx K=>(Bool.rec (false) (aI fun p:eM=>ac (au ((S,M,nx)=ii p)) (rx p K)) (Nat.beq j 0))
def gm (p:eM):Nat:=((p.f.o3.length:Int) - p.i).toNat
noncomputable def Er (s:IL) (n:Nat) (K:KC):Bool:=aI fun q=>mP (s=ii q∧gm q<n) (rx q K)
theorem OG {p q:eM} {K:KC} {s:IL} (hm:gm q<gm p:=by dsimp only[gm]<;>(omega)) (hp:iC q:=by dsimp only[iC]<;>(have e1:=(by assumption:_=x1.ps);have e2:=(by assumption:_=x1.ws);have hx:=g5 _ (acH (by assumption:p.f.o3[p.i.toNat]?=some x1));exact⟨⟨g1,by omega,by omega,by simp;omega⟩,g5,jJ g6 (by unfold bp dU fg;simp only;rw[e1,e2];exact hx),xY g2 g7 (by assumption:p.f.o3[p.i.toNat]?=some x1) (by simp only[aq,e1])⟩)) (hK:pU q K=true:=by exact hK) (e:s=ii q:=by rfl):Er s (gm p) K=true:=aG q (bf ⟨e,hm⟩ (bf hp hK))
theorem NR (p:eM) (K:KC) (hpre:iC p) (hK:pU p K=true):(cQ (bH tx) we 600 xr (ii p).1 (ii p).2.1 (ii p).2.2 (fun e S M nx=>Nat.casesOn e (aI fun q:eM=>ac (au ((S,M,nx)=ii q∧gm q<gm p)) (rx q K)) (fun e2=>K (Nat.succ e2) S M nx)))=true:=by
 refine Eq.trans (b:=(iP (p.i<(p.f.o3.length:Int)) (mP (0≤p.i∧p.i<(p.f.o3.length:Int)) (mP (p.i.toNat<p.f.o3.length) (aA fun x1:ai=>iP (p.f.o3[p.i.toNat]?=some x1) (aX (([.sy (.imm x1.hp 5 aW x1.ps encP)],.leaf,0)) eT bX bY fun p1 r1=>mP (((.imm x1.hw 3 bg x1.ws bb):SY)=(.imm x1.hw 3 bg x1.ws bb)) (aX (([.sy (.imm x1.hw 3 bg x1.ws bb)],.leaf,0)) gS cU cW fun p2 r2=>mP (p.o.length=p.o.length) (aI fun m1:List ai=>mP (dx (m1.map am) [[.sint 1 x1.kind,.sint 1 x1.id.client.node,.sint 2 x1.id.client.life,.sint 3 x1.id.seq,.sint 1 x1.id.depth,.sint 1 x1.id.p0.group,.sint 1 x1.id.p0.index,.sint 1 x1.id.p1.group,.sint 1 x1.id.p1.index,.sint 1 x1.id.p2.group,.sint 1 x1.id.p2.index,.sint 3 x1.floor,.imm r1.h 5 aW r1.o encP,.sint 1 x1.rc,.sstr x1.rv,.imm r2.h 3 bg r2.o bb,.sint 1 x1.vic.node,.sint 2 x1.vic.life]]) (mP (dh 104 (p.o.length+m1.length)) (mP (aL 0 (p.i+(1:Int))) (Er ((.cons 21 (.sy (.int 0 (p.i+(1:Int)))) (.cons 20 (.sy (.int 0 (p.f.o3.length:Int))) (.cons 19 (.sy (.prow 12 p.f.o3.length)) (.cons 5 (.sy (.prow 13 ((p.o++m1).length))) .nil)))),(lK p.f (p.o++m1)),14) (gm p) K)))))) true))) (K 2 (.cons 5 (.sy (.prow 13 p.o.length)) .nil) (lK p.f p.o) 14))) (by kernel_rfl) ?_
 dsimp only[iC]at hpre
 obtain⟨⟨g1,g2,g3,g4⟩,g5,g6,g7⟩:=hpre
 refine iI (fun hc1=> ?_) (fun hc1=> ?_)
 refine dL (fX ?_)
 refine aB (fun x1=> ?_)
 refine iI (fun hi2=> ?_) (fun _=>rfl)
 refine aJ (⟨x1.hp,x1.ps⟩:ek) rfl (by(try dsimp only[bX]);have hx:=(g5 _ (acH (by assumption:p.f.o3[p.i.toNat]?=some x1))).2.1.1;omega) fun r1 hi3=> ?_
 dsimp only[bY]at hi3
 refine az ?_
 refine aJ (⟨x1.hw,x1.ws⟩:fv) rfl (by(try dsimp only[cU]);exact(g5 _ (acH (by assumption:p.f.o3[p.i.toNat]?=some x1))).2.2) fun r2 hi4=> ?_
 dsimp only[cW]at hi4
 refine az ?_
 refine aG [⟨x1.kind,⟨⟨x1.id.client.node,x1.id.client.life⟩,x1.id.seq,x1.id.depth,⟨x1.id.p0.group,x1.id.p0.index⟩,⟨x1.id.p1.group,x1.id.p1.index⟩,⟨x1.id.p2.group,x1.id.p2.index⟩⟩,x1.floor,r1.h,r1.o,x1.rc,x1.rv,r2.h,r2.o,⟨x1.vic.node,x1.vic.life⟩⟩] ?_
 refine jN ?_
 refine li (aN ?_)
 exact OG (q:=⟨p.f,p.o++[⟨x1.kind,⟨⟨x1.id.client.node,x1.id.client.life⟩,x1.id.seq,x1.id.depth,⟨x1.id.p0.group,x1.id.p0.index⟩,⟨x1.id.p1.group,x1.id.p1.index⟩,⟨x1.id.p2.group,x1.id.p2.index⟩⟩,x1.floor,r1.h,r1.o,x1.rc,x1.rv,r2.h,r2.o,⟨x1.vic.node,x1.vic.life⟩⟩],p.i+(1:Int)⟩)
 exact ML hK ⟨p.o⟩ (by dsimp only[nS]<;>exact⟨xX g7 (by omega),g6⟩)
theorem Od:dI Tryz.prog 32 13 we true 0 xr:=by
 exact dM (lf:=600) bv (aT sX) (by rfl) ii gm rx (fun b j x h=>by cases h) (fun S M nx K h=>by obtain⟨p,h⟩:=bL h;exact⟨p,(aa h).1,(aa h).2⟩) (fun p K h=>NR p K (aa h).1 (aa h).2)
structure mQ where
 f:bE
structure Ga where
 h:Value
 o:List ai
def lZ (p:mQ) (r:Ga):Prop:=r.o.map aq=p.f.o3.map aq∧∀x∈r.o,bp x
noncomputable def re (p:mQ):IE:=([.ptr 0 0,.int 1 (.ofNat 3)],(bj p.f),13)
noncomputable def yS (p:mQ) (K:KE):Bool:=aA fun r:Ga=>iP (lZ p r) (K (.sy (.imm r.h 18 ai r.o am)) (bj p.f) 13) true
def ky (p:mQ):Prop:=(∀x∈p.f.o3,bp x)∧p.f.o3.length≤80
theorem Rk {p:mQ} {K:KE} (hK:yS p K=true) (r:Ga) (h:lZ p r):K (.sy (.imm r.h 18 ai r.o am)) (bj p.f) 13=true:=aP h (aF hK r)
theorem Sb (p:mQ) (K:KE) (hpre:ky p) (hK:yS p K=true):(bZ 13 (bH tx) we 600 JV (re p).1 (re p).2.1 (re p).2.2 K)=true:=by
 refine Eq.trans (b:=(aX (((.cons 21 (.sy (.int 0 0)) (.cons 20 (.sy (.int 0 (p.f.o3.length:Int))) (.cons 19 (.sy (.prow 12 p.f.o3.length)) (.cons 5 (.sy (.prow 13 0)) .nil)))),(lK p.f ([]:List ai)),14)) ii iC nS fun p1 r1=>mP (r1.o.length=r1.o.length) (aA fun h1:Value=>K (.sy (.imm h1 18 ai r1.o am)) (bj p1.f) 13))) (by kernel_rfl) ?_
 dsimp only[ky]at hpre
 obtain⟨u1,u2⟩:=hpre
 refine aJ (⟨p.f,([]:List ai),(0:Int)⟩:eM) rfl (by(try dsimp only[iC]);exact⟨⟨by omega,by omega,by omega,by simp⟩,u1,by simp,by simp⟩) fun r1 hi1=> ?_
 dsimp only[nS]at hi1
 refine az ?_
 refine aB (fun h1=> ?_)
 exact Rk hK ⟨h1,r1.o⟩ (by dsimp only[lZ]<;>exact hi1)
noncomputable def Kj:dC:=qD (fun us M=>AR us 1 3) (ce re (dD ky yS)) Ca
theorem ST:cY Tryz.prog 30 13 Kj:=iT (bV (f:=30) (k:=13) (lp:=we) (lf:=600) bv (aT sX) Mo (by rfl) (fun b j x h=>(cd Od (fun h=>(by cases h)) h)) fun p K h=>Sb p K (aa h).1 (aa h).2) JD
noncomputable def kI:=bM tx 13 Kj 30 [(1,1)]
theorem ot:be Tryz.prog kI:=aY ST sX
theorem OZ {f:bE} {g g':Int} {l:List ai} (h0:0≤g) (h1:g<4) (hg:g'=g+1) (hl:l.map aq=jT (bB f) g) (hz:l.length=0):gA (bB f) g=gA (bB f) g':=by
 rw[sq h0 h1,←hl,Fe (by simpa using hz),hg];rfl
theorem lg {k:KyR} {g g':Int} {l:List ai} {a b c:List UInt8} (h0:0≤g) (h1:g<4) (hg:g'=g+1) (hl:l.map aq=jT k g) (hz:¬l.length=0) (hb:b=a++([111,114,100,101,114,32]++(Lib.itoa g++[10]))) (hc:c=b++fo 0 ((l.drop (0:Int).toNat).map aq)):c++gA k g'=a++gA k g:=by
 rw[sq h0 h1,←hl,Jz (by simpa using hz),hc,hb,hg];simp
theorem so {k:KyR} {g g':Int} {l:List ai} {b c:List UInt8} (h0:0≤g) (h1:g<4) (hg:g'=g+1) (hl:l.map aq=jT k g) (hz:l.length=0) (hc:c=b++fo 0 ((l.drop (0:Int).toNat).map aq)):c++gA k g'=b++gA k g:=by
 have e:l=[]:=List.eq_nil_of_length_eq_zero hz
 rw[sq h0 h1,←hl,Fe (by simpa using hz),hc,hg,e]
 show(b++[])++_=b++([]++_)
 simp
noncomputable def Ap (f:bE) (k0:Nat) (k1:Nat) (k2:Nat) (k3:Nat) (k4:Nat) (k5:Nat) (k6:Nat) (k7:Nat):T:=(.node (.node (.node (.node .leaf (some (.kmap false true false eI f.ms ed cP)) .leaf) (some (.kmap false true false ID f.me bG bw)) (.node .leaf (some (.prow 108 18 ai f.o2 am)) .leaf)) (some (.kmap false true false ID f.mb bG bw)) (.node (.node .leaf (some (.prow 108 18 ai f.o0 am)) .leaf) (some (.kmap false true false eD f.mt dZ cO)) (.node .leaf (some (.blk false 131 2 [[.nilP,.nilS]])) .leaf))) (some (.blk false 97 14 [[.sy (.kmp 1),.sy (.prow 2 k0),.sy (.kmp 3),.sy (.prow 4 k1),.sy (.kmp 5),.sy (.prow 6 k2),.sy (.kmp 7),.sy (.prow 8 k3),.sy (.prow 9 k4),.sy (.prow 10 k5),.sy (.prow 11 k6),.sy (.prow 12 k7),.sy (.int 0 f.sp),.bool true]])) (.node (.node (.node .leaf (some (.prow 119 5 cM f.s cp)) .leaf) (some (.prow 103 17 EdR f.e bA)) (.node .leaf (some (.prow 108 18 ai f.o3 am)) .leaf)) (some (.prow 78 14 BgR f.b bo)) (.node (.node .leaf (some (.prow 108 18 ai f.o1 am)) .leaf) (some (.prow 115 17 cL f.t co)) .leaf)))
noncomputable def sR (f:bE):T:=Ap f f.b.length f.e.length f.t.length f.s.length f.o0.length f.o1.length f.o2.length f.o3.length
noncomputable def Aq (f:bE) (b:List UInt8) (k0:Nat) (k1:Nat) (k2:Nat) (k3:Nat) (k4:Nat) (k5:Nat) (k6:Nat) (k7:Nat) (k8:Nat):T:=(.node (.node (.node (.node .leaf (some (.kmap false true false eI f.ms ed cP)) .leaf) (some (.kmap false true false ID f.me bG bw)) (.node .leaf (some (.prow 108 18 ai f.o2 am)) .leaf)) (some (.kmap false true false ID f.mb bG bw)) (.node (.node .leaf (some (.prow 108 18 ai f.o0 am)) .leaf) (some (.kmap false true false eD f.mt dZ cO)) (.node .leaf (some (.blk false 131 2 [[.ptr 13 0,.sy (.prow 14 k8)]])) .leaf))) (some (.blk false 97 14 [[.sy (.kmp 1),.sy (.prow 2 k0),.sy (.kmp 3),.sy (.prow 4 k1),.sy (.kmp 5),.sy (.prow 6 k2),.sy (.kmp 7),.sy (.prow 8 k3),.sy (.prow 9 k4),.sy (.prow 10 k5),.sy (.prow 11 k6),.sy (.prow 12 k7),.sy (.int 0 f.sp),.bool true]])) (.node (.node (.node .leaf (some (.prow 119 5 cM f.s cp)) .leaf) (some (.prow 103 17 EdR f.e bA)) (.node .leaf (some (.prow 108 18 ai f.o3 am)) .leaf)) (some (.prow 78 14 BgR f.b bo)) (.node (.node .leaf (some (.prow 108 18 ai f.o1 am)) .leaf) (some (.prow 115 17 cL f.t co)) (.node .leaf (some (.prow 5 1 UInt8 b bi)) .leaf))))
noncomputable def fu (f:bE) (b:List UInt8):T:=Aq f b f.b.length f.e.length f.t.length f.s.length f.o0.length f.o1.length f.o2.length f.o3.length b.length
def Dx:XC:=(.aft (.seq (g_ 1 [p_ 0 25 (.bin 3 0 (.t 24) (.t 23))]) (.seq (.cond (.t 25) .skip (.exit 4)) (.seq (.block 5 (.seq (g_ 6 [p_ 0 26 (m_ 24),p_ 1 27 (.ixs 18 (.t 22) (.t 24)),r_ 2 28 (.ld true 18 (.t 27)),e_ 3 7 (.al 108 [.int 1 (.ofNat 0),.int 1 (.ofNat 0),.int 2 (.ofNat 0),.int 3 (.ofNat 0),.int 1 (.ofNat 0),.int 1 (.ofNat 0),.int 1 (.ofNat 0),.int 1 (.ofNat 0),.int 1 (.ofNat 0),.int 1 (.ofNat 0),.int 1 (.ofNat 0),.int 3 (.ofNat 0),.nilS,.int 1 (.ofNat 0),.str [],.nilS,.int 1 (.ofNat 0),.int 2 (.ofNat 0)]),p_ 4 6 (m_ 26),cA 5 (.st 18 (.t 7) (.t 28))]) (h_ 7 [p_ 0 29 (m_ 6),r_ 3 32 (.ld true 18 (.t 7)),c_ 1 30 32 [.t 29],a_ 3 32 (.ld true 18 (.t 7)),p_ 2 31 (.bin 4 0 (.t 30) (.c (.str [58]))),c_ 4 33 33 [.t 32],e_ 5 34 (.bsl 9 1 2 [.str [],.str []] [(0,1),(1,1)] [.t 31,.t 33]),c_ 6 35 31 [.t 3,.t 34]]))) (g_ 2 [p_ 0 36 (.bin 0 0 (.t 24) (i_ 1)),p_ 1 24 (m_ 36)])))) [(0,[.can 13 [0,3,8,22,23,24]]),(4,[.can 13 [0,3,8]])])
def As:XC:=(.aft (.seq (g_ 1 [p_ 0 9 (.bin 3 0 (.t 8) (.c (.int 1 (.ofNat 4))))]) (.seq (.cond (.t 9) .skip (.exit 2)) (.seq (.pre [.fix 8 4] (.block 3 (.seq (g_ 2 [p_ 0 10 (m_ 8),p_ 1 4 (m_ 10)]) (.seq (g_ 4 [p_ 0 11 (m_ 0),p_ 1 12 (m_ 4),c_ 2 13 30 [.t 11,.t 12],p_ 3 5 (m_ 13)]) (.seq (.seq (g_ 3 [p_ 0 14 (m_ 5),p_ 1 15 (k_ 14),p_ 2 16 (.bin 3 2 (.t 15) (i_ 0))]) (.cond (.t 16) (g_ 5 [p_ 0 17 (m_ 4),p_ 1 18 (.cnv 0 (.t 17)),c_ 2 19 32 [.t 18],e_ 3 20 (.bsl 9 1 2 [.str [],.str []] [(0,1),(1,1)] [.c (.str [111,114,100,101,114]),.t 19]),c_ 4 21 31 [.t 3,.t 20]]) .skip)) (.seq (g_ 3 [p_ 0 22 (m_ 5),p_ 1 23 (k_ 22),p_ 2 24 (.mv (i_ 0))]) (.block 4 (.pre [.can 13 [0,3,8,22,23,24],.up 8,.up 23,.up 24,.can 13 [0,3,8,22,23,24]] (.inv 0 Dx))))))))) (g_ 2 [p_ 0 37 (.bin 0 0 (.t 8) (.c (.int 1 (.ofNat 1)))),p_ 1 8 (m_ 37)])))) [(0,[.up 8,.can 13 [0,3,8]]),(2,[.can 13 [3]])])
def JU:XF:=.mk 40 (.one 2) (.aft (.seq (g_ 1 [p_ 0 2 (.mv (.c (.str [])))]) (.seq (g_ 1 [e_ 0 3 (.al 131 [.nilP,.nilS])]) (.seq (.seq (g_ 1 [p_ 0 8 (.mv (.c (.int 1 (.ofNat 0))))]) (.block 2 (.pre [.can 13 [0,3,8],.up 8,.can 13 [0,3,8]] (.inv 1 As)))) (.seq (g_ 3 [p_ 0 38 (f_ 0 3),c_ 1 39 34 [.t 38],p_ 2 2 (m_ 39)]) .ret)))) [(0,[.up 2]),(1,[.up 2])])
theorem Mn:bT Tryz.prog 9 JU=true:=by kernel_rfl
structure fA where
 f:bE
 hl:Value
 l:List ai
 g:Int
 i:Int
noncomputable def nE (p:fA):IL:=((.cons 24 (.sy (.int 0 p.i)) (.cons 23 (.sy (.int 0 (p.l.length:Int))) (.cons 22 (.sy (.imm p.hl 18 ai p.l am)) (.cons 8 (.sy (.int 1 p.g)) (.cons 3 (.ptr 13 0) (.cons 0 (.ptr 0 0) .nil)))))),(sR p.f),14)
noncomputable def Jx (p:fA) (K:KC):Bool:=K 4 (.cons 8 (.sy (.int 1 p.g)) (.cons 3 (.ptr 13 0) (.cons 0 (.ptr 0 0) .nil))) (sR p.f) 14
def gz (p:fA):Prop:=p.l.length=0∧0≤p.i
noncomputable def EF (p:fA) (K:KC):Bool:=ac (au (gz p)) (Jx p K)
def Fs (p:fA):Nat:=((p.l.length:Int) - p.i).toNat
structure dq where
 f:bE
 hl:Value
 l:List ai
 b:List UInt8
 g:Int
 i:Int
structure Jf where
 c:List UInt8
def cD (p:dq) (r:Jf):Prop:=r.c=p.b++fo p.i ((p.l.drop p.i.toNat).map aq)∧(r.c.length:Int)≤200000000*(p.g+1)∧r.c≠[]
noncomputable def er (p:dq):IL:=((.cons 24 (.sy (.int 0 p.i)) (.cons 23 (.sy (.int 0 (p.l.length:Int))) (.cons 22 (.sy (.imm p.hl 18 ai p.l am)) (.cons 8 (.sy (.int 1 p.g)) (.cons 3 (.ptr 13 0) (.cons 0 (.ptr 0 0) .nil)))))),(fu p.f p.b),15)
noncomputable def sk (p:dq) (K:KC):Bool:=aA fun r:Jf=>iP (cD p r) (K 4 (.cons 8 (.sy (.int 1 p.g)) (.cons 3 (.ptr 13 0) (.cons 0 (.ptr 0 0) .nil))) (fu p.f r.c) 15) true
def bK (p:dq):Prop:=(p.l.length≤80∧0≤p.i∧p.i≤(p.l.length:Int)∧0≤p.g∧p.g≤3∧(p.b.length:Int)≤100+200000000*p.g+1400000*p.i)∧(∀x∈p.l,bp x)∧p.b≠[]
theorem TO {p:dq} {K:KC} (hK:sk p K=true) (r:Jf) (h:cD p r):K 4 (.cons 8 (.sy (.int 1 p.g)) (.cons 3 (.ptr 13 0) (.cons 0 (.ptr 0 0) .nil))) (fu p.f r.c) 15=true:=aP h (aF hK r)
noncomputable def EE (p:dq) (K:KC):Bool:=ac (au (bK p)) (sk p K)
def oF (p:dq):Nat:=((p.l.length:Int) - p.i).toNat
noncomputable def Ft (S:SL) (M:T) (nx:Nat) (K:KC):Bool:=(Bool.rec (Bool.rec false (aI fun p:dq=>ac (au ((S,M,nx)=er p)) (EE p K)) (Nat.beq (Dj M 14) 1)) (aI fun p:fA=>ac (au ((S,M,nx)=nE p)) (EF p K)) (Nat.beq (Dj M 14) 0))
inductive A_l_in where
 |v0 (p:fA)
 |v1 (p:dq)
noncomputable def NG (q:A_l_in):IL:=A_l_in.casesOn q (fun p=>nE p) (fun p=>er p)
def nl:A_l_in→Nat
 |.v0 p=>Fs p
 |.v1 p=>oF p
noncomputable def HY (q:A_l_in) (K:KC):Bool:=A_l_in.casesOn q (fun p=>EF p K) (fun p=>EE p K)
noncomputable def Pg (n:Nat) (K:KC):KC:=fun e S M nx=>Nat.casesOn e (aI fun q:A_l_in=>ac (au ((S,M,nx)=NG q∧nl q<n)) (HY q K)) (fun e2=>K (Nat.succ e2) S M nx)
noncomputable def Dz (s:IL) (n:Nat) (K:KC):Bool:=aI fun q=>mP (s=NG q∧nl q<n) (HY q K)
theorem Wc {n:Nat} {q:dq} {K:KC} {s:IL} (hm:oF q<n) (hp:bK q) (hK:sk q K=true) (e:s=er q):Dz s n K=true:=aG (.v1 q) (bf ⟨e,hm⟩ (bf hp hK))
theorem Wh {p q:dq} {K:KC} {s:IL} (hm:oF q<oF p) (hp:bK q) (hK:sk q K=true) (e:s=er q):Dz s (nl (.v1 p)) K=true:=aG (.v1 q) (bf ⟨e,hm⟩ (bf hp hK))
structure fW where
 f:bE
 g:Int
structure mJ where
 c:List UInt8
def Bi (p:fW):Prop:=gA (bB p.f) p.g=[]
def Gz (p:fW) (r:mJ):Prop:=r.c=gA (bB p.f) p.g∧r.c≠[]
noncomputable def oN (p:fW):IL:=((.cons 8 (.sy (.int 1 p.g)) (.cons 3 (.ptr 13 0) (.cons 0 (.ptr 0 0) .nil))),(sR p.f),14)
noncomputable def yZ (p:fW) (K:KC):Bool:=ac (iP (Bi p) (K 2 (.cons 3 (.ptr 13 0) .nil) (sR p.f) 14) true) (aA fun r:mJ=>iP (Gz p r) (K 2 (.cons 3 (.ptr 13 0) .nil) (fu p.f r.c) 15) true)
def kF (p:fW):Prop:=(0≤p.g∧p.g≤4)∧jY p.f∧bC p.f 80
noncomputable def Ba (p:fW) (K:KC):Bool:=ac (au (kF p)) (yZ p K)
def fG (p:fW):Nat:=(4 - p.g).toNat
structure gV where
 f:bE
 b:List UInt8
 g:Int
structure oL where
 c:List UInt8
def Bh (p:gV) (r:oL):Prop:=r.c=p.b++gA (bB p.f) p.g∧r.c≠[]
noncomputable def oM (p:gV):IL:=((.cons 8 (.sy (.int 1 p.g)) (.cons 3 (.ptr 13 0) (.cons 0 (.ptr 0 0) .nil))),(fu p.f p.b),15)
noncomputable def pT (p:gV) (K:KC):Bool:=aA fun r:oL=>iP (Bh p r) (K 2 (.cons 3 (.ptr 13 0) .nil) (fu p.f r.c) 15) true
def dk (p:gV):Prop:=(0≤p.g∧p.g≤4)∧jY p.f∧bC p.f 80∧(p.b.length:Int)≤200000000*p.g∧p.b≠[]
theorem Rq {p:gV} {K:KC} (hK:pT p K=true) (r:oL) (h:Bh p r):K 2 (.cons 3 (.ptr 13 0) .nil) (fu p.f r.c) 15=true:=aP h (aF hK r)
noncomputable def AZ (p:gV) (K:KC):Bool:=ac (au (dk p)) (pT p K)
def da (p:gV):Nat:=(4 - p.g).toNat
noncomputable def BN (S:SL) (M:T) (nx:Nat) (K:KC):Bool:=(Bool.rec (Bool.rec false (aI fun p:gV=>ac (au ((S,M,nx)=oM p)) (AZ p K)) (Nat.beq (Dj M 14) 1)) (aI fun p:fW=>ac (au ((S,M,nx)=oN p)) (Ba p K)) (Nat.beq (Dj M 14) 0))
inductive A_l_out where
 |v0 (p:fW)
 |v1 (p:gV)
noncomputable def Ji (q:A_l_out):IL:=A_l_out.casesOn q (fun p=>oN p) (fun p=>oM p)
def cF:A_l_out→Nat
 |.v0 p=>fG p
 |.v1 p=>da p
noncomputable def ED (q:A_l_out) (K:KC):Bool:=A_l_out.casesOn q (fun p=>Ba p K) (fun p=>AZ p K)
noncomputable def LR (n:Nat) (K:KC):KC:=fun e S M nx=>Nat.casesOn e (aI fun q:A_l_out=>ac (au ((S,M,nx)=Ji q∧cF q<n)) (ED q K)) (fun e2=>K (Nat.succ e2) S M nx)
noncomputable def dH (s:IL) (n:Nat) (K:KC):Bool:=aI fun q=>mP (s=Ji q∧cF q<n) (ED q K)
theorem wx {n:Nat} {q:gV} {K:KC} {s:IL} (hm:da q<n) (hp:dk q) (hK:pT q K=true) (e:s=oM q):dH s n K=true:=aG (.v1 q) (bf ⟨e,hm⟩ (bf hp hK))
theorem wy {p q:fW} {K:KC} {s:IL} (hm:fG q<fG p:=by dsimp only[fG]<;>(omega)) (hp:kF q:=by dsimp only[kF]<;>(exact⟨by omega,ga,gl⟩)) (hK:yZ q K=true:=by exact(aM (iI (fun hz=>aP (by dsimp only[Bi]at hz ⊢;exact(OZ g0 (by omega) (by(try dsimp only);omega) (by first|(have hg:=(by assumption:p.g=0);rw[hg];exact(by assumption:_=p.f.o0.map aq∧_).1)|(have hg:=(by assumption:p.g=1);rw[hg];exact(by assumption:_=p.f.o1.map aq∧_).1)|(have hg:=(by assumption:p.g=2);rw[hg];exact(by assumption:_=p.f.o2.map aq∧_).1)|(have hg:=(by assumption:p.g=3);rw[hg];exact(by assumption:_=p.f.o3.map aq∧_).1)) (by omega)).trans hz) hK0) (fun _=>rfl)) (aV hK1 fun r hz=>⟨hz.1.trans (OZ g0 (by omega) (by(try dsimp only);omega) (by first|(have hg:=(by assumption:p.g=0);rw[hg];exact(by assumption:_=p.f.o0.map aq∧_).1)|(have hg:=(by assumption:p.g=1);rw[hg];exact(by assumption:_=p.f.o1.map aq∧_).1)|(have hg:=(by assumption:p.g=2);rw[hg];exact(by assumption:_=p.f.o2.map aq∧_).1)|(have hg:=(by assumption:p.g=3);rw[hg];exact(by assumption:_=p.f.o3.map aq∧_).1)) (by omega)).symm,hz.2⟩))) (e:s=oN q:=by rfl):dH s (cF (.v0 p)) K=true:=aG (.v0 q) (bf ⟨e,hm⟩ (bf hp hK))
theorem kr {p q:gV} {K:KC} {s:IL} (hm:da q<da p) (hp:dk q) (hK:pT q K=true) (e:s=oM q):dH s (cF (.v1 p)) K=true:=aG (.v1 q) (bf ⟨e,hm⟩ (bf hp hK))
noncomputable def ko:ft:=fun j S M nx K=>(Bool.rec ((Bool.rec (false) (BN S M nx K) (Nat.beq j 1))) (Ft S M nx K) (Nat.beq j 0))
theorem UB (p:fA) (K:KC) (hpre:gz p) (hK:Jx p K=true):(cQ (bH kI) ko 600 Dx (nE p).1 (nE p).2.1 (nE p).2.2 (Pg (nl (.v0 p)) K))=true:=by
 refine Eq.trans (b:=(iP (p.i<(p.l.length:Int)) (mP (0≤p.i∧p.i<(p.l.length:Int)) (aA fun x1:ai=>iP (p.l[p.i.toNat]?=some x1) (mP (aL 0 p.i) (ac (qL [qI 1 x1.kind,qI 1 x1.id.client.node,qI 2 x1.id.client.life,qI 3 x1.id.seq,qI 1 x1.id.depth,qI 1 x1.id.p0.group,qI 1 x1.id.p0.index,qI 1 x1.id.p1.group,qI 1 x1.id.p1.index,qI 1 x1.id.p2.group,qI 1 x1.id.p2.index,qI 3 x1.floor,qY ((.imm x1.hp 5 aW x1.ps encP)),qI 1 x1.rc,qS x1.rv,qY ((.imm x1.hw 3 bg x1.ws bb)),qI 1 x1.vic.node,qI 2 x1.vic.life]) (mP ((Lib.itoa p.i).length+t_2.length≤9223372036854775807) (aX (([.agg (br ({x1 with id:=⟨⟨x1.id.client.node,x1.id.client.life⟩,x1.id.seq,x1.id.depth,⟨x1.id.p0.group,x1.id.p0.index⟩,⟨x1.id.p1.group,x1.id.p1.index⟩,⟨x1.id.p2.group,x1.id.p2.index⟩⟩,vic:=⟨x1.vic.node,x1.vic.life⟩}:ai))],.leaf,0)) yk oy jQ fun p1 r1=>mP ((Lib.join [(Lib.itoa p.i)++t_2,r1.s] t_0).length≤140737488355328) (mP ([(Lib.itoa p.i)++t_2,r1.s].length≤140737488355328) (mP (([]:List UInt8).length+(Lib.join [(Lib.itoa p.i)++t_2,r1.s] t_0).length≤140737488355328) (aI fun b1:List UInt8=>mP ((([]:List UInt8)++(Lib.join [(Lib.itoa p.i)++t_2,r1.s] t_0)).map bi=b1.map bi) (mP ((([]:List UInt8)++(Lib.join [(Lib.itoa p.i)++t_2,r1.s] t_0)).length=b1.length) (mP (aL 1 (10:Int)) (mP (b1.length+1≤140737488355328) (mP (aL 0 (p.i+(1:Int))) (Dz ((.cons 24 (.sy (.int 0 (p.i+(1:Int)))) (.cons 23 (.sy (.int 0 (p.l.length:Int))) (.cons 22 (.sy (.imm p.hl 18 ai p.l am)) (.cons 8 (.sy (.int 1 p.g)) (.cons 3 (.ptr 13 0) (.cons 0 (.ptr 0 0) .nil)))))),(fu p.f (b1++[ac0 (10:Int).toNat])),15) (nl (.v0 p)) K)))))))))))) true)) (K 4 (.cons 8 (.sy (.int 1 p.g)) (.cons 3 (.ptr 13 0) (.cons 0 (.ptr 0 0) .nil))) (sR p.f) 14))) (by kernel_rfl) ?_
 dsimp only[gz]at hpre
 obtain⟨g0,g1⟩:=hpre
 refine iI (fun hc1=> ?_) (fun hc1=> ?_)
 refine dL ?_
 refine aB (fun x1=> ?_)
 refine iI (fun hi2=> ?_) (fun _=>rfl)
 refine aN ?_
 refine aM (by simp[qL,qI,qS,qY,au]) ?_
 refine mI (by exfalso;omega) ?_
 refine aJ (⟨({x1 with id:=⟨⟨x1.id.client.node,x1.id.client.life⟩,x1.id.seq,x1.id.depth,⟨x1.id.p0.group,x1.id.p0.index⟩,⟨x1.id.p1.group,x1.id.p1.index⟩,⟨x1.id.p2.group,x1.id.p2.index⟩⟩,vic:=⟨x1.vic.node,x1.vic.life⟩}:ai)⟩:sS) rfl (by(try dsimp only[oy]);first|exact(g5 _ (acH (by assumption:p.l[p.i.toNat]?=some x1)))|(exfalso;omega)) fun r1 hi3=> ?_
 dsimp only[jQ]at hi3
 refine mI (by exfalso;omega) (mI (by exfalso;omega) (mI (by exfalso;omega) ?_))
 refine aG (([]:List UInt8)++(Lib.join [(Lib.itoa p.i)++t_2,r1.s] t_0)) ?_
 refine az (az (aN (mI (by(try dsimp only);exfalso;omega) (aN ?_))))
 exact Wc (n:=nl (.v0 p)) (q:=⟨p.f,p.hl,p.l,(([]:List UInt8)++(Lib.join [(Lib.itoa p.i)++t_2,r1.s] t_0))++[ac0 (10:Int).toNat],p.g,p.i+(1:Int)⟩) (by show oF _<Fs p;dsimp only[oF,Fs];omega) (by dsimp only[bK];(exfalso;omega)) (by exfalso;omega) rfl
 exact hK
theorem UA (p:dq) (K:KC) (hpre:bK p) (hK:sk p K=true):(cQ (bH kI) ko 600 Dx (er p).1 (er p).2.1 (er p).2.2 (Pg (nl (.v1 p)) K))=true:=by
 refine Eq.trans (b:=(iP (p.i<(p.l.length:Int)) (mP (0≤p.i∧p.i<(p.l.length:Int)) (aA fun x1:ai=>iP (p.l[p.i.toNat]?=some x1) (mP (aL 0 p.i) (ac (qL [qI 1 x1.kind,qI 1 x1.id.client.node,qI 2 x1.id.client.life,qI 3 x1.id.seq,qI 1 x1.id.depth,qI 1 x1.id.p0.group,qI 1 x1.id.p0.index,qI 1 x1.id.p1.group,qI 1 x1.id.p1.index,qI 1 x1.id.p2.group,qI 1 x1.id.p2.index,qI 3 x1.floor,qY ((.imm x1.hp 5 aW x1.ps encP)),qI 1 x1.rc,qS x1.rv,qY ((.imm x1.hw 3 bg x1.ws bb)),qI 1 x1.vic.node,qI 2 x1.vic.life]) (mP ((Lib.itoa p.i).length+t_2.length≤9223372036854775807) (aX (([.agg (br ({x1 with id:=⟨⟨x1.id.client.node,x1.id.client.life⟩,x1.id.seq,x1.id.depth,⟨x1.id.p0.group,x1.id.p0.index⟩,⟨x1.id.p1.group,x1.id.p1.index⟩,⟨x1.id.p2.group,x1.id.p2.index⟩⟩,vic:=⟨x1.vic.node,x1.vic.life⟩}:ai))],.leaf,0)) yk oy jQ fun p1 r1=>mP ((Lib.join [(Lib.itoa p.i)++t_2,r1.s] t_0).length≤140737488355328) (mP ([(Lib.itoa p.i)++t_2,r1.s].length≤140737488355328) (aI fun b1:List UInt8=>mP (p.b.map bi=b1.map bi) (mP (p.b.length=b1.length) (mP (b1.length+(Lib.join [(Lib.itoa p.i)++t_2,r1.s] t_0).length≤140737488355328) (aI fun b2:List UInt8=>mP ((b1++(Lib.join [(Lib.itoa p.i)++t_2,r1.s] t_0)).map bi=b2.map bi) (mP ((b1++(Lib.join [(Lib.itoa p.i)++t_2,r1.s] t_0)).length=b2.length) (mP (aL 1 (10:Int)) (mP (b2.length+1≤140737488355328) (mP (aL 0 (p.i+(1:Int))) (Dz ((.cons 24 (.sy (.int 0 (p.i+(1:Int)))) (.cons 23 (.sy (.int 0 (p.l.length:Int))) (.cons 22 (.sy (.imm p.hl 18 ai p.l am)) (.cons 8 (.sy (.int 1 p.g)) (.cons 3 (.ptr 13 0) (.cons 0 (.ptr 0 0) .nil)))))),(fu p.f (b2++[ac0 (10:Int).toNat])),15) (nl (.v1 p)) K)))))))))))))) true)) (K 4 (.cons 8 (.sy (.int 1 p.g)) (.cons 3 (.ptr 13 0) (.cons 0 (.ptr 0 0) .nil))) (fu p.f p.b) 15))) (by kernel_rfl) ?_
 dsimp only[bK]at hpre
 obtain⟨⟨g0,g1,g2,g3,g4,g7⟩,g5,g6⟩:=hpre
 have qi:=Lib.itoa_length_le p.i (by omega) (by omega)
 refine iI (fun hc1=> ?_) (fun hc1=> ?_)
 refine dL ?_
 refine aB (fun x1=> ?_)
 refine iI (fun hi2=> ?_) (fun _=>rfl)
 have hx_x1:=g5 _ (acH (by assumption:p.l[p.i.toNat]?=some x1))
 refine aN ?_
 refine aM (by simp[qL,qI,qS,qY,au]) ?_
 refine bq ?_
 refine aJ (⟨({x1 with id:=⟨⟨x1.id.client.node,x1.id.client.life⟩,x1.id.seq,x1.id.depth,⟨x1.id.p0.group,x1.id.p0.index⟩,⟨x1.id.p1.group,x1.id.p1.index⟩,⟨x1.id.p2.group,x1.id.p2.index⟩⟩,vic:=⟨x1.vic.node,x1.vic.life⟩}:ai)⟩:sS) rfl (by(try dsimp only[oy]);first|exact(g5 _ (acH (by assumption:p.l[p.i.toNat]?=some x1)))|(exfalso;omega)) fun r1 hi3=> ?_
 dsimp only[jQ]at hi3
 refine cz (lh ?_)
 refine aG p.b ?_
 refine az (az (cz ?_))
 refine aG (p.b++(Lib.join [(Lib.itoa p.i)++t_2,r1.s] t_0)) ?_
 refine az (az (aN (cz (aN ?_))))
 exact Wh (q:=⟨p.f,p.hl,p.l,(p.b++(Lib.join [(Lib.itoa p.i)++t_2,r1.s] t_0))++[ac0 (10:Int).toNat],p.g,p.i+(1:Int)⟩) (by dsimp only[oF];omega) (by dsimp only[bK];exact⟨⟨g0,by omega,by omega,g3,g4,by simp[aC,aD]<;>omega⟩,g5,by simp⟩) (aV hK fun r hz=>⟨Tf g1 (by assumption) hi3.1 (by rw[hz.1];simp[aC,aD]),hz.2⟩) rfl
 exact TO hK ⟨p.b⟩ (by dsimp only[cD]<;>(exact⟨by rw[JJ (by omega)];simp,by omega,g6⟩))
theorem Ya:dI Tryz.prog 40 13 ko true 0 Dx:=by
 refine dM (lf:=600) bv (aT ot) (by rfl) NG nl HY (fun b j x h=>by cases h) (fun S M nx K h=> ?_) (fun p K h=> ?_)
 ·have h:Ft S M nx K=true:=h
  unfold Ft at h
  rcases xx h with⟨_,h⟩|⟨_,h⟩
  ·obtain⟨p,h⟩:=bL h;exact⟨.v0 p,(aa h).1,(aa h).2⟩
  rcases xx h with⟨_,h⟩|⟨_,h⟩
  ·obtain⟨p,h⟩:=bL h;exact⟨.v1 p,(aa h).1,(aa h).2⟩
  cases h
 ·cases p with
  |v0 p=>have h:EF p K=true:=h;exact UB p K (aa h).1 (aa h).2
  |v1 p=>have h:EE p K=true:=h;exact UA p K (aa h).1 (aa h).2
theorem Sq (p:fW) (K:KC) (hpre:kF p) (hK:yZ p K=true):(cQ (bH kI) ko 600 As (oN p).1 (oN p).2.1 (oN p).2.2 (LR (cF (.v0 p)) K))=true:=by
 refine Eq.trans (b:=(iP (p.g<(4:Int)) (iP (p.g=0) (aX (([.ptr 0 0,.int 1 (.ofNat 0)],(bj p.f),13)) ri kB md fun p10 r7=>iP ((0:Int)<(r7.o.length:Int)) (mP (aL 0 (0:Int)) (mP ((Lib.join [dv,ff] t_0).length≤140737488355328) (mP ([dv,ff].length≤140737488355328) (mP (([]:List UInt8).length+(Lib.join [dv,ff] t_0).length≤140737488355328) (aI fun b4:List UInt8=>mP ((([]:List UInt8)++(Lib.join [dv,ff] t_0)).map bi=b4.map bi) (mP ((([]:List UInt8)++(Lib.join [dv,ff] t_0)).length=b4.length) (mP (aL 1 (10:Int)) (mP (b4.length+1≤140737488355328) (aX (((.cons 24 (.sy (.int 0 0)) (.cons 23 (.sy (.int 0 (r7.o.length:Int))) (.cons 22 (.sy (.imm r7.h 18 ai r7.o am)) (.cons 8 (.sy (.int 1 0)) (.cons 3 (.ptr 13 0) (.cons 0 (.ptr 0 0) .nil)))))),(fu p10.f (b4++[ac0 (10:Int).toNat])),15)) er bK cD fun p11 r8=>mP (aL 1 (p11.g+(1:Int))) (dH ((.cons 8 (.sy (.int 1 (p11.g+(1:Int)))) (.cons 3 (.ptr 13 0) (.cons 0 (.ptr 0 0) .nil))),(fu p11.f r8.c),15) (cF (.v0 p)) K)))))))))) (aI fun p12:fA=>mP (((.cons 24 (.sy (.int 0 0)) (.cons 23 (.sy (.int 0 (r7.o.length:Int))) (.cons 22 (.sy (.imm r7.h 18 ai r7.o am)) (.cons 8 (.sy (.int 1 0)) (.cons 3 (.ptr 13 0) (.cons 0 (.ptr 0 0) .nil)))))),(sR p10.f),14)=nE p12) (mP (gz p12) (mP (aL 1 (p12.g+(1:Int))) (dH ((.cons 8 (.sy (.int 1 (p12.g+(1:Int)))) (.cons 3 (.ptr 13 0) (.cons 0 (.ptr 0 0) .nil))),(sR p12.f),14) (cF (.v0 p)) K))))) (iP (p.g=1) (aX (([.ptr 0 0,.int 1 (.ofNat 1)],(bj p.f),13)) rh kA mc fun p7 r5=>iP ((0:Int)<(r5.o.length:Int)) (mP (aL 0 (1:Int)) (mP ((Lib.join [dv,pE] t_0).length≤140737488355328) (mP ([dv,pE].length≤140737488355328) (mP (([]:List UInt8).length+(Lib.join [dv,pE] t_0).length≤140737488355328) (aI fun b3:List UInt8=>mP ((([]:List UInt8)++(Lib.join [dv,pE] t_0)).map bi=b3.map bi) (mP ((([]:List UInt8)++(Lib.join [dv,pE] t_0)).length=b3.length) (mP (aL 1 (10:Int)) (mP (b3.length+1≤140737488355328) (aX (((.cons 24 (.sy (.int 0 0)) (.cons 23 (.sy (.int 0 (r5.o.length:Int))) (.cons 22 (.sy (.imm r5.h 18 ai r5.o am)) (.cons 8 (.sy (.int 1 1)) (.cons 3 (.ptr 13 0) (.cons 0 (.ptr 0 0) .nil)))))),(fu p7.f (b3++[ac0 (10:Int).toNat])),15)) er bK cD fun p8 r6=>mP (aL 1 (p8.g+(1:Int))) (dH ((.cons 8 (.sy (.int 1 (p8.g+(1:Int)))) (.cons 3 (.ptr 13 0) (.cons 0 (.ptr 0 0) .nil))),(fu p8.f r6.c),15) (cF (.v0 p)) K)))))))))) (aI fun p9:fA=>mP (((.cons 24 (.sy (.int 0 0)) (.cons 23 (.sy (.int 0 (r5.o.length:Int))) (.cons 22 (.sy (.imm r5.h 18 ai r5.o am)) (.cons 8 (.sy (.int 1 1)) (.cons 3 (.ptr 13 0) (.cons 0 (.ptr 0 0) .nil)))))),(sR p7.f),14)=nE p9) (mP (gz p9) (mP (aL 1 (p9.g+(1:Int))) (dH ((.cons 8 (.sy (.int 1 (p9.g+(1:Int)))) (.cons 3 (.ptr 13 0) (.cons 0 (.ptr 0 0) .nil))),(sR p9.f),14) (cF (.v0 p)) K))))) (iP (p.g=2) (aX (([.ptr 0 0,.int 1 (.ofNat 2)],(bj p.f),13)) rf kz ma fun p4 r3=>iP ((0:Int)<(r3.o.length:Int)) (mP (aL 0 (2:Int)) (mP ((Lib.join [dv,pD] t_0).length≤140737488355328) (mP ([dv,pD].length≤140737488355328) (mP (([]:List UInt8).length+(Lib.join [dv,pD] t_0).length≤140737488355328) (aI fun b2:List UInt8=>mP ((([]:List UInt8)++(Lib.join [dv,pD] t_0)).map bi=b2.map bi) (mP ((([]:List UInt8)++(Lib.join [dv,pD] t_0)).length=b2.length) (mP (aL 1 (10:Int)) (mP (b2.length+1≤140737488355328) (aX (((.cons 24 (.sy (.int 0 0)) (.cons 23 (.sy (.int 0 (r3.o.length:Int))) (.cons 22 (.sy (.imm r3.h 18 ai r3.o am)) (.cons 8 (.sy (.int 1 2)) (.cons 3 (.ptr 13 0) (.cons 0 (.ptr 0 0) .nil)))))),(fu p4.f (b2++[ac0 (10:Int).toNat])),15)) er bK cD fun p5 r4=>mP (aL 1 (p5.g+(1:Int))) (dH ((.cons 8 (.sy (.int 1 (p5.g+(1:Int)))) (.cons 3 (.ptr 13 0) (.cons 0 (.ptr 0 0) .nil))),(fu p5.f r4.c),15) (cF (.v0 p)) K)))))))))) (aI fun p6:fA=>mP (((.cons 24 (.sy (.int 0 0)) (.cons 23 (.sy (.int 0 (r3.o.length:Int))) (.cons 22 (.sy (.imm r3.h 18 ai r3.o am)) (.cons 8 (.sy (.int 1 2)) (.cons 3 (.ptr 13 0) (.cons 0 (.ptr 0 0) .nil)))))),(sR p4.f),14)=nE p6) (mP (gz p6) (mP (aL 1 (p6.g+(1:Int))) (dH ((.cons 8 (.sy (.int 1 (p6.g+(1:Int)))) (.cons 3 (.ptr 13 0) (.cons 0 (.ptr 0 0) .nil))),(sR p6.f),14) (cF (.v0 p)) K))))) (iP (p.g=3) (aX (([.ptr 0 0,.int 1 (.ofNat 3)],(bj p.f),13)) re ky lZ fun p1 r1=>iP ((0:Int)<(r1.o.length:Int)) (mP (aL 0 (3:Int)) (mP ((Lib.join [dv,pC] t_0).length≤140737488355328) (mP ([dv,pC].length≤140737488355328) (mP (([]:List UInt8).length+(Lib.join [dv,pC] t_0).length≤140737488355328) (aI fun b1:List UInt8=>mP ((([]:List UInt8)++(Lib.join [dv,pC] t_0)).map bi=b1.map bi) (mP ((([]:List UInt8)++(Lib.join [dv,pC] t_0)).length=b1.length) (mP (aL 1 (10:Int)) (mP (b1.length+1≤140737488355328) (aX (((.cons 24 (.sy (.int 0 0)) (.cons 23 (.sy (.int 0 (r1.o.length:Int))) (.cons 22 (.sy (.imm r1.h 18 ai r1.o am)) (.cons 8 (.sy (.int 1 3)) (.cons 3 (.ptr 13 0) (.cons 0 (.ptr 0 0) .nil)))))),(fu p1.f (b1++[ac0 (10:Int).toNat])),15)) er bK cD fun p2 r2=>mP (aL 1 (p2.g+(1:Int))) (dH ((.cons 8 (.sy (.int 1 (p2.g+(1:Int)))) (.cons 3 (.ptr 13 0) (.cons 0 (.ptr 0 0) .nil))),(fu p2.f r2.c),15) (cF (.v0 p)) K)))))))))) (aI fun p3:fA=>mP (((.cons 24 (.sy (.int 0 0)) (.cons 23 (.sy (.int 0 (r1.o.length:Int))) (.cons 22 (.sy (.imm r1.h 18 ai r1.o am)) (.cons 8 (.sy (.int 1 3)) (.cons 3 (.ptr 13 0) (.cons 0 (.ptr 0 0) .nil)))))),(sR p1.f),14)=nE p3) (mP (gz p3) (mP (aL 1 (p3.g+(1:Int))) (dH ((.cons 8 (.sy (.int 1 (p3.g+(1:Int)))) (.cons 3 (.ptr 13 0) (.cons 0 (.ptr 0 0) .nil))),(sR p3.f),14) (cF (.v0 p)) K))))) (mP (False) (true)))))) (K 2 (.cons 3 (.ptr 13 0) .nil) (sR p.f) 14))) (by kernel_rfl) ?_
 obtain⟨hK0,hKr0⟩:=aw hK
 have hK1:=hKr0
 dsimp only[kF]at hpre
 obtain⟨⟨g0,g1⟩,ga,gl⟩:=hpre
 have gl2:=gl
 unfold bC at gl2
 refine iI (fun hc1=> ?_) (fun hc1=> ?_)
 refine iI (fun hc2=> ?_) (fun hc2=> ?_)
 refine aJ (⟨p.f⟩:mT) rfl (by(try dsimp only[kB]);unfold jY at ga;unfold bC at gl;exact⟨ga.2.2.1,by omega⟩) fun r7 hi3=> ?_
 dsimp only[md]at hi3
 refine iI (fun hc4=> ?_) (fun hc4=> ?_)
 refine aN (cz (lh (cz ?_)))
 refine aG (([]:List UInt8)++(Lib.join [dv,ff] t_0)) ?_
 refine az (az (aN (cz ?_)))
 refine aJ (⟨p.f,r7.h,r7.o,(([]:List UInt8)++(Lib.join [dv,ff] t_0))++[ac0 (10:Int).toNat],(0:Int),(0:Int)⟩:dq) rfl (by(try dsimp only[bK]);exact⟨⟨by have:=iY hi3.1;omega,by omega,by omega,by omega,by omega,by simp[aC,aD]<;>omega⟩,hi3.2,by first|(simp;done)|exact g3⟩) fun r8 hi5=> ?_
 dsimp only[cD]at hi5
 refine aN ?_
 exact wx (n:=cF (.v0 p)) (q:=⟨p.f,r8.c,(0:Int)+(1:Int)⟩) (by show da _<fG p;dsimp only[da,fG];omega) (by dsimp only[dk];(exact⟨⟨by omega,by omega⟩,ga,gl,by omega,hi5.2.2⟩)) (fD (fun r:oL=>(⟨r.c⟩:mJ)) hK1 fun r hz=>⟨hz.1.trans ((lg (a:=[]) g0 (by omega) (by(try dsimp only);omega) (by first|(have hg:=(by assumption:p.g=0);rw[hg];exact(by assumption:_=p.f.o0.map aq∧_).1)|(have hg:=(by assumption:p.g=1);rw[hg];exact(by assumption:_=p.f.o1.map aq∧_).1)|(have hg:=(by assumption:p.g=2);rw[hg];exact(by assumption:_=p.f.o2.map aq∧_).1)|(have hg:=(by assumption:p.g=3);rw[hg];exact(by assumption:_=p.f.o3.map aq∧_).1)) (by omega) (by first|(have hg:=(by assumption:p.g=0);rw[hg];simp[aC,aD,dQ];done)|(have hg:=(by assumption:p.g=1);rw[hg];simp[aC,aD,dP];done)|(have hg:=(by assumption:p.g=2);rw[hg];simp[aC,aD,dO];done)|(have hg:=(by assumption:p.g=3);rw[hg];simp[aC,aD,dN];done)) hi5.1).trans (acM _)),hz.2⟩) rfl
 refine dG (⟨p.f,r7.h,r7.o,(0:Int),(0:Int)⟩:fA) rfl (by(try dsimp only[gz]);exact⟨by omega,by omega⟩) ?_
 refine aN ?_
 exact wy (q:=⟨p.f,(0:Int)+(1:Int)⟩)
 refine iI (fun hc6=> ?_) (fun hc6=> ?_)
 refine aJ (⟨p.f⟩:mS) rfl (by(try dsimp only[kA]);unfold jY at ga;unfold bC at gl;exact⟨ga.2.2.2.1,by omega⟩) fun r5 hi7=> ?_
 dsimp only[mc]at hi7
 refine iI (fun hc8=> ?_) (fun hc8=> ?_)
 refine aN (cz (lh (cz ?_)))
 refine aG (([]:List UInt8)++(Lib.join [dv,pE] t_0)) ?_
 refine az (az (aN (cz ?_)))
 refine aJ (⟨p.f,r5.h,r5.o,(([]:List UInt8)++(Lib.join [dv,pE] t_0))++[ac0 (10:Int).toNat],(1:Int),(0:Int)⟩:dq) rfl (by(try dsimp only[bK]);exact⟨⟨by have:=iY hi7.1;omega,by omega,by omega,by omega,by omega,by simp[aC,aD]<;>omega⟩,hi7.2,by first|(simp;done)|exact g3⟩) fun r6 hi9=> ?_
 dsimp only[cD]at hi9
 refine aN ?_
 exact wx (n:=cF (.v0 p)) (q:=⟨p.f,r6.c,(1:Int)+(1:Int)⟩) (by show da _<fG p;dsimp only[da,fG];omega) (by dsimp only[dk];(exact⟨⟨by omega,by omega⟩,ga,gl,by omega,hi9.2.2⟩)) (fD (fun r:oL=>(⟨r.c⟩:mJ)) hK1 fun r hz=>⟨hz.1.trans ((lg (a:=[]) g0 (by omega) (by(try dsimp only);omega) (by first|(have hg:=(by assumption:p.g=0);rw[hg];exact(by assumption:_=p.f.o0.map aq∧_).1)|(have hg:=(by assumption:p.g=1);rw[hg];exact(by assumption:_=p.f.o1.map aq∧_).1)|(have hg:=(by assumption:p.g=2);rw[hg];exact(by assumption:_=p.f.o2.map aq∧_).1)|(have hg:=(by assumption:p.g=3);rw[hg];exact(by assumption:_=p.f.o3.map aq∧_).1)) (by omega) (by first|(have hg:=(by assumption:p.g=0);rw[hg];simp[aC,aD,dQ];done)|(have hg:=(by assumption:p.g=1);rw[hg];simp[aC,aD,dP];done)|(have hg:=(by assumption:p.g=2);rw[hg];simp[aC,aD,dO];done)|(have hg:=(by assumption:p.g=3);rw[hg];simp[aC,aD,dN];done)) hi9.1).trans (acM _)),hz.2⟩) rfl
 refine dG (⟨p.f,r5.h,r5.o,(1:Int),(0:Int)⟩:fA) rfl (by(try dsimp only[gz]);exact⟨by omega,by omega⟩) ?_
 refine aN ?_
 exact wy (q:=⟨p.f,(1:Int)+(1:Int)⟩)
 refine iI (fun hc10=> ?_) (fun hc10=> ?_)
 refine aJ (⟨p.f⟩:mR) rfl (by(try dsimp only[kz]);unfold jY at ga;unfold bC at gl;exact⟨ga.2.2.2.2.1,by omega⟩) fun r3 hi11=> ?_
 dsimp only[ma]at hi11
 refine iI (fun hc12=> ?_) (fun hc12=> ?_)
 refine aN (cz (lh (cz ?_)))
 refine aG (([]:List UInt8)++(Lib.join [dv,pD] t_0)) ?_
 refine az (az (aN (cz ?_)))
 refine aJ (⟨p.f,r3.h,r3.o,(([]:List UInt8)++(Lib.join [dv,pD] t_0))++[ac0 (10:Int).toNat],(2:Int),(0:Int)⟩:dq) rfl (by(try dsimp only[bK]);exact⟨⟨by have:=iY hi11.1;omega,by omega,by omega,by omega,by omega,by simp[aC,aD]<;>omega⟩,hi11.2,by first|(simp;done)|exact g3⟩) fun r4 hi13=> ?_
 dsimp only[cD]at hi13
 refine aN ?_
 exact wx (n:=cF (.v0 p)) (q:=⟨p.f,r4.c,(2:Int)+(1:Int)⟩) (by show da _<fG p;dsimp only[da,fG];omega) (by dsimp only[dk];(exact⟨⟨by omega,by omega⟩,ga,gl,by omega,hi13.2.2⟩)) (fD (fun r:oL=>(⟨r.c⟩:mJ)) hK1 fun r hz=>⟨hz.1.trans ((lg (a:=[]) g0 (by omega) (by(try dsimp only);omega) (by first|(have hg:=(by assumption:p.g=0);rw[hg];exact(by assumption:_=p.f.o0.map aq∧_).1)|(have hg:=(by assumption:p.g=1);rw[hg];exact(by assumption:_=p.f.o1.map aq∧_).1)|(have hg:=(by assumption:p.g=2);rw[hg];exact(by assumption:_=p.f.o2.map aq∧_).1)|(have hg:=(by assumption:p.g=3);rw[hg];exact(by assumption:_=p.f.o3.map aq∧_).1)) (by omega) (by first|(have hg:=(by assumption:p.g=0);rw[hg];simp[aC,aD,dQ];done)|(have hg:=(by assumption:p.g=1);rw[hg];simp[aC,aD,dP];done)|(have hg:=(by assumption:p.g=2);rw[hg];simp[aC,aD,dO];done)|(have hg:=(by assumption:p.g=3);rw[hg];simp[aC,aD,dN];done)) hi13.1).trans (acM _)),hz.2⟩) rfl
 refine dG (⟨p.f,r3.h,r3.o,(2:Int),(0:Int)⟩:fA) rfl (by(try dsimp only[gz]);exact⟨by omega,by omega⟩) ?_
 refine aN ?_
 exact wy (q:=⟨p.f,(2:Int)+(1:Int)⟩)
 refine iI (fun hc14=> ?_) (fun hc14=> ?_)
 refine aJ (⟨p.f⟩:mQ) rfl (by(try dsimp only[ky]);unfold jY at ga;unfold bC at gl;exact⟨ga.2.2.2.2.2,by omega⟩) fun r1 hi15=> ?_
 dsimp only[lZ]at hi15
 refine iI (fun hc16=> ?_) (fun hc16=> ?_)
 refine aN (cz (lh (cz ?_)))
 refine aG (([]:List UInt8)++(Lib.join [dv,pC] t_0)) ?_
 refine az (az (aN (cz ?_)))
 refine aJ (⟨p.f,r1.h,r1.o,(([]:List UInt8)++(Lib.join [dv,pC] t_0))++[ac0 (10:Int).toNat],(3:Int),(0:Int)⟩:dq) rfl (by(try dsimp only[bK]);exact⟨⟨by have:=iY hi15.1;omega,by omega,by omega,by omega,by omega,by simp[aC,aD]<;>omega⟩,hi15.2,by first|(simp;done)|exact g3⟩) fun r2 hi17=> ?_
 dsimp only[cD]at hi17
 refine aN ?_
 exact wx (n:=cF (.v0 p)) (q:=⟨p.f,r2.c,(3:Int)+(1:Int)⟩) (by show da _<fG p;dsimp only[da,fG];omega) (by dsimp only[dk];(exact⟨⟨by omega,by omega⟩,ga,gl,by omega,hi17.2.2⟩)) (fD (fun r:oL=>(⟨r.c⟩:mJ)) hK1 fun r hz=>⟨hz.1.trans ((lg (a:=[]) g0 (by omega) (by(try dsimp only);omega) (by first|(have hg:=(by assumption:p.g=0);rw[hg];exact(by assumption:_=p.f.o0.map aq∧_).1)|(have hg:=(by assumption:p.g=1);rw[hg];exact(by assumption:_=p.f.o1.map aq∧_).1)|(have hg:=(by assumption:p.g=2);rw[hg];exact(by assumption:_=p.f.o2.map aq∧_).1)|(have hg:=(by assumption:p.g=3);rw[hg];exact(by assumption:_=p.f.o3.map aq∧_).1)) (by omega) (by first|(have hg:=(by assumption:p.g=0);rw[hg];simp[aC,aD,dQ];done)|(have hg:=(by assumption:p.g=1);rw[hg];simp[aC,aD,dP];done)|(have hg:=(by assumption:p.g=2);rw[hg];simp[aC,aD,dO];done)|(have hg:=(by assumption:p.g=3);rw[hg];simp[aC,aD,dN];done)) hi17.1).trans (acM _)),hz.2⟩) rfl
 refine dG (⟨p.f,r1.h,r1.o,(3:Int),(0:Int)⟩:fA) rfl (by(try dsimp only[gz]);exact⟨by omega,by omega⟩) ?_
 refine aN ?_
 exact wy (q:=⟨p.f,(3:Int)+(1:Int)⟩)
 refine fX ?_
 rfl
 exact aP (show gA (bB p.f) p.g=[] from(by exact Ff (by omega))) hK0
theorem Sp (p:gV) (K:KC) (hpre:dk p) (hK:pT p K=true):(cQ (bH kI) ko 600 As (oM p).1 (oM p).2.1 (oM p).2.2 (LR (cF (.v1 p)) K))=true:=by
 refine Eq.trans (b:=(iP (p.g<(4:Int)) (iP (p.g=0) (aX (([.ptr 0 0,.int 1 (.ofNat 0)],(bj p.f),13)) ri kB md fun p10 r10=>iP ((0:Int)<(r10.o.length:Int)) (mP (aL 0 (0:Int)) (mP ((Lib.join [dv,ff] t_0).length≤140737488355328) (mP ([dv,ff].length≤140737488355328) (aI fun b7:List UInt8=>mP (p.b.map bi=b7.map bi) (mP (p.b.length=b7.length) (mP (b7.length+(Lib.join [dv,ff] t_0).length≤140737488355328) (aI fun b8:List UInt8=>mP ((b7++(Lib.join [dv,ff] t_0)).map bi=b8.map bi) (mP ((b7++(Lib.join [dv,ff] t_0)).length=b8.length) (mP (aL 1 (10:Int)) (mP (b8.length+1≤140737488355328) (aX (((.cons 24 (.sy (.int 0 0)) (.cons 23 (.sy (.int 0 (r10.o.length:Int))) (.cons 22 (.sy (.imm r10.h 18 ai r10.o am)) (.cons 8 (.sy (.int 1 0)) (.cons 3 (.ptr 13 0) (.cons 0 (.ptr 0 0) .nil)))))),(fu p10.f (b8++[ac0 (10:Int).toNat])),15)) er bK cD fun p11 r11=>mP (aL 1 (p11.g+(1:Int))) (dH ((.cons 8 (.sy (.int 1 (p11.g+(1:Int)))) (.cons 3 (.ptr 13 0) (.cons 0 (.ptr 0 0) .nil))),(fu p11.f r11.c),15) (cF (.v1 p)) K)))))))))))) (aX (((.cons 24 (.sy (.int 0 0)) (.cons 23 (.sy (.int 0 (r10.o.length:Int))) (.cons 22 (.sy (.imm r10.h 18 ai r10.o am)) (.cons 8 (.sy (.int 1 0)) (.cons 3 (.ptr 13 0) (.cons 0 (.ptr 0 0) .nil)))))),(fu p10.f p.b),15)) er bK cD fun p12 r12=>mP (aL 1 (p12.g+(1:Int))) (dH ((.cons 8 (.sy (.int 1 (p12.g+(1:Int)))) (.cons 3 (.ptr 13 0) (.cons 0 (.ptr 0 0) .nil))),(fu p12.f r12.c),15) (cF (.v1 p)) K))) (iP (p.g=1) (aX (([.ptr 0 0,.int 1 (.ofNat 1)],(bj p.f),13)) rh kA mc fun p7 r7=>iP ((0:Int)<(r7.o.length:Int)) (mP (aL 0 (1:Int)) (mP ((Lib.join [dv,pE] t_0).length≤140737488355328) (mP ([dv,pE].length≤140737488355328) (aI fun b5:List UInt8=>mP (p.b.map bi=b5.map bi) (mP (p.b.length=b5.length) (mP (b5.length+(Lib.join [dv,pE] t_0).length≤140737488355328) (aI fun b6:List UInt8=>mP ((b5++(Lib.join [dv,pE] t_0)).map bi=b6.map bi) (mP ((b5++(Lib.join [dv,pE] t_0)).length=b6.length) (mP (aL 1 (10:Int)) (mP (b6.length+1≤140737488355328) (aX (((.cons 24 (.sy (.int 0 0)) (.cons 23 (.sy (.int 0 (r7.o.length:Int))) (.cons 22 (.sy (.imm r7.h 18 ai r7.o am)) (.cons 8 (.sy (.int 1 1)) (.cons 3 (.ptr 13 0) (.cons 0 (.ptr 0 0) .nil)))))),(fu p7.f (b6++[ac0 (10:Int).toNat])),15)) er bK cD fun p8 r8=>mP (aL 1 (p8.g+(1:Int))) (dH ((.cons 8 (.sy (.int 1 (p8.g+(1:Int)))) (.cons 3 (.ptr 13 0) (.cons 0 (.ptr 0 0) .nil))),(fu p8.f r8.c),15) (cF (.v1 p)) K)))))))))))) (aX (((.cons 24 (.sy (.int 0 0)) (.cons 23 (.sy (.int 0 (r7.o.length:Int))) (.cons 22 (.sy (.imm r7.h 18 ai r7.o am)) (.cons 8 (.sy (.int 1 1)) (.cons 3 (.ptr 13 0) (.cons 0 (.ptr 0 0) .nil)))))),(fu p7.f p.b),15)) er bK cD fun p9 r9=>mP (aL 1 (p9.g+(1:Int))) (dH ((.cons 8 (.sy (.int 1 (p9.g+(1:Int)))) (.cons 3 (.ptr 13 0) (.cons 0 (.ptr 0 0) .nil))),(fu p9.f r9.c),15) (cF (.v1 p)) K))) (iP (p.g=2) (aX (([.ptr 0 0,.int 1 (.ofNat 2)],(bj p.f),13)) rf kz ma fun p4 r4=>iP ((0:Int)<(r4.o.length:Int)) (mP (aL 0 (2:Int)) (mP ((Lib.join [dv,pD] t_0).length≤140737488355328) (mP ([dv,pD].length≤140737488355328) (aI fun b3:List UInt8=>mP (p.b.map bi=b3.map bi) (mP (p.b.length=b3.length) (mP (b3.length+(Lib.join [dv,pD] t_0).length≤140737488355328) (aI fun b4:List UInt8=>mP ((b3++(Lib.join [dv,pD] t_0)).map bi=b4.map bi) (mP ((b3++(Lib.join [dv,pD] t_0)).length=b4.length) (mP (aL 1 (10:Int)) (mP (b4.length+1≤140737488355328) (aX (((.cons 24 (.sy (.int 0 0)) (.cons 23 (.sy (.int 0 (r4.o.length:Int))) (.cons 22 (.sy (.imm r4.h 18 ai r4.o am)) (.cons 8 (.sy (.int 1 2)) (.cons 3 (.ptr 13 0) (.cons 0 (.ptr 0 0) .nil)))))),(fu p4.f (b4++[ac0 (10:Int).toNat])),15)) er bK cD fun p5 r5=>mP (aL 1 (p5.g+(1:Int))) (dH ((.cons 8 (.sy (.int 1 (p5.g+(1:Int)))) (.cons 3 (.ptr 13 0) (.cons 0 (.ptr 0 0) .nil))),(fu p5.f r5.c),15) (cF (.v1 p)) K)))))))))))) (aX (((.cons 24 (.sy (.int 0 0)) (.cons 23 (.sy (.int 0 (r4.o.length:Int))) (.cons 22 (.sy (.imm r4.h 18 ai r4.o am)) (.cons 8 (.sy (.int 1 2)) (.cons 3 (.ptr 13 0) (.cons 0 (.ptr 0 0) .nil)))))),(fu p4.f p.b),15)) er bK cD fun p6 r6=>mP (aL 1 (p6.g+(1:Int))) (dH ((.cons 8 (.sy (.int 1 (p6.g+(1:Int)))) (.cons 3 (.ptr 13 0) (.cons 0 (.ptr 0 0) .nil))),(fu p6.f r6.c),15) (cF (.v1 p)) K))) (iP (p.g=3) (aX (([.ptr 0 0,.int 1 (.ofNat 3)],(bj p.f),13)) re ky lZ fun p1 r1=>iP ((0:Int)<(r1.o.length:Int)) (mP (aL 0 (3:Int)) (mP ((Lib.join [dv,pC] t_0).length≤140737488355328) (mP ([dv,pC].length≤140737488355328) (aI fun b1:List UInt8=>mP (p.b.map bi=b1.map bi) (mP (p.b.length=b1.length) (mP (b1.length+(Lib.join [dv,pC] t_0).length≤140737488355328) (aI fun b2:List UInt8=>mP ((b1++(Lib.join [dv,pC] t_0)).map bi=b2.map bi) (mP ((b1++(Lib.join [dv,pC] t_0)).length=b2.length) (mP (aL 1 (10:Int)) (mP (b2.length+1≤140737488355328) (aX (((.cons 24 (.sy (.int 0 0)) (.cons 23 (.sy (.int 0 (r1.o.length:Int))) (.cons 22 (.sy (.imm r1.h 18 ai r1.o am)) (.cons 8 (.sy (.int 1 3)) (.cons 3 (.ptr 13 0) (.cons 0 (.ptr 0 0) .nil)))))),(fu p1.f (b2++[ac0 (10:Int).toNat])),15)) er bK cD fun p2 r2=>mP (aL 1 (p2.g+(1:Int))) (dH ((.cons 8 (.sy (.int 1 (p2.g+(1:Int)))) (.cons 3 (.ptr 13 0) (.cons 0 (.ptr 0 0) .nil))),(fu p2.f r2.c),15) (cF (.v1 p)) K)))))))))))) (aX (((.cons 24 (.sy (.int 0 0)) (.cons 23 (.sy (.int 0 (r1.o.length:Int))) (.cons 22 (.sy (.imm r1.h 18 ai r1.o am)) (.cons 8 (.sy (.int 1 3)) (.cons 3 (.ptr 13 0) (.cons 0 (.ptr 0 0) .nil)))))),(fu p1.f p.b),15)) er bK cD fun p3 r3=>mP (aL 1 (p3.g+(1:Int))) (dH ((.cons 8 (.sy (.int 1 (p3.g+(1:Int)))) (.cons 3 (.ptr 13 0) (.cons 0 (.ptr 0 0) .nil))),(fu p3.f r3.c),15) (cF (.v1 p)) K))) (mP (False) (true)))))) (K 2 (.cons 3 (.ptr 13 0) .nil) (fu p.f p.b) 15))) (by kernel_rfl) ?_
 dsimp only[dk]at hpre
 obtain⟨⟨g0,g1⟩,ga,gl,g2,g3⟩:=hpre
 have gl2:=gl
 unfold bC at gl2
 refine iI (fun hc1=> ?_) (fun hc1=> ?_)
 refine iI (fun hc2=> ?_) (fun hc2=> ?_)
 refine aJ (⟨p.f⟩:mT) rfl (by(try dsimp only[kB]);unfold jY at ga;unfold bC at gl;exact⟨ga.2.2.1,by omega⟩) fun r10 hi3=> ?_
 dsimp only[md]at hi3
 refine iI (fun hc4=> ?_) (fun hc4=> ?_)
 refine aN (cz (lh ?_))
 refine aG p.b ?_
 refine az (az (cz ?_))
 refine aG (p.b++(Lib.join [dv,ff] t_0)) ?_
 refine az (az (aN (cz ?_)))
 refine aJ (⟨p.f,r10.h,r10.o,(p.b++(Lib.join [dv,ff] t_0))++[ac0 (10:Int).toNat],(0:Int),(0:Int)⟩:dq) rfl (by(try dsimp only[bK]);exact⟨⟨by have:=iY hi3.1;omega,by omega,by omega,by omega,by omega,by simp[aC,aD]<;>omega⟩,hi3.2,by first|(simp;done)|exact g3⟩) fun r11 hi5=> ?_
 dsimp only[cD]at hi5
 refine aN ?_
 exact kr (q:=⟨p.f,r11.c,(0:Int)+(1:Int)⟩) (by dsimp only[da];omega) (by dsimp only[dk];first|exact⟨⟨by omega,by omega⟩,ga,gl,by omega,g3⟩|exact⟨⟨by omega,by omega⟩,ga,gl,by omega,hi5.2.2⟩) (aV hK fun r hz=>⟨by first|exact hz.1.trans (so g0 (by omega) (by(try dsimp only);omega) (by first|(have hg:=(by assumption:p.g=0);rw[hg];exact(by assumption:_=p.f.o0.map aq∧_).1)|(have hg:=(by assumption:p.g=1);rw[hg];exact(by assumption:_=p.f.o1.map aq∧_).1)|(have hg:=(by assumption:p.g=2);rw[hg];exact(by assumption:_=p.f.o2.map aq∧_).1)|(have hg:=(by assumption:p.g=3);rw[hg];exact(by assumption:_=p.f.o3.map aq∧_).1)) (by omega) hi5.1)|exact hz.1.trans (lg g0 (by omega) (by(try dsimp only);omega) (by first|(have hg:=(by assumption:p.g=0);rw[hg];exact(by assumption:_=p.f.o0.map aq∧_).1)|(have hg:=(by assumption:p.g=1);rw[hg];exact(by assumption:_=p.f.o1.map aq∧_).1)|(have hg:=(by assumption:p.g=2);rw[hg];exact(by assumption:_=p.f.o2.map aq∧_).1)|(have hg:=(by assumption:p.g=3);rw[hg];exact(by assumption:_=p.f.o3.map aq∧_).1)) (by omega) (by first|(have hg:=(by assumption:p.g=0);rw[hg];simp[aC,aD,dQ];done)|(have hg:=(by assumption:p.g=1);rw[hg];simp[aC,aD,dP];done)|(have hg:=(by assumption:p.g=2);rw[hg];simp[aC,aD,dO];done)|(have hg:=(by assumption:p.g=3);rw[hg];simp[aC,aD,dN];done)) hi5.1),hz.2⟩) rfl
 refine aJ (⟨p.f,r10.h,r10.o,p.b,(0:Int),(0:Int)⟩:dq) rfl (by(try dsimp only[bK]);exact⟨⟨by have:=iY hi3.1;omega,by omega,by omega,by omega,by omega,by simp[aC,aD]<;>omega⟩,hi3.2,by first|(simp;done)|exact g3⟩) fun r12 hi6=> ?_
 dsimp only[cD]at hi6
 refine aN ?_
 exact kr (q:=⟨p.f,r12.c,(0:Int)+(1:Int)⟩) (by dsimp only[da];omega) (by dsimp only[dk];first|exact⟨⟨by omega,by omega⟩,ga,gl,by omega,g3⟩|exact⟨⟨by omega,by omega⟩,ga,gl,by omega,hi6.2.2⟩) (aV hK fun r hz=>⟨by first|exact hz.1.trans (so g0 (by omega) (by(try dsimp only);omega) (by first|(have hg:=(by assumption:p.g=0);rw[hg];exact(by assumption:_=p.f.o0.map aq∧_).1)|(have hg:=(by assumption:p.g=1);rw[hg];exact(by assumption:_=p.f.o1.map aq∧_).1)|(have hg:=(by assumption:p.g=2);rw[hg];exact(by assumption:_=p.f.o2.map aq∧_).1)|(have hg:=(by assumption:p.g=3);rw[hg];exact(by assumption:_=p.f.o3.map aq∧_).1)) (by omega) hi6.1)|exact hz.1.trans (lg g0 (by omega) (by(try dsimp only);omega) (by first|(have hg:=(by assumption:p.g=0);rw[hg];exact(by assumption:_=p.f.o0.map aq∧_).1)|(have hg:=(by assumption:p.g=1);rw[hg];exact(by assumption:_=p.f.o1.map aq∧_).1)|(have hg:=(by assumption:p.g=2);rw[hg];exact(by assumption:_=p.f.o2.map aq∧_).1)|(have hg:=(by assumption:p.g=3);rw[hg];exact(by assumption:_=p.f.o3.map aq∧_).1)) (by omega) (by first|(have hg:=(by assumption:p.g=0);rw[hg];simp[aC,aD,dQ];done)|(have hg:=(by assumption:p.g=1);rw[hg];simp[aC,aD,dP];done)|(have hg:=(by assumption:p.g=2);rw[hg];simp[aC,aD,dO];done)|(have hg:=(by assumption:p.g=3);rw[hg];simp[aC,aD,dN];done)) hi6.1),hz.2⟩) rfl
 refine iI (fun hc7=> ?_) (fun hc7=> ?_)
 refine aJ (⟨p.f⟩:mS) rfl (by(try dsimp only[kA]);unfold jY at ga;unfold bC at gl;exact⟨ga.2.2.2.1,by omega⟩) fun r7 hi8=> ?_
 dsimp only[mc]at hi8
 refine iI (fun hc9=> ?_) (fun hc9=> ?_)
 refine aN (cz (lh ?_))
 refine aG p.b ?_
 refine az (az (cz ?_))
 refine aG (p.b++(Lib.join [dv,pE] t_0)) ?_
 refine az (az (aN (cz ?_)))
 refine aJ (⟨p.f,r7.h,r7.o,(p.b++(Lib.join [dv,pE] t_0))++[ac0 (10:Int).toNat],(1:Int),(0:Int)⟩:dq) rfl (by(try dsimp only[bK]);exact⟨⟨by have:=iY hi8.1;omega,by omega,by omega,by omega,by omega,by simp[aC,aD]<;>omega⟩,hi8.2,by first|(simp;done)|exact g3⟩) fun r8 hi10=> ?_
 dsimp only[cD]at hi10
 refine aN ?_
 exact kr (q:=⟨p.f,r8.c,(1:Int)+(1:Int)⟩) (by dsimp only[da];omega) (by dsimp only[dk];first|exact⟨⟨by omega,by omega⟩,ga,gl,by omega,g3⟩|exact⟨⟨by omega,by omega⟩,ga,gl,by omega,hi10.2.2⟩) (aV hK fun r hz=>⟨by first|exact hz.1.trans (so g0 (by omega) (by(try dsimp only);omega) (by first|(have hg:=(by assumption:p.g=0);rw[hg];exact(by assumption:_=p.f.o0.map aq∧_).1)|(have hg:=(by assumption:p.g=1);rw[hg];exact(by assumption:_=p.f.o1.map aq∧_).1)|(have hg:=(by assumption:p.g=2);rw[hg];exact(by assumption:_=p.f.o2.map aq∧_).1)|(have hg:=(by assumption:p.g=3);rw[hg];exact(by assumption:_=p.f.o3.map aq∧_).1)) (by omega) hi10.1)|exact hz.1.trans (lg g0 (by omega) (by(try dsimp only);omega) (by first|(have hg:=(by assumption:p.g=0);rw[hg];exact(by assumption:_=p.f.o0.map aq∧_).1)|(have hg:=(by assumption:p.g=1);rw[hg];exact(by assumption:_=p.f.o1.map aq∧_).1)|(have hg:=(by assumption:p.g=2);rw[hg];exact(by assumption:_=p.f.o2.map aq∧_).1)|(have hg:=(by assumption:p.g=3);rw[hg];exact(by assumption:_=p.f.o3.map aq∧_).1)) (by omega) (by first|(have hg:=(by assumption:p.g=0);rw[hg];simp[aC,aD,dQ];done)|(have hg:=(by assumption:p.g=1);rw[hg];simp[aC,aD,dP];done)|(have hg:=(by assumption:p.g=2);rw[hg];simp[aC,aD,dO];done)|(have hg:=(by assumption:p.g=3);rw[hg];simp[aC,aD,dN];done)) hi10.1),hz.2⟩) rfl
 refine aJ (⟨p.f,r7.h,r7.o,p.b,(1:Int),(0:Int)⟩:dq) rfl (by(try dsimp only[bK]);exact⟨⟨by have:=iY hi8.1;omega,by omega,by omega,by omega,by omega,by simp[aC,aD]<;>omega⟩,hi8.2,by first|(simp;done)|exact g3⟩) fun r9 hi11=> ?_
 dsimp only[cD]at hi11
 refine aN ?_
 exact kr (q:=⟨p.f,r9.c,(1:Int)+(1:Int)⟩) (by dsimp only[da];omega) (by dsimp only[dk];first|exact⟨⟨by omega,by omega⟩,ga,gl,by omega,g3⟩|exact⟨⟨by omega,by omega⟩,ga,gl,by omega,hi11.2.2⟩) (aV hK fun r hz=>⟨by first|exact hz.1.trans (so g0 (by omega) (by(try dsimp only);omega) (by first|(have hg:=(by assumption:p.g=0);rw[hg];exact(by assumption:_=p.f.o0.map aq∧_).1)|(have hg:=(by assumption:p.g=1);rw[hg];exact(by assumption:_=p.f.o1.map aq∧_).1)|(have hg:=(by assumption:p.g=2);rw[hg];exact(by assumption:_=p.f.o2.map aq∧_).1)|(have hg:=(by assumption:p.g=3);rw[hg];exact(by assumption:_=p.f.o3.map aq∧_).1)) (by omega) hi11.1)|exact hz.1.trans (lg g0 (by omega) (by(try dsimp only);omega) (by first|(have hg:=(by assumption:p.g=0);rw[hg];exact(by assumption:_=p.f.o0.map aq∧_).1)|(have hg:=(by assumption:p.g=1);rw[hg];exact(by assumption:_=p.f.o1.map aq∧_).1)|(have hg:=(by assumption:p.g=2);rw[hg];exact(by assumption:_=p.f.o2.map aq∧_).1)|(have hg:=(by assumption:p.g=3);rw[hg];exact(by assumption:_=p.f.o3.map aq∧_).1)) (by omega) (by first|(have hg:=(by assumption:p.g=0);rw[hg];simp[aC,aD,dQ];done)|(have hg:=(by assumption:p.g=1);rw[hg];simp[aC,aD,dP];done)|(have hg:=(by assumption:p.g=2);rw[hg];simp[aC,aD,dO];done)|(have hg:=(by assumption:p.g=3);rw[hg];simp[aC,aD,dN];done)) hi11.1),hz.2⟩) rfl
 refine iI (fun hc12=> ?_) (fun hc12=> ?_)
 refine aJ (⟨p.f⟩:mR) rfl (by(try dsimp only[kz]);unfold jY at ga;unfold bC at gl;exact⟨ga.2.2.2.2.1,by omega⟩) fun r4 hi13=> ?_
 dsimp only[ma]at hi13
 refine iI (fun hc14=> ?_) (fun hc14=> ?_)
 refine aN (cz (lh ?_))
 refine aG p.b ?_
 refine az (az (cz ?_))
 refine aG (p.b++(Lib.join [dv,pD] t_0)) ?_
 refine az (az (aN (cz ?_)))
 refine aJ (⟨p.f,r4.h,r4.o,(p.b++(Lib.join [dv,pD] t_0))++[ac0 (10:Int).toNat],(2:Int),(0:Int)⟩:dq) rfl (by(try dsimp only[bK]);exact⟨⟨by have:=iY hi13.1;omega,by omega,by omega,by omega,by omega,by simp[aC,aD]<;>omega⟩,hi13.2,by first|(simp;done)|exact g3⟩) fun r5 hi15=> ?_
 dsimp only[cD]at hi15
 refine aN ?_
 exact kr (q:=⟨p.f,r5.c,(2:Int)+(1:Int)⟩) (by dsimp only[da];omega) (by dsimp only[dk];first|exact⟨⟨by omega,by omega⟩,ga,gl,by omega,g3⟩|exact⟨⟨by omega,by omega⟩,ga,gl,by omega,hi15.2.2⟩) (aV hK fun r hz=>⟨by first|exact hz.1.trans (so g0 (by omega) (by(try dsimp only);omega) (by first|(have hg:=(by assumption:p.g=0);rw[hg];exact(by assumption:_=p.f.o0.map aq∧_).1)|(have hg:=(by assumption:p.g=1);rw[hg];exact(by assumption:_=p.f.o1.map aq∧_).1)|(have hg:=(by assumption:p.g=2);rw[hg];exact(by assumption:_=p.f.o2.map aq∧_).1)|(have hg:=(by assumption:p.g=3);rw[hg];exact(by assumption:_=p.f.o3.map aq∧_).1)) (by omega) hi15.1)|exact hz.1.trans (lg g0 (by omega) (by(try dsimp only);omega) (by first|(have hg:=(by assumption:p.g=0);rw[hg];exact(by assumption:_=p.f.o0.map aq∧_).1)|(have hg:=(by assumption:p.g=1);rw[hg];exact(by assumption:_=p.f.o1.map aq∧_).1)|(have hg:=(by assumption:p.g=2);rw[hg];exact(by assumption:_=p.f.o2.map aq∧_).1)|(have hg:=(by assumption:p.g=3);rw[hg];exact(by assumption:_=p.f.o3.map aq∧_).1)) (by omega) (by first|(have hg:=(by assumption:p.g=0);rw[hg];simp[aC,aD,dQ];done)|(have hg:=(by assumption:p.g=1);rw[hg];simp[aC,aD,dP];done)|(have hg:=(by assumption:p.g=2);rw[hg];simp[aC,aD,dO];done)|(have hg:=(by assumption:p.g=3);rw[hg];simp[aC,aD,dN];done)) hi15.1),hz.2⟩) rfl
 refine aJ (⟨p.f,r4.h,r4.o,p.b,(2:Int),(0:Int)⟩:dq) rfl (by(try dsimp only[bK]);exact⟨⟨by have:=iY hi13.1;omega,by omega,by omega,by omega,by omega,by simp[aC,aD]<;>omega⟩,hi13.2,by first|(simp;done)|exact g3⟩) fun r6 hi16=> ?_
 dsimp only[cD]at hi16
 refine aN ?_
 exact kr (q:=⟨p.f,r6.c,(2:Int)+(1:Int)⟩) (by dsimp only[da];omega) (by dsimp only[dk];first|exact⟨⟨by omega,by omega⟩,ga,gl,by omega,g3⟩|exact⟨⟨by omega,by omega⟩,ga,gl,by omega,hi16.2.2⟩) (aV hK fun r hz=>⟨by first|exact hz.1.trans (so g0 (by omega) (by(try dsimp only);omega) (by first|(have hg:=(by assumption:p.g=0);rw[hg];exact(by assumption:_=p.f.o0.map aq∧_).1)|(have hg:=(by assumption:p.g=1);rw[hg];exact(by assumption:_=p.f.o1.map aq∧_).1)|(have hg:=(by assumption:p.g=2);rw[hg];exact(by assumption:_=p.f.o2.map aq∧_).1)|(have hg:=(by assumption:p.g=3);rw[hg];exact(by assumption:_=p.f.o3.map aq∧_).1)) (by omega) hi16.1)|exact hz.1.trans (lg g0 (by omega) (by(try dsimp only);omega) (by first|(have hg:=(by assumption:p.g=0);rw[hg];exact(by assumption:_=p.f.o0.map aq∧_).1)|(have hg:=(by assumption:p.g=1);rw[hg];exact(by assumption:_=p.f.o1.map aq∧_).1)|(have hg:=(by assumption:p.g=2);rw[hg];exact(by assumption:_=p.f.o2.map aq∧_).1)|(have hg:=(by assumption:p.g=3);rw[hg];exact(by assumption:_=p.f.o3.map aq∧_).1)) (by omega) (by first|(have hg:=(by assumption:p.g=0);rw[hg];simp[aC,aD,dQ];done)|(have hg:=(by assumption:p.g=1);rw[hg];simp[aC,aD,dP];done)|(have hg:=(by assumption:p.g=2);rw[hg];simp[aC,aD,dO];done)|(have hg:=(by assumption:p.g=3);rw[hg];simp[aC,aD,dN];done)) hi16.1),hz.2⟩) rfl
 refine iI (fun hc17=> ?_) (fun hc17=> ?_)
 refine aJ (⟨p.f⟩:mQ) rfl (by(try dsimp only[ky]);unfold jY at ga;unfold bC at gl;exact⟨ga.2.2.2.2.2,by omega⟩) fun r1 hi18=> ?_
 dsimp only[lZ]at hi18
 refine iI (fun hc19=> ?_) (fun hc19=> ?_)
 refine aN (cz (lh ?_))
 refine aG p.b ?_
 refine az (az (cz ?_))
 refine aG (p.b++(Lib.join [dv,pC] t_0)) ?_
 refine az (az (aN (cz ?_)))
 refine aJ (⟨p.f,r1.h,r1.o,(p.b++(Lib.join [dv,pC] t_0))++[ac0 (10:Int).toNat],(3:Int),(0:Int)⟩:dq) rfl (by(try dsimp only[bK]);exact⟨⟨by have:=iY hi18.1;omega,by omega,by omega,by omega,by omega,by simp[aC,aD]<;>omega⟩,hi18.2,by first|(simp;done)|exact g3⟩) fun r2 hi20=> ?_
 dsimp only[cD]at hi20
 refine aN ?_
 exact kr (q:=⟨p.f,r2.c,(3:Int)+(1:Int)⟩) (by dsimp only[da];omega) (by dsimp only[dk];first|exact⟨⟨by omega,by omega⟩,ga,gl,by omega,g3⟩|exact⟨⟨by omega,by omega⟩,ga,gl,by omega,hi20.2.2⟩) (aV hK fun r hz=>⟨by first|exact hz.1.trans (so g0 (by omega) (by(try dsimp only);omega) (by first|(have hg:=(by assumption:p.g=0);rw[hg];exact(by assumption:_=p.f.o0.map aq∧_).1)|(have hg:=(by assumption:p.g=1);rw[hg];exact(by assumption:_=p.f.o1.map aq∧_).1)|(have hg:=(by assumption:p.g=2);rw[hg];exact(by assumption:_=p.f.o2.map aq∧_).1)|(have hg:=(by assumption:p.g=3);rw[hg];exact(by assumption:_=p.f.o3.map aq∧_).1)) (by omega) hi20.1)|exact hz.1.trans (lg g0 (by omega) (by(try dsimp only);omega) (by first|(have hg:=(by assumption:p.g=0);rw[hg];exact(by assumption:_=p.f.o0.map aq∧_).1)|(have hg:=(by assumption:p.g=1);rw[hg];exact(by assumption:_=p.f.o1.map aq∧_).1)|(have hg:=(by assumption:p.g=2);rw[hg];exact(by assumption:_=p.f.o2.map aq∧_).1)|(have hg:=(by assumption:p.g=3);rw[hg];exact(by assumption:_=p.f.o3.map aq∧_).1)) (by omega) (by first|(have hg:=(by assumption:p.g=0);rw[hg];simp[aC,aD,dQ];done)|(have hg:=(by assumption:p.g=1);rw[hg];simp[aC,aD,dP];done)|(have hg:=(by assumption:p.g=2);rw[hg];simp[aC,aD,dO];done)|(have hg:=(by assumption:p.g=3);rw[hg];simp[aC,aD,dN];done)) hi20.1),hz.2⟩) rfl
 refine aJ (⟨p.f,r1.h,r1.o,p.b,(3:Int),(0:Int)⟩:dq) rfl (by(try dsimp only[bK]);exact⟨⟨by have:=iY hi18.1;omega,by omega,by omega,by omega,by omega,by simp[aC,aD]<;>omega⟩,hi18.2,by first|(simp;done)|exact g3⟩) fun r3 hi21=> ?_
 dsimp only[cD]at hi21
 refine aN ?_
 exact kr (q:=⟨p.f,r3.c,(3:Int)+(1:Int)⟩) (by dsimp only[da];omega) (by dsimp only[dk];first|exact⟨⟨by omega,by omega⟩,ga,gl,by omega,g3⟩|exact⟨⟨by omega,by omega⟩,ga,gl,by omega,hi21.2.2⟩) (aV hK fun r hz=>⟨by first|exact hz.1.trans (so g0 (by omega) (by(try dsimp only);omega) (by first|(have hg:=(by assumption:p.g=0);rw[hg];exact(by assumption:_=p.f.o0.map aq∧_).1)|(have hg:=(by assumption:p.g=1);rw[hg];exact(by assumption:_=p.f.o1.map aq∧_).1)|(have hg:=(by assumption:p.g=2);rw[hg];exact(by assumption:_=p.f.o2.map aq∧_).1)|(have hg:=(by assumption:p.g=3);rw[hg];exact(by assumption:_=p.f.o3.map aq∧_).1)) (by omega) hi21.1)|exact hz.1.trans (lg g0 (by omega) (by(try dsimp only);omega) (by first|(have hg:=(by assumption:p.g=0);rw[hg];exact(by assumption:_=p.f.o0.map aq∧_).1)|(have hg:=(by assumption:p.g=1);rw[hg];exact(by assumption:_=p.f.o1.map aq∧_).1)|(have hg:=(by assumption:p.g=2);rw[hg];exact(by assumption:_=p.f.o2.map aq∧_).1)|(have hg:=(by assumption:p.g=3);rw[hg];exact(by assumption:_=p.f.o3.map aq∧_).1)) (by omega) (by first|(have hg:=(by assumption:p.g=0);rw[hg];simp[aC,aD,dQ];done)|(have hg:=(by assumption:p.g=1);rw[hg];simp[aC,aD,dP];done)|(have hg:=(by assumption:p.g=2);rw[hg];simp[aC,aD,dO];done)|(have hg:=(by assumption:p.g=3);rw[hg];simp[aC,aD,dN];done)) hi21.1),hz.2⟩) rfl
 refine fX ?_
 rfl
 exact Rq hK ⟨p.b⟩ (by dsimp only[Bh]<;>(exact⟨by rw[Ff (by omega)];simp,g3⟩))
theorem Vt:dI Tryz.prog 40 13 ko true 1 As:=by
 refine dM (lf:=600) bv (aT ot) (by rfl) Ji cF ED (fun b j x h=>(cd Ya (fun h=>(by cases h)) h)) (fun S M nx K h=> ?_) (fun p K h=> ?_)
 ·have h:BN S M nx K=true:=h
  unfold BN at h
  rcases xx h with⟨_,h⟩|⟨_,h⟩
  ·obtain⟨p,h⟩:=bL h;exact⟨.v0 p,(aa h).1,(aa h).2⟩
  rcases xx h with⟨_,h⟩|⟨_,h⟩
  ·obtain⟨p,h⟩:=bL h;exact⟨.v1 p,(aa h).1,(aa h).2⟩
  cases h
 ·cases p with
  |v0 p=>have h:Ba p K=true:=h;exact Sq p K (aa h).1 (aa h).2
  |v1 p=>have h:AZ p K=true:=h;exact Sp p K (aa h).1 (aa h).2
structure oT where
 f:bE
structure FZ where
 s:List UInt8
def pa (p:oT) (r:FZ):Prop:=r.s=gA (bB p.f) 0
noncomputable def vm (p:oT):IE:=([.ptr 0 0],(bj p.f),13)
noncomputable def yR (p:oT) (K:KE):Bool:=aA fun r:FZ=>iP (pa p r) (K (.sy (.str r.s)) (bj p.f) 13) true
def pM (p:oT):Prop:=jY p.f∧bC p.f 80
theorem Hf {p:oT} {K:KE} (hK:yR p K=true) (r:FZ) (h:pa p r):K (.sy (.str r.s)) (bj p.f) 13=true:=aP h (aF hK r)
theorem Sa (p:oT) (K:KE) (hpre:pM p) (hK:yR p K=true):(bZ 13 (bH kI) ko 600 JU (vm p).1 (vm p).2.1 (vm p).2.2 K)=true:=by
 refine Eq.trans (b:=(aI fun p1:fW=>mP (((.cons 8 (.sy (.int 1 0)) (.cons 3 (.ptr 13 0) (.cons 0 (.ptr 0 0) .nil))),(sR p.f),14)=oN p1) (mP (kF p1) (ac (iP (Bi p1) (K (.sy (.str ([]:List UInt8))) (bj p1.f) 13) true) (aA fun r1:mJ=>iP (Gz p1 r1) (aI fun b1:List UInt8=>mP (r1.c.map bi=b1.map bi) (mP (r1.c.length=b1.length) (mP (b1≠[]) (K (.sy (.str b1)) (bj p1.f) 13)))) true))))) (by kernel_rfl) ?_
 dsimp only[pM]at hpre
 refine dG (⟨p.f,(0:Int)⟩:fW) rfl (by(try dsimp only[kF]);exact⟨by omega,hpre.1,hpre.2⟩) ?_
 refine aM ?_ ?_
 refine iI (p:=gA (bB p.f) (0:Int)=[]) (fun hi1=> ?_) (fun _=>rfl)
 exact Hf hK ⟨([]:List UInt8)⟩ (by dsimp only[pa]<;>(first|exact hi1.symm|exact hi1.1))
 refine aB (fun r1=> ?_)
 refine iI (p:=r1.c=gA (bB p.f) (0:Int)∧r1.c≠[]) (fun hi2=> ?_) (fun _=>rfl)
 refine aG r1.c ?_
 refine az (az (mI (by(try dsimp only);exact hi2.2) ?_))
 exact Hf hK ⟨r1.c⟩ (by dsimp only[pa]<;>(first|exact hi2.symm|exact hi2.1))
noncomputable def pZ:=bM kI 13 (ce vm (dD pM yR)) 9 []
theorem oq:be Tryz.prog pZ:=aY (bV (f:=9) (k:=13) (lp:=ko) (lf:=600) bv (aT ot) Mn (by rfl) (fun b j x h=>(cd Vt (fun h=>(by cases h)) h)) fun p K h=>Sa p K (aa h).1 (aa h).2) ot
end Go.Proofs.Tryz
