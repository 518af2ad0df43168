/- Definitions and lemmas of the proof, without a condition of their own. -/
import Derived.Test.YtjhpjjbnojbikaaGreatK3
import Derived.KernelRfl
set_option linter.unusedSimpArgs false
set_option linter.unusedVariables false
open List renaming eq_nil_of_length_eq_zero→amo,length_append→al2,length_cons→al3,length_drop→amr,length_map→al4,length_nil→al5,length_take→ami,map_append→amg
open Nat renaming le_refl→amj
open Option.some renaming inj→amp
namespace Go.Proofs.Tryz
open Go Go.RowKit Go.Sy
open Go.Eng hiding aj
set_option maxRecDepth 1000000
set_option linter.unusedVariables false
set_option maxHeartbeats 4000000
attribute [local irreducible] aq
def Vl.er (v:Vl):List Int×List Ke:=(v.m,v.t)
def ks (m:List Int) (ph:Int) (gt:List Int) (best:Int) (held:Option (List Int×List Ke)) (qt:List Ke) (x:Int) (l:List Ke) (acc:Int) (v:List Int×List Ke) (has:Bool):List Int×Int×Option (List Int×List Ke)×List Ke:=
 if ph=0∧x∈m∧¬x∈gt then (gt++[x],(if has=true∧(held=none∨best<acc) then acc else best),(if has=true∧(held=none∨best<acc) then some v else held),(if qt.length<l.length then l else qt)) else (gt,best,held,qt)
theorem Ay {m:List Int} {ph:Int} {gt g2:List Int} {best:Int} {held:Option (List Int×List Ke)} {qt:List Ke} {x:Int} {l:List Ke} {acc:Int} {v:List Int×List Ke} {has:Bool} (h:¬(ph=0∧x∈m∧¬x∈gt)) (hg:g2=eO m ph gt x 0):(g2,best,held,qt)=ks m ph gt best held qt x l acc v has:=by
 unfold eO at hg
 rw[if_neg h]at hg
 unfold ks
 rw[if_neg h,hg]
theorem wi {m:List Int} {ph:Int} {gt g2:List Int} {best b2:Int} {held h2:Option (List Int×List Ke)} {qt q2:List Ke} {x:Int} {l:List Ke} {acc:Int} {v:List Int×List Ke} {has:Bool} (h:ph=0∧x∈m∧¬x∈gt) (hg:g2=eO m ph gt x 0)
  (hb:((has=true∧(held=none∨best<acc))∧b2=acc∧h2=some v)∨(¬(has=true∧(held=none∨best<acc))∧b2=best∧h2=held)) (hq:(qt.length<l.length∧q2=l)∨(¬qt.length<l.length∧q2=qt)):(g2,b2,h2,q2)=ks m ph gt best held qt x l acc v has:=by
 unfold eO at hg
 rw[if_pos h]at hg
 unfold ks
 rw[if_pos h,hg]
 rcases hb with⟨e1,e2,e3⟩|⟨e1,e2,e3⟩<;>rcases hq with⟨e4,e5⟩|⟨e4,e5⟩<;>simp only[e1,e2,e3,e4,e5,and_self,if_true,if_false]
theorem BZ {has:Bool} {best acc:Int} {held:Option Vl} {w:Vl} {vm:List Int} {vt:List Ke} (h1:has=true) (h2:held=none∨best<acc) (hv:w.m=vm∧w.t=vt):((has=true∧(held.map Vl.er=none∨best<acc))∧acc=acc∧(some w).map Vl.er=some (vm,vt))∨(¬(has=true∧(held.map Vl.er=none∨best<acc))∧acc=best∧(some w).map Vl.er=held.map Vl.er):=
 .inl ⟨⟨h1,h2.imp (fun h=>by rw[h];rfl) id⟩,rfl,by rw[←hv.1,←hv.2];rfl⟩
theorem Ij {has:Bool} {best acc:Int} {held:Option Vl} {vm:List Int} {vt:List Ke} (h:¬(has=true∧(held=none∨best<acc))):((has=true∧(held.map Vl.er=none∨best<acc))∧best=acc∧held.map Vl.er=some (vm,vt))∨(¬(has=true∧(held.map Vl.er=none∨best<acc))∧best=best∧held.map Vl.er=held.map Vl.er):=
 .inr ⟨fun q=>h ⟨q.1,q.2.imp (fun e=>by cases held with|none=>rfl|some _=>cases e) id⟩,rfl,rfl⟩
noncomputable def ft_promG':NV (fun e0=>aB [e0] [] [] 0x5278e51ba88dc1e29e83812f1936c0020bc48ab06f429ae213f6b0349a1330014277c1b57e8fa5b63df1b7a68dfe887c5fbeb1790088ba721bb10b7559371eac245d7c393f033addc77b90ffe8bbdc4d915aedd930ed254ff102):=⟨_,by conv=>rhs;reduce⟩
noncomputable abbrev Ql:XF:=ft_promG'.1 (eJ cO)
theorem DU:aK Tryz.prog 105 Ql=true:=by kernel_rfl
structure abx where
 N:Int
 qh:Value
 m:List Int
 b:Int
 ph:Int
 gt:List Int
 best:Int
 hh:Value
 held:Option Vl
 qth:Value
 qt:List Ke
 cmh:Value
 cm:List Int
 cth:Value
 ct:List Ke
 x:Int
 h:Value
 l:List Ke
 acc:Int
 vmh:Value
 vm:List Int
 vth:Value
 vt:List Ke
 has:Bool
structure aaL where
 gt:List Int
 best:Int
 hh:Value
 held:Option Vl
 qth:Value
 qt:List Ke
theorem OF:aA Tryz.prog 105 1 (aO (fun p:abx=>([.ptr 0 0,eL p.x,.sy (.imm p.h 18 Ke p.l aD),.sy (.int 4 p.acc),Fh p.vmh p.vm p.vth p.vt,.sy (.bool (p.has=true))],(.node (.node .leaf (some (.kmap true true false Int p.gt am cF)) .leaf) (some (.blk false 161 11 [[.int 1 (.ofNat 0),.sy (.int 3 p.N),.sy (.imm p.qh 2 Int p.m am),.sy (.int 4 p.b),.sy (.int 0 p.ph),.map 1,.sy (.int 4 p.best),.sy (.vl p.hh true Vl p.held cO),.sy (.imm p.qth 18 Ke p.qt aD),.sy (.imm p.cmh 2 Int p.cm am),.sy (.imm p.cth 18 Ke p.ct aD)]])) .leaf),2)) (fun p=>QOk p.m p.ph p.gt p.held p.qt p.cm p.ct∧p.l.length≤400∧p.vm.length≤1000∧p.vt.length≤400) (fun p K=>aj fun r:aaL=>iP ((r.gt,r.best,r.held.map Vl.er,r.qt)=ks p.m p.ph p.gt p.best (p.held.map Vl.er) p.qt p.x p.l p.acc (p.vm,p.vt) p.has) (K (.tup []) (.node (.node .leaf (some (.kmap true true false Int r.gt am cF)) .leaf) (some (.blk false 161 11 [[.int 1 (.ofNat 0),.sy (.int 3 p.N),.sy (.imm p.qh 2 Int p.m am),.sy (.int 4 p.b),.sy (.int 0 p.ph),.map 1,.sy (.int 4 r.best),.sy (.vl r.hh true Vl r.held cO),.sy (.imm r.qth 18 Ke r.qt aD),.sy (.imm p.cmh 2 Int p.cm am),.sy (.imm p.cth 18 Ke p.ct aD)]])) .leaf) 2) true)):=nE (nat:=uL) DU fun p K hpre hK=>by
 dsimp only at hpre hK ⊢
 obtain⟨hq,g1,g2,g3⟩:=hpre
 have hm:=ah hq.nl
 have g4:=hq.qt
 have nnx:=trivial
 have nnh:=trivial
 have nnq:=trivial
 have yg {g:Prop} (h:g:=by first|(first|(constructor<;>omega)|(have e:=(by assumption:_∧_);rw[e.1,e.2];constructor<;>omega)|(have h3:=hq.held _ (by assumption);constructor<;>omega)|(have h3:=hq.held _ (by assumption);have e:=hi;rw[e.1,e.2];constructor<;>omega))|(first|omega|(simp only[ami,amr];omega))|fail):g:=h
 have yp {g:Prop} (h:g:=by first|(first|exact Ay (by assumption) (hi).2|exact wi (Classical.not_not.1 (by assumption)) (hi).2 (by first|exact BZ (by assumption) (by first|exact .inl (by assumption)|exact .inr (by assumption)) (by assumption)|exact Ij (fun h=>by first|exact absurd h.1 (by assumption)|exact h.2.elim (fun h3=>absurd h3 (by assumption)) (fun h3=>by omega))) (by first|exact .inl ⟨by omega,(hi).1⟩|exact .inr ⟨by omega,rfl⟩))|(first|exact Ay (by assumption) (hi1).2|exact wi (Classical.not_not.1 (by assumption)) (hi1).2 (by first|exact BZ (by assumption) (by first|exact .inl (by assumption)|exact .inr (by assumption)) (by assumption)|exact Ij (fun h=>by first|exact absurd h.1 (by assumption)|exact h.2.elim (fun h3=>absurd h3 (by assumption)) (fun h3=>by omega))) (by first|exact .inl ⟨by omega,(hi).1⟩|exact .inr ⟨by omega,rfl⟩))|(first|exact Ay (by assumption) (hi1).2|exact wi (Classical.not_not.1 (by assumption)) (hi1).2 (by first|exact BZ (by assumption) (by first|exact .inl (by assumption)|exact .inr (by assumption)) (by assumption)|exact Ij (fun h=>by first|exact absurd h.1 (by assumption)|exact h.2.elim (fun x1=>absurd x1 (by assumption)) (fun x1=>by omega))) (by first|exact .inl ⟨by omega,(hi).1⟩|exact .inr ⟨by omega,rfl⟩))|fail):g:=h
 have yq {g:Prop} (h:g:=by first|(refine wX (.mk ..) (by first|exact sd|exact ys) ?_;exact wz)|fail):g:=h
 exact wz
noncomputable def xW:NN:=bY uL OF [(0,4),(1,15),(2,23),(3,20),(4,15),(5,21)]
def dj (held:Option (List Int×List Ke)) (wish:List Int) (qt:List Ke):List Int×List Ke:=match held with
 |some v=>v
 |none=>(wish,qt)
def dc (m:List Int) (ph:Int) (gt:List Int) (x:Int):Int×List Int:=(if (ph=1∧x∈m∧¬x∈gt)∧(m.length:Int) / 2+1≤((eO m ph gt x 1).length:Int) then 2 else ph,eO m ph gt x 1)
theorem aat {m:List Int} {ph:Int} {gt g2:List Int} {x:Int} (h:ph=1∧x∈m∧¬x∈gt) (hg:g2=eO m ph gt x 1) (hm:(m.length:Int) / 2+1≤(g2.length:Int)):((2:Int),g2)=dc m ph gt x:=by
 subst hg
 unfold dc
 rw[if_pos ⟨h,hm⟩]
theorem ahx {m:List Int} {ph:Int} {gt g2:List Int} {x:Int} (hg:g2=eO m ph gt x 1) (hm:¬(ph=1∧x∈m∧¬x∈gt)∨¬(m.length:Int) / 2+1≤(g2.length:Int)):(ph,g2)=dc m ph gt x:=by
 subst hg
 unfold dc
 rw[if_neg fun h=>hm.elim (fun q=>q h.1) (fun q=>q h.2)]
theorem aet {held:Option Vl} {wish:List Int} {qt:List Ke} {cm:List Int} {ct:List Ke} (h:held=none) (e:cm=wish∧ct=qt):(cm,ct)=dj (held.map Vl.er) wish qt:=by rw[h,e.1,e.2];rfl
theorem Wo {held:Option Vl} {wish:List Int} {qt:List Ke} {v:Vl} (h:held=some v):(v.m,v.t)=dj (held.map Vl.er) wish qt:=by rw[h];rfl
noncomputable def ft_prpG':NV (fun e0=>aB [e0] [] [] 0x5511d3476668108e918798805847ecf749c5ed3a769cdc6c234788bd013eae274cb9aa49dd206aa8d521b11efd1760aa3fc4324e9a8d8a41a791b983ff681e86a193b10d1d35795a45a0110e0b19443c008d006f83dd40854b3ffc8e47):=⟨_,by conv=>rhs;reduce⟩
noncomputable abbrev Zc:XF:=ft_prpG'.1 (eJ cO)
theorem Iy:aK Tryz.prog 133 Zc=true:=by kernel_rfl
structure aiC where
 N:Int
 qh:Value
 m:List Int
 b:Int
 ph:Int
 gt:List Int
 best:Int
 hh:Value
 held:Option Vl
 qth:Value
 qt:List Ke
 cmh:Value
 cm:List Int
 cth:Value
 ct:List Ke
 wh:Value
 wish:List Int
structure aaK where
 hh:Value
 held:Option Vl
 cmh:Value
 cm:List Int
 cth:Value
 ct:List Ke
 vmh:Value
 vm:List Int
 vth:Value
 vt:List Ke
theorem Xg:aA Tryz.prog 133 1 (aO (fun p:aiC=>([.ptr 0 0,.sy (.imm p.wh 2 Int p.wish am)],(.node (.node .leaf (some (.kmap true true false Int p.gt am cF)) .leaf) (some (.blk false 161 11 [[.int 1 (.ofNat 0),.sy (.int 3 p.N),.sy (.imm p.qh 2 Int p.m am),.sy (.int 4 p.b),.sy (.int 0 p.ph),.map 1,.sy (.int 4 p.best),.sy (.vl p.hh true Vl p.held cO),.sy (.imm p.qth 18 Ke p.qt aD),.sy (.imm p.cmh 2 Int p.cm am),.sy (.imm p.cth 18 Ke p.ct aD)]])) .leaf),2)) (fun p=>QOk p.m p.ph p.gt p.held p.qt p.cm p.ct∧p.wish.length≤1000) (fun p K=>ae (iP (¬(p.ph=0∧(p.m.length:Int) / 2+1≤(p.gt.length:Int))) (K (.tup [.agg [.nilS,.nilS],.bool false]) (.node (.node .leaf (some (.kmap true true false Int p.gt am cF)) .leaf) (some (.blk false 161 11 [[.int 1 (.ofNat 0),.sy (.int 3 p.N),.sy (.imm p.qh 2 Int p.m am),.sy (.int 4 p.b),.sy (.int 0 p.ph),.map 1,.sy (.int 4 p.best),.sy (.vl p.hh true Vl p.held cO),.sy (.imm p.qth 18 Ke p.qt aD),.sy (.imm p.cmh 2 Int p.cm am),.sy (.imm p.cth 18 Ke p.ct aD)]])) .leaf) 2) true) (aj fun r:aaK=>iP ((p.ph=0∧(p.m.length:Int) / 2+1≤(p.gt.length:Int))∧r.held=p.held∧(r.cm,r.ct)=dj (p.held.map Vl.er) p.wish p.qt∧r.vm=r.cm∧r.vt=r.ct) (K (.tup [(Fh r.vmh r.vm r.vth r.vt),.bool true]) (.node (.node .leaf (some (.kmap true true false Int ([]:List Int) am cF)) .leaf) (some (.blk false 161 11 [[.int 1 (.ofNat 0),.sy (.int 3 p.N),.sy (.imm p.qh 2 Int p.m am),.sy (.int 4 p.b),.sy (.int 0 (1:Int)),.map 1,.sy (.int 4 p.best),.sy (.vl r.hh true Vl r.held cO),.sy (.imm p.qth 18 Ke p.qt aD),.sy (.imm r.cmh 2 Int r.cm am),.sy (.imm r.cth 18 Ke r.ct aD)]])) .leaf) 2) true))):=nE (nat:=xW) Iy fun p K hpre hK=>by
 dsimp only at hpre hK ⊢
 obtain⟨hK0,hKr0⟩:=ac hK
 have hK1:=hKr0
 obtain⟨hq,g1⟩:=hpre
 have hm:=ah hq.nl
 have hne:=List.length_pos_iff.2 hq.ne
 have g4:=hq.qt
 have ht:Int.tdiv (p.m.length:Int) 2=(p.m.length:Int) / 2:=Int.tdiv_eq_ediv_of_nonneg (by omega)
 have nnx:=trivial
 have nnr:=trivial
 have ys {g:Prop} (h:g:=by first|(decide)|(simp only[gX,ht];omega;done)|fail):g:=h
 have yg {g:Prop} (h:g:=by first|(first|(constructor<;>omega)|(have e:=(by assumption:_∧_);rw[e.1,e.2];constructor<;>omega)|(have h3:=hq.held _ (by assumption);constructor<;>omega)|(have h3:=hq.held _ (by assumption);have e:=hi;rw[e.1,e.2];constructor<;>omega))|fail):g:=h
 have yp {g:Prop} (h:g:=by first|(intro h;omega)|(first|exact⟨⟨by omega,by omega⟩,(by assumption:p.held=none).symm,aet (by assumption) (by assumption),(hi).1,(hi).2⟩|exact⟨⟨by omega,by omega⟩,(by assumption:p.held=some _).symm,Wo (by assumption),(hi).1,(hi).2⟩)|fail):g:=h
 have yq {g:Prop} (h:g:=by first|(refine wX ⟨x1.mh,x1.m,x1.th,x1.t⟩ (by first|exact sd|exact ys) ?_;exact wz)|fail):g:=h
 exact wz
noncomputable def AT:NN:=bY xW Xg [(0,4),(1,23)]
noncomputable def ft_acdG':NV (aB [] [] [] 0xdb6c2177cd31f886bb91a27127bba3b2dd126d2eb8eb9f45a69d2200133b9c6d8037db30cdc2091fc72):=⟨_,by conv=>rhs;reduce⟩
noncomputable abbrev ZA:XF:=ft_acdG'.1
theorem IT:aK Tryz.prog 118 ZA=true:=by kernel_rfl
structure aji where
 N:Int
 qh:Value
 m:List Int
 b:Int
 ph:Int
 gt:List Int
 best:Int
 hh:Value
 held:Option Vl
 qth:Value
 qt:List Ke
 cmh:Value
 cm:List Int
 cth:Value
 ct:List Ke
 x:Int
structure air where
 q:Prop
 ph:Int
 gt:List Int
theorem XZ:aA Tryz.prog 118 1 (aO (fun p:aji=>([.ptr 0 0,eL p.x],(.node (.node .leaf (some (.kmap true true false Int p.gt am cF)) .leaf) (some (.blk false 161 11 [[.int 1 (.ofNat 0),.sy (.int 3 p.N),.sy (.imm p.qh 2 Int p.m am),.sy (.int 4 p.b),.sy (.int 0 p.ph),.map 1,.sy (.int 4 p.best),.sy (.vl p.hh true Vl p.held cO),.sy (.imm p.qth 18 Ke p.qt aD),.sy (.imm p.cmh 2 Int p.cm am),.sy (.imm p.cth 18 Ke p.ct aD)]])) .leaf),2)) (fun p=>QOk p.m p.ph p.gt p.held p.qt p.cm p.ct) (fun p K=>aj fun r:air=>iP ((r.ph,r.gt)=dc p.m p.ph p.gt p.x) (K (.sy (.bool r.q)) (.node (.node .leaf (some (.kmap true true false Int r.gt am cF)) .leaf) (some (.blk false 161 11 [[.int 1 (.ofNat 0),.sy (.int 3 p.N),.sy (.imm p.qh 2 Int p.m am),.sy (.int 4 p.b),.sy (.int 0 r.ph),.map 1,.sy (.int 4 p.best),.sy (.vl p.hh true Vl p.held cO),.sy (.imm p.qth 18 Ke p.qt aD),.sy (.imm p.cmh 2 Int p.cm am),.sy (.imm p.cth 18 Ke p.ct aD)]])) .leaf) 2) true)):=nE (nat:=AT) IT fun p K hpre hK=>by
 dsimp only at hpre hK ⊢
 have hq:=hpre
 have hm:=ah hq.nl
 have hne:=List.length_pos_iff.2 hq.ne
 have ht:Int.tdiv (p.m.length:Int) 2=(p.m.length:Int) / 2:=Int.tdiv_eq_ediv_of_nonneg (by omega)
 have nnq:=trivial
 have ys {g:Prop} (h:g:=by first|(decide)|(simp only[gX,ht];omega;done)|fail):g:=h
 have yp {g:Prop} (h:g:=by first|(first|exact aat (by assumption) (hi).2 (by rw[←ht];omega)|exact ahx (hi).2 (by first|exact .inl (by assumption)|exact .inr (by rw[←ht];omega)))|fail):g:=h
 exact wz
noncomputable def Bf:NN:=bY AT XZ [(0,4),(1,15)]
noncomputable def ft_prepA':NV (aB [] [] [] 0x37c35460374fe122e2414fb407aa5e0ac3f29e1a24613d23a6ea9a3e9343080697f6e5248):=⟨_,by conv=>rhs;reduce⟩
noncomputable abbrev Qn:XF:=ft_prepA'.1
theorem DW:aK Tryz.prog 102 Qn=true:=by kernel_rfl
structure abz where
 prm:Int
 aa:Int
 avh:Value
 av:List Int
 ath:Value
 atl:List Ke
 b:Int
theorem OH:aA Tryz.prog 102 1 (aO (fun p:abz=>([.ptr 0 0,.sy (.int 4 p.b)],(.node .leaf (some (eX p.prm p.aa p.avh p.av p.ath p.atl)) .leaf),1)) (fun _=>True) (fun p K=>ae (iP (p.b=0∨p.b<p.prm) (K (.bool false) (.node .leaf (some (eX p.prm p.aa p.avh p.av p.ath p.atl)) .leaf) 1) true) (iP (¬p.b=0∧p.prm≤p.b) (K (.bool true) (.node .leaf (some (eX p.b p.aa p.avh p.av p.ath p.atl)) .leaf) 1) true))):=nE (nat:=Bf) DW fun p K hpre hK=>by
 dsimp only at hpre hK ⊢
 obtain⟨hK0,hKr0⟩:=ac hK
 have hK1:=hKr0
 have yp {g:Prop} (h:g:=by first|(first|exact .inl (by assumption)|exact .inr (by assumption))|(exact⟨by omega,by omega⟩)|fail):g:=h
 exact wz
noncomputable def xY:NN:=bY Bf OH [(0,4),(1,20)]
noncomputable def ft_acptG':NV (aB [] [] [] 0x590201b1fcc481614658f53dac25552821163c1cb1c0f1f09cb2c2f2c921a963c87a6d8be3):=⟨_,by conv=>rhs;reduce⟩
noncomputable abbrev QL:XF:=ft_acptG'.1
theorem Er:aK Tryz.prog 134 QL=true:=by kernel_rfl
structure abX where
 prm:Int
 aa:Int
 avh:Value
 av:List Int
 ath:Value
 atl:List Ke
 b:Int
 vmh:Value
 vm:List Int
 vth:Value
 vt:List Ke
structure Sj where
 avh:Value
 av:List Int
 ath:Value
 atl:List Ke
theorem Pe:aA Tryz.prog 134 1 (aO (fun p:abX=>([.ptr 0 0,.sy (.int 4 p.b),Fh p.vmh p.vm p.vth p.vt],(.node .leaf (some (eX p.prm p.aa p.avh p.av p.ath p.atl)) .leaf),1)) (fun p=>p.vm.length≤1000000∧p.vt.length≤1000000) (fun p K=>ae (iP (p.b=0∨p.b<p.prm) (K (.bool false) (.node .leaf (some (eX p.prm p.aa p.avh p.av p.ath p.atl)) .leaf) 1) true) (aj fun r:Sj=>iP ((¬p.b=0∧p.prm≤p.b)∧r.av=p.vm∧r.atl=p.vt) (K (.bool true) (.node .leaf (some (eX p.b p.b r.avh r.av r.ath r.atl)) .leaf) 1) true))):=nE (nat:=xY) Er fun p K hpre hK=>by
 dsimp only at hpre hK ⊢
 obtain⟨hK0,hKr0⟩:=ac hK
 have hK1:=hKr0
 obtain⟨h1,h2⟩:=hpre
 have nnr:=trivial
 have yg {g:Prop} (h:g:=by first|(first|(constructor<;>omega)|(have e:=(by assumption:_∧_);rw[e.1,e.2];constructor<;>omega)|(have h3:=hq.held _ (by assumption);constructor<;>omega)|(have h3:=hq.held _ (by assumption);have e:=hi;rw[e.1,e.2];constructor<;>omega))|fail):g:=h
 have yp {g:Prop} (h:g:=by first|(exact⟨by assumption,(hi).1,(hi).2⟩)|fail):g:=h
 exact wz
noncomputable def yC:NN:=bY xY Pe [(0,4),(1,20),(2,15)]
noncomputable def ft_heldG':NV (aB [] [] [] 0x8e02df7577446414dc3b11f4607b8ee4f4669f6e4052a1aaa8263e22cda68879b0a7c8632f91dacdd14df19a14af56500519487d84eda5):=⟨_,by conv=>rhs;reduce⟩
noncomputable abbrev Qx:XF:=ft_heldG'.1
theorem Ef:aK Tryz.prog 104 Qx=true:=by kernel_rfl
structure abI where
 prm:Int
 aa:Int
 avh:Value
 av:List Int
 ath:Value
 atl:List Ke
structure RN where
 vmh:Value
 vm:List Int
 vth:Value
 vt:List Ke
theorem OP:aA Tryz.prog 104 1 (aO (fun p:abI=>([.ptr 0 0],(.node .leaf (some (eX p.prm p.aa p.avh p.av p.ath p.atl)) .leaf),1)) (fun p=>p.av.length≤1000000∧p.atl.length≤1000000) (fun p K=>ae (iP (p.aa=0) (K (.tup [.int 4 (.ofNat 0),.agg [.nilS,.nilS],.bool false]) (.node .leaf (some (eX p.prm p.aa p.avh p.av p.ath p.atl)) .leaf) 1) true) (aj fun r:RN=>iP (¬p.aa=0∧r.vm=p.av∧r.vt=p.atl) (K (.tup [.sy (.int 4 p.aa),Fh r.vmh r.vm r.vth r.vt,.bool true]) (.node .leaf (some (eX p.prm p.aa p.avh p.av p.ath p.atl)) .leaf) 1) true))):=nE (nat:=yC) Ef fun p K hpre hK=>by
 dsimp only at hpre hK ⊢
 obtain⟨hK0,hKr0⟩:=ac hK
 have hK1:=hKr0
 obtain⟨h1,h2⟩:=hpre
 have nnr:=trivial
 have yg {g:Prop} (h:g:=by first|(first|(constructor<;>omega)|(have e:=(by assumption:_∧_);rw[e.1,e.2];constructor<;>omega)|(have h3:=hq.held _ (by assumption);constructor<;>omega)|(have h3:=hq.held _ (by assumption);have e:=hi;rw[e.1,e.2];constructor<;>omega))|fail):g:=h
 have yp {g:Prop} (h:g:=by first|(exact⟨by assumption,(hi).1,(hi).2⟩)|fail):g:=h
 exact wz
noncomputable def qn:NN:=bY yC OP [(0,4)]
structure Mx where
 k:Int
 N:Int
 fr:Int
 c:Int
 b:Int
 acc:Int
 vn:Int
 vl:List Int
 pn:Int
 pl:Int
 has:Bool
 ml:List Int
 l:List Ke
 tl:List Ke
structure Mg where
 k:Int
 N:Int
 fr:Int
 c:Int
 b:Int
 acc:Int
 vn:Int
 vh:Value
 vl:List Int
 pn:Int
 pl:Int
 has:Bool
 mh:Value
 ml:List Int
 h:Value
 l:List Ke
 th:Value
 tl:List Ke
def Mg.er (m:Mg):Mx:=⟨m.k,m.N,m.fr,m.c,m.b,m.acc,m.vn,m.vl,m.pn,m.pl,m.has,m.ml,m.l,m.tl⟩
structure Ou where
 to:Int
 m:Mg
def Ou.er (x:Ou):Int×Mx:=(x.to,x.m.er)
def cE (x:Ou):List PL:=[.sint 1 x.to,.int 2 (.ofNat 1),.sint 1 x.m.k,.int 1 (.ofNat 0),.int 1 (.ofNat 0),.sint 3 x.m.N,.sint 3 x.m.fr,.sint 3 x.m.c,.int 3 (.ofNat 0),.sint 4 x.m.b,.sint 4 x.m.acc,.int 1 (.ofNat 0),.int 2 (.ofNat 0),.int 3 (.ofNat 0),.int 1 (.ofNat 0),.int 1 (.ofNat 0),.int 1 (.ofNat 0),.int 1 (.ofNat 0),.int 1 (.ofNat 0),.int 1 (.ofNat 0),.int 1 (.ofNat 0),.nilS,.int 1 (.ofNat 0),.str [],.int 1 (.ofNat 0),.sint 3 x.m.vn,.imm x.m.vh 2 Int x.m.vl am,.sint 1 x.m.pn,.sint 2 x.m.pl,.sbool (x.m.has=true),.imm x.m.mh 2 Int x.m.ml am,.imm x.m.h 18 Ke x.m.l aD,.imm x.m.th 18 Ke x.m.tl aD]
noncomputable abbrev lV (x0:List Ou):AObj:=.prow 118 33 Ou x0 cE
def cB (me:Int) (m:Mx) (l:List Int):List (Int×Mx):=(l.filter fun p=>decide (¬p=me)).map fun p=>(p,m)
theorem JD {me x:Int} {m:Mg} {l:List Int} {i:Int} {o:List Ou} {y:Ou} (hi:0≤i) (h:o.map Ou.er=cB me m.er (l.take i.toNat)) (hx:l[i.toNat]?=some x) (hn:¬x=me) (hy:y.er=(x,m.er)):(o++[y]).map Ou.er=cB me m.er (l.take (i+1).toNat):=by
 rw[show(i+1).toNat=i.toNat+1 by omega,List.take_add_one,hx,amg,h]
 simp[cB,hn,hy]
theorem SX {me x:Int} {m:Mx} {l:List Int} {i:Int} {o:List Ou} (hi:0≤i) (h:o.map Ou.er=cB me m (l.take i.toNat)) (hx:l[i.toNat]?=some x) (hn:x=me):o.map Ou.er=cB me m (l.take (i+1).toNat):=by
 rw[show(i+1).toNat=i.toNat+1 by omega,List.take_add_one,hx,h]
 simp[cB,hn]
theorem pN {me:Int} {m:Mx} {l:List Int} {o:List Ou} (h:o.map Ou.er=cB me m l):o.length≤l.length:=by
 have:=congrArg List.length h
 simp only[al4,cB]at this
 rw[this]
 exact List.length_filter_le _ _
noncomputable def bd_l_toi':NV (df [] [] [] 0x1230e3d64f07181b4b5998e751ca0a3988a11e0dac8d06dbcc4d50b6cda987b6344bb5071898ee51bd1d1a89f7718471eff2e41e57d98642ad19c19a4bb85):=⟨_,by conv=>rhs;reduce⟩
noncomputable abbrev ub:XC:=bd_l_toi'.1
noncomputable def ft_toi':NV (fun e0 b0=>aB [e0] [] [b0] 0x42854c1c599fa48d3f9a6cad2b2f185bc65486f56ef3c76e9779289a30):=⟨_,by conv=>rhs;reduce⟩
noncomputable abbrev agr:XF:=ft_toi'.1 (eB 118 33 cE) ub
theorem LK:aK Tryz.prog 69 agr=true:=by kernel_rfl
structure GM where
 q:Nat→Value
 me:Int
 m:Mg
 h:Value
 l:List Int
 o:List Ou
 i:Int
structure aaT where
 o:List Ou
noncomputable def afA:bN:=cq bT 0 (fun p:GM=>((.cons 12 (.sy (.int 0 p.i)) (.cons 11 (.sy (.int 0 (p.l.length:Int))) (.cons 10 (.sy (.imm p.h 2 Int p.l am)) (.cons 7 (.sy (.prow 2 p.o.length)) (.cons 4 (.ptr 1 0) (.cons 0 (.ptr 0 0) .nil)))))),(.node (.node .leaf (some (Ff p.m.k p.m.N p.m.fr p.m.c p.m.b p.m.acc [] p.m.vn p.m.vh p.m.vl p.m.pn p.m.pl (p.m.has=true) p.m.mh p.m.ml p.m.h p.m.l p.m.th p.m.tl)) .leaf) (some (sq p.q p.me)) (.node .leaf (some (lV p.o)) .leaf)),3)) (fun p=>p.l.length≤1000∧0≤p.i∧p.i≤(p.l.length:Int)∧p.o.map Ou.er=cB p.me p.m.er (p.l.take p.i.toNat)) (fun p K=>aj fun r:aaT=>iP (r.o.map Ou.er=cB p.me p.m.er p.l) (K 2 (.cons 7 (.sy (.prow 1 r.o.length)) .nil) (.node (.node .leaf (some (lV r.o)) .leaf) (some (sq p.q p.me)) .leaf) 2) true)
theorem PB:bj Tryz.prog 30 1 afA true 0 ub:=lL (nat:=qn) (fun p:GM=>((p.l.length:Int) - p.i).toNat) cy (fun _ _ _ _=>rfl) fun p K hpre hK=>by
 dsimp only at hpre hK ⊢
 obtain⟨g1,g2,g3,g4⟩:=hpre
 have hl:=pN g4
 have hl2:=List.length_take_le p.i.toNat p.l
 have ys {g:Prop} (h:g:=by first|(simp[bR];omega;done)|fail):g:=h
 have yp {g:Prop} (h:g:=by first|(rw[List.take_of_length_le (by omega)]at g4;exact g4)|fail):g:=h
 have yb {g:Prop} (h:g:=by first|(first|exact⟨g1,by omega,by omega,JD g2 g4 (by assumption) (by assumption) rfl⟩|exact⟨g1,by omega,by omega,SX g2 g4 (by assumption) (by first|assumption|exact Classical.not_not.1 (by assumption))⟩)|fail):g:=h
 have yq {g:Prop} (h:g:=by first|(refine wX [(.mk _ (.mk ..) ..)] (by first|exact sd|exact ys) ?_;exact wz)|(exact jM (.mk _ _ (.mk ..) ..))|fail):g:=h
 exact wz
structure akF where
 q:Nat→Value
 me:Int
 m:Mg
 h:Value
 l:List Int
structure akj where
 o:List Ou
theorem ae8:aA Tryz.prog 69 1 (aO (fun p:akF=>([.ptr 0 0,kB p.m.k p.m.N p.m.fr p.m.c p.m.b p.m.acc [] p.m.vn p.m.vh p.m.vl p.m.pn p.m.pl (p.m.has=true) p.m.mh p.m.ml p.m.h p.m.l p.m.th p.m.tl,.sy (.imm p.h 2 Int p.l am)],(.node .leaf (some (sq p.q p.me)) .leaf),1)) (fun p=>p.l.length≤1000) (fun p K=>aj fun r:akj=>iP (r.o.map Ou.er=cB p.me p.m.er p.l∧r.o.length≤p.l.length) (K (.sy (.prow 1 r.o.length)) (.node (.node .leaf (some (lV r.o)) .leaf) (some (sq p.q p.me)) .leaf) 2) true)):=nF (nat:=qn) LK (dB PB) fun p K hpre hK=>by
 dsimp only at hpre hK ⊢
 have g1:=hpre
 have nnr:=trivial
 have yg {g:Prop} (h:g:=by first|(exact⟨g1,by omega,by omega,rfl⟩)|fail):g:=h
 have yp {g:Prop} (h:g:=by first|(exact⟨hi,pN hi⟩)|fail):g:=h
 have yq {g:Prop} (h:g:=by first|(refine cb (.mk _ _ (.mk ..) _ _ [] ..) (h:= ?_);exact wo)|fail):g:=h
 exact wz
noncomputable def wB:NN:=iV qn ae8 [(0,4),(1,15),(2,23)] [0,1,2,3,4,5,6,7,10,11,12,13,14,15,16,17,18,19,20]
noncomputable abbrev CQ:XC:=ub
noncomputable def ft_top':NV (fun e0 b0=>aB [e0] [] [b0] 0x42854c1c599fa48d3f9a6cad2b2f185bc65486f56ef3c76e9779289a30):=⟨_,by conv=>rhs;reduce⟩
noncomputable abbrev agq:XF:=ft_top'.1 (eB 118 33 cE) CQ
theorem LJ:aK Tryz.prog 69 agq=true:=by kernel_rfl
structure GL where
 q:Nat→Value
 me:Int
 m:Mg
 l:List Int
 o:List Ou
 i:Int
structure aaS where
 o:List Ou
noncomputable def afz:bN:=cq bT 0 (fun p:GL=>((.cons 12 (.sy (.int 0 p.i)) (.cons 11 (.sy (.int 0 (p.l.length:Int))) (.cons 10 (.sy (.prow 3 p.l.length)) (.cons 7 (.sy (.prow 2 p.o.length)) (.cons 4 (.ptr 1 0) (.cons 0 (.ptr 0 0) .nil)))))),(.node (.node (.node .leaf (some (aE p.l)) .leaf) (some (Ff p.m.k p.m.N p.m.fr p.m.c p.m.b p.m.acc [] p.m.vn p.m.vh p.m.vl p.m.pn p.m.pl (p.m.has=true) p.m.mh p.m.ml p.m.h p.m.l p.m.th p.m.tl)) .leaf) (some (sq p.q p.me)) (.node .leaf (some (lV p.o)) .leaf)),4)) (fun p=>p.l.length≤1000∧0≤p.i∧p.i≤(p.l.length:Int)∧p.o.map Ou.er=cB p.me p.m.er (p.l.take p.i.toNat)) (fun p K=>aj fun r:aaS=>iP (r.o.map Ou.er=cB p.me p.m.er p.l) (K 2 (.cons 7 (.sy (.prow 1 r.o.length)) .nil) (.node (.node .leaf (some (lV r.o)) .leaf) (some (sq p.q p.me)) .leaf) 2) true)
theorem PA:bj Tryz.prog 30 1 afz true 0 CQ:=lL (nat:=wB) (fun p:GL=>((p.l.length:Int) - p.i).toNat) cy (fun _ _ _ _=>rfl) fun p K hpre hK=>by
 dsimp only at hpre hK ⊢
 obtain⟨g1,g2,g3,g4⟩:=hpre
 have hl:=pN g4
 have hl2:=List.length_take_le p.i.toNat p.l
 have ys {g:Prop} (h:g:=by first|(simp[bR];omega;done)|fail):g:=h
 have yp {g:Prop} (h:g:=by first|(rw[List.take_of_length_le (by omega)]at g4;exact g4)|fail):g:=h
 have yb {g:Prop} (h:g:=by first|(first|exact⟨g1,by omega,by omega,JD g2 g4 (by assumption) (by assumption) rfl⟩|exact⟨g1,by omega,by omega,SX g2 g4 (by assumption) (by first|assumption|exact Classical.not_not.1 (by assumption))⟩)|fail):g:=h
 have yq {g:Prop} (h:g:=by first|(refine wX [(.mk _ (.mk ..) ..)] (by first|exact sd|exact ys) ?_;exact wz)|(exact jM (.mk _ _ (.mk ..) ..))|fail):g:=h
 exact wz
structure akE where
 q:Nat→Value
 me:Int
 m:Mg
 l:List Int
structure aki where
 o:List Ou
theorem ae7:aA Tryz.prog 69 1 (aO (fun p:akE=>([.ptr 0 0,kB p.m.k p.m.N p.m.fr p.m.c p.m.b p.m.acc [] p.m.vn p.m.vh p.m.vl p.m.pn p.m.pl (p.m.has=true) p.m.mh p.m.ml p.m.h p.m.l p.m.th p.m.tl,.sy (.prow 1 p.l.length)],(.node (.node .leaf (some (aE p.l)) .leaf) (some (sq p.q p.me)) .leaf),2)) (fun p=>p.l.length≤1000) (fun p K=>aj fun r:aki=>iP (r.o.map Ou.er=cB p.me p.m.er p.l∧r.o.length≤p.l.length) (K (.sy (.prow 1 r.o.length)) (.node (.node .leaf (some (lV r.o)) .leaf) (some (sq p.q p.me)) .leaf) 2) true)):=nF (nat:=wB) LJ (dB PA) fun p K hpre hK=>by
 dsimp only at hpre hK ⊢
 have g1:=hpre
 have nnr:=trivial
 have yg {g:Prop} (h:g:=by first|(exact⟨g1,by omega,by omega,rfl⟩)|fail):g:=h
 have yp {g:Prop} (h:g:=by first|(exact⟨hi,pN hi⟩)|fail):g:=h
 have yq {g:Prop} (h:g:=by first|(refine cb (.mk _ _ (.mk ..) _ [] ..) (h:= ?_);exact wo)|fail):g:=h
 exact wz
noncomputable def wy:NN:=iV wB ae7 [(0,4),(1,15),(2,25)] [0,1,2,3,4,5,6,7,10,11,12,13,14,15,16,17,18,19,20]
def bV (l:List Ke):Prop:=∀x∈l,vQ x
def UV (m:Mx):Prop:=m.b=0∧m.acc=0∧m.vn=0∧m.vl=[]∧m.pn=0∧m.pl=0∧m.has=false∧m.ml=[]∧m.tl=[]∧0<m.N∧0≤m.fr∧m.fr≤400∧0≤m.c∧m.c≤400∧m.fr+(m.l.length:Int)≤400∧bV m.l
def Dp (m:Mx):Prop:=m.c=0∧m.b=0∧m.acc=0∧m.vn=0∧m.vl=[]∧m.pn=0∧m.pl=0∧m.has=false∧m.ml=[]∧m.l=[]∧m.tl=[]∧0<m.N∧0≤m.fr∧m.fr≤400
def Nj (m:Mx):Prop:=m.fr=0∧m.c=0∧m.acc=0∧m.vn=0∧m.vl=[]∧m.pn=0∧m.pl=0∧m.has=false∧m.ml=[]∧m.l=[]∧m.tl=[]∧0<m.N∧0<m.b
def MK6 (m:Mx):Prop:=m.fr=0∧m.c=0∧m.acc=0∧m.vn=0∧m.vl=[]∧m.pn=0∧m.pl=0∧m.has=false∧m.ml=[]∧m.l=[]∧m.tl=[]∧0<m.N∧0<m.b
def MK7 (m:Mx):Prop:=m.fr=0∧m.c=0∧m.acc=0∧m.vn=0∧m.vl=[]∧m.pn=0∧m.pl=0∧m.has=false∧m.ml=[]∧m.l=[]∧m.tl=[]∧0<m.N∧0<m.b
def UU (m:Mx):Prop:=m.fr=0∧m.c=0∧m.vn=0∧m.vl=[]∧m.pn=0∧m.pl=0∧0<m.N∧0<m.b∧bV m.l∧m.l.length≤400∧bV m.tl∧m.tl.length≤400∧((m.has=true∧0<m.acc∧NL m.ml∧¬m.ml=[])∨(m.has=false∧m.acc=0∧m.ml=[]∧m.tl=[]))
def MK9 (m:Mx):Prop:=m.fr=0∧m.c=0∧m.acc=0∧m.vn=0∧m.vl=[]∧m.pn=0∧m.pl=0∧m.has=false∧m.l=[]∧0<m.N∧0<m.b∧NL m.ml∧¬m.ml=[]∧bV m.tl∧m.tl.length≤400
def JB (m:Mx):Prop:=m.N=0∧m.fr=0∧m.c=0∧m.b=0∧m.acc=0∧m.pn=0∧m.pl=0∧m.has=false∧m.ml=[]∧m.tl=[]∧0<m.vn∧NL m.vl∧¬m.vl=[]∧bV m.l∧m.l.length≤400
def Dr (m:Mx):Prop:=m.N=0∧m.fr=0∧m.c=0∧m.b=0∧m.acc=0∧m.vn=0∧m.vl=[]∧m.has=false∧m.ml=[]∧m.l=[]∧m.tl=[]∧0≤m.pn∧m.pn<8∧m.pl=1
def Dq (m:Mx):Prop:=m.N=0∧m.fr=0∧m.c=0∧m.b=0∧m.acc=0∧m.vn=0∧m.vl=[]∧m.has=false∧m.ml=[]∧m.l=[]∧m.tl=[]∧0≤m.pn∧m.pn<8∧m.pl=1
def cJ (m:Mx):Prop:=0≤m.k∧m.k≤255∧0≤m.N∧m.N<4294967296∧0≤m.b∧m.b<18446744073709551616∧0≤m.acc∧m.acc<18446744073709551616∧0≤m.vn∧m.vn<4294967296∧((m.k=3∧UV m)∨(m.k=4∧Dp m)∨(m.k=5∧Nj m)∨(m.k=6∧MK6 m)∨(m.k=7∧MK7 m)∨(m.k=8∧UU m)∨(m.k=9∧MK9 m)∨(m.k=10∧JB m)∨(m.k=11∧Dr m)∨(m.k=12∧Dq m))
theorem uT {m:Mx} (h:cJ m):3≤m.k∧m.k≤12:=by obtain⟨_,_,_,_,_,_,_,_,_,_,h⟩:=h;omega
theorem zG {m:Mx} (h:cJ m) (e:m.k=3):UV m:=by obtain⟨_,_,_,_,_,_,_,_,_,_,h⟩:=h;rcases h with h|h|h|h|h|h|h|h|h|h<;>first|exact h.2|(exfalso;have:=h.1;omega)
theorem uU {m:Mx} (h:cJ m) (e:m.k=4):Dp m:=by obtain⟨_,_,_,_,_,_,_,_,_,_,h⟩:=h;rcases h with h|h|h|h|h|h|h|h|h|h<;>first|exact h.2|(exfalso;have:=h.1;omega)
theorem HN {m:Mx} (h:cJ m) (e:m.k=5):Nj m:=by obtain⟨_,_,_,_,_,_,_,_,_,_,h⟩:=h;rcases h with h|h|h|h|h|h|h|h|h|h<;>first|exact h.2|(exfalso;have:=h.1;omega)
theorem ajR {m:Mx} (h:cJ m) (e:m.k=6):MK6 m:=by obtain⟨_,_,_,_,_,_,_,_,_,_,h⟩:=h;rcases h with h|h|h|h|h|h|h|h|h|h<;>first|exact h.2|(exfalso;have:=h.1;omega)
theorem ajQ {m:Mx} (h:cJ m) (e:m.k=7):MK7 m:=by obtain⟨_,_,_,_,_,_,_,_,_,_,h⟩:=h;rcases h with h|h|h|h|h|h|h|h|h|h<;>first|exact h.2|(exfalso;have:=h.1;omega)
theorem Um {m:Mx} (h:cJ m) (e:m.k=8):UU m:=by obtain⟨_,_,_,_,_,_,_,_,_,_,h⟩:=h;rcases h with h|h|h|h|h|h|h|h|h|h<;>first|exact h.2|(exfalso;have:=h.1;omega)
theorem zF {m:Mx} (h:cJ m) (e:m.k=9):MK9 m:=by obtain⟨_,_,_,_,_,_,_,_,_,_,h⟩:=h;rcases h with h|h|h|h|h|h|h|h|h|h<;>first|exact h.2|(exfalso;have:=h.1;omega)
theorem Br {m:Mx} (h:cJ m) (e:m.k=10):JB m:=by obtain⟨_,_,_,_,_,_,_,_,_,_,h⟩:=h;rcases h with h|h|h|h|h|h|h|h|h|h<;>first|exact h.2|(exfalso;have:=h.1;omega)
theorem uV {m:Mx} (h:cJ m) (e:m.k=11):Dr m:=by obtain⟨_,_,_,_,_,_,_,_,_,_,h⟩:=h;rcases h with h|h|h|h|h|h|h|h|h|h<;>first|exact h.2|(exfalso;have:=h.1;omega)
theorem Bp {m:Mx} (h:cJ m) (e:m.k=12):Dq m:=by obtain⟨_,_,_,_,_,_,_,_,_,_,h⟩:=h;rcases h with h|h|h|h|h|h|h|h|h|h<;>first|exact h.2|(exfalso;have:=h.1;omega)
theorem agi {has:Bool} {acc:Int} {ml:List Int} {tl:List Ke} (h:(has=true∧0<acc∧NL ml∧¬ml=[])∨(has=false∧acc=0∧ml=[]∧tl=[])) (e:has=true):0<acc∧NL ml∧¬ml=[]∧ml.length≤8:=by
 rcases h with h|h
 ·exact⟨h.2.1,h.2.2.1,h.2.2.2,ah h.2.2.1⟩
 ·rw[e]at h;exact absurd h.1 (by simp)
theorem aj4 {has:Bool} {acc:Int} {ml:List Int} {tl:List Ke} (h:(has=true∧0<acc∧NL ml∧¬ml=[])∨(has=false∧acc=0∧ml=[]∧tl=[])) (e:¬has=true):acc=0∧ml.length=0∧tl.length=0∧has=false:=by
 rcases h with h|h
 ·exact absurd h.1 e
 ·exact⟨h.2.1,by rw[h.2.2.1];rfl,by rw[h.2.2.2];rfl,h.1⟩
noncomputable def alS (us:List AV) (a c:Nat):Nat:=match bS us a with
 |some (.agg l)=>match bS l c with
  |some (.int _ (.ofNat z))=>z
  |_=>999
 |_=>999
noncomputable def bd_l_vright1':NV (df [] [] [] 0x72d62fd0182039feab9eabb24800ec00d0b2358b0f82e79c28c345b9ea2e06097f7fb58cd963055c6a0347f9dfbfc03c78a9571e64683aeafe38e7512d54a05db24acee7c9505):=⟨_,by conv=>rhs;reduce⟩
noncomputable abbrev qR:XC:=bd_l_vright1'.1
noncomputable def ft_vright1':NV (fun b0=>aB [] [] [b0] 0x2e23cd444dee8140396f1ba419bc1150cc44206e2ccc1eec8787c3192182caea88a3455c5ede9142c34acbf2ed046d2193c4ad1e8540482520a176589d178b6145de78853496fed514ee4c9):=⟨_,by conv=>rhs;reduce⟩
noncomputable abbrev Iq:XF:=ft_vright1'.1 qR
theorem zi:aK Tryz.prog 58 Iq=true:=by kernel_rfl
structure sM where
 mh:Value
 m:List Int
 b0:Prop
 b1:Prop
 b2:Prop
 b3:Prop
 b4:Prop
 b5:Prop
 b6:Prop
 b7:Prop
 i:Int
noncomputable def HW:bN:=cq bT 0 (fun p:sM=>((.cons 29 (.sy (.int 0 p.i)) (.cons 28 (.sy (.int 0 (p.m.length:Int))) (.cons 27 (.sy (.imm p.mh 2 Int p.m am)) (.cons 3 (.ptr 0 0) .nil)))),(.node .leaf (some (o_F p.b0 p.b1 p.b2 p.b3 p.b4 p.b5 p.b6 p.b7)) .leaf),1)) (fun p=>NL p.m∧¬p.m=[]∧0≤p.i∧p.i≤(p.m.length:Int)∧(p.b0↔(0:Int)∈p.m.take p.i.toNat)∧(p.b1↔(1:Int)∈p.m.take p.i.toNat)∧(p.b2↔(2:Int)∈p.m.take p.i.toNat)∧(p.b3↔(3:Int)∈p.m.take p.i.toNat)∧(p.b4↔(4:Int)∈p.m.take p.i.toNat)∧(p.b5↔(5:Int)∈p.m.take p.i.toNat)∧(p.b6↔(6:Int)∈p.m.take p.i.toNat)∧(p.b7↔(7:Int)∈p.m.take p.i.toNat)) (fun p K=>K 2 .nil .leaf 0)
theorem BG:bj Tryz.prog 46 0 HW true 0 qR:=lL (nat:=wy) (fun p:sM=>((p.m.length:Int) - p.i).toNat) cy (fun _ _ _ _=>rfl) fun p K hpre hK=>by
 dsimp only at hpre hK ⊢
 obtain⟨h0,h1,g1,g2,g3⟩:=hpre
 have hl:=ah h0
 have ys {g:Prop} (h:g:=by first|(have hx:=Uc h0 hi;omega)|fail):g:=h
 have yd {g:Prop} (h:g:=by first|(exfalso;have hn:=wx h0.1 hi;simp_all;done)|fail):g:=h
 have yb {g:Prop} (h:g:=by first|(refine⟨h0,h1,by omega,by omega,?_⟩;rw[show(p.i+1).toNat=p.i.toNat+1 by omega];rw[List.take_add_one,hi];simp only[Option.toList,List.mem_append,List.mem_singleton,g3];simp_all)|fail):g:=h
 exact wz
structure Np where
 mh:Value
 m:List Int
theorem HE:aA Tryz.prog 58 0 (aO (fun p:Np=>([.agg [.int 1 (.ofNat 0),.int 3 (.ofNat 1),.sy (.imm p.mh 2 Int p.m am)]],.leaf,0)) (fun p=>NL p.m∧¬p.m=[]) (fun p K=>K (.bool true) .leaf 0)):=nF (nat:=wy) zi (dB BG) fun p K hpre hK=>by
 dsimp only at hpre hK ⊢
 obtain⟨h0,h1⟩:=hpre
 have hl:=ah h0
 have hm:=List.length_pos_iff.2 h1
 have yd {g:Prop} (h:g:=by first|(exfalso;omega)|fail):g:=h
 have yg {g:Prop} (h:g:=by first|(exact⟨h0,h1,by omega,by omega,by simp⟩)|fail):g:=h
 exact wz
noncomputable def sv:NN:=gj wy HE [(0,15)] (fun us M=>Nat.beq (alS us 0 1) 1)
noncomputable def ft_same':NV (aB [] [] [] 0x2d2a1365aa2f94ec6ea0c572e02d8cb1bd919bc6a534b407987acc29bdb59b7b89cc96eef3f5af8abb34c1f2c45d2d47a0a54a49d91f33a0a1777caa26200a06d264f929d68b7131a9bccdf8dba1c857f30d67a794403cab66d42bbad8aebe26385590):=⟨_,by conv=>rhs;reduce⟩
noncomputable abbrev Zb:XF:=ft_same'.1
theorem Ix:aK Tryz.prog 37 Zb=true:=by kernel_rfl
structure aiA where
 x:Ke
 y:Ke
theorem Xf:aA Tryz.prog 37 0 (aO (fun p:aiA=>([(AJ [] p.x.v p.x.w),AJ [] p.y.v p.y.w],.leaf,0)) (fun p=>p.x=p.y) (fun p K=>K (.bool true) .leaf 0)):=nE (nat:=sv) Ix fun p K hpre hK=>by
 dsimp only at hpre hK ⊢
 have e1:=congrArg Ke.v hpre
 have e2:=congrArg Ke.w hpre
 have yd {g:Prop} (h:g:=by first|(exfalso;omega)|fail):g:=h
 exact wz
noncomputable def tw:NN:=bY sv Xf [(0,15),(1,15)]
noncomputable def bd_l_eqf':NV (df [] [] [] 0x2b6dec765cb7838c84e4dc150f5f8433b311f885790c6b0407f517c9f1bc73b0a7deda8c13e356588692ab85ac3a1cb5eeee2194525483dac2203ce8409d):=⟨_,by conv=>rhs;reduce⟩
noncomputable abbrev CY:XC:=bd_l_eqf'.1
noncomputable def ft_eqf':NV (fun b0=>aB [] [] [b0] 0x2bfeda63b38cfe21068544ca13d8ed4025008f46d4f125bbada08a918a349452757b):=⟨_,by conv=>rhs;reduce⟩
noncomputable abbrev agw:XF:=ft_eqf'.1 CY
theorem LY:aK Tryz.prog 36 agw=true:=by kernel_rfl
structure GV where
 h1:Value
 l1:List Ke
 h2:Value
 l2:List Ke
 i:Int
noncomputable def afE:bN:=cq bT 0 (fun p:GV=>((.cons 17 (.sy (.int 0 p.i)) (.cons 16 (.sy (.int 0 (p.l1.length:Int))) (.cons 15 (.sy (.imm p.h1 18 Ke p.l1 aD)) (.cons 2 (.fn 37 []) (.cons 1 (.sy (.imm p.h2 18 Ke p.l2 aD)) .nil))))),.leaf,0)) (fun p=>p.l1=p.l2∧p.l1.length=p.l2.length∧0≤p.i∧p.i≤(p.l1.length:Int)∧p.l1.length≤1000000) (fun p K=>K 2 .nil .leaf 0)
theorem PJ:bj Tryz.prog 32 0 afE true 0 CY:=lL (nat:=tw) (fun p:GV=>((p.l1.length:Int) - p.i).toNat) cy (fun _ _ _ _=>rfl) fun p K hpre hK=>by
 dsimp only at hpre hK ⊢
 obtain⟨g5,g0,g1,g2,g3⟩:=hpre
 have nnh:=trivial
 have yg {g:Prop} (h:g:=by first|(rw[g5]at hi1;exact amp (hi1.symm.trans hi))|fail):g:=h
 have yb {g:Prop} (h:g:=by first|(exact⟨g5,g0,by omega,by omega,g3⟩)|fail):g:=h
 exact wz
structure akV where
 h1:Value
 l1:List Ke
 h2:Value
 l2:List Ke
theorem afd:aA Tryz.prog 36 0 (aO (fun p:akV=>([.sy (.imm p.h1 18 Ke p.l1 aD),.sy (.imm p.h2 18 Ke p.l2 aD),.fn 37 []],.leaf,0)) (fun p=>p.l1=p.l2∧p.l1.length≤1000000) (fun p K=>K (.bool true) .leaf 0)):=nF (nat:=tw) LY (dB PJ) fun p K hpre hK=>by
 dsimp only at hpre hK ⊢
 obtain⟨u1,u2⟩:=hpre
 have u3:=congrArg List.length u1
 have yd {g:Prop} (h:g:=by first|(exfalso;omega)|fail):g:=h
 have yg {g:Prop} (h:g:=by first|(exact⟨u1,by omega,by omega,by omega,by omega⟩)|fail):g:=h
 exact wz
noncomputable def wH:NN:=bY tw afd [(0,23),(1,23)]
noncomputable def bd_l_all':NV (df [] [] [] 0xce2dfa5c0b0e57d9d63809b8e6e18b7f2f355704ecbc33f5a92334389be0635c823681):=⟨_,by conv=>rhs;reduce⟩
noncomputable abbrev Da:XC:=bd_l_all'.1
noncomputable def ft_allG':NV (fun b0=>aB [] [] [b0] 0x82c27c54442ec3817591e70b48c47090fcc0):=⟨_,by conv=>rhs;reduce⟩
noncomputable abbrev Zx:XF:=ft_allG'.1 Da
theorem IQ:aK Tryz.prog 183 Zx=true:=by kernel_rfl
structure GX where
 h:Value
 l:List Ke
 i:Int
noncomputable def Yn:bN:=cq bT 0 (fun p:GX=>((.cons 8 (.sy (.int 0 p.i)) (.cons 7 (.sy (.int 0 (p.l.length:Int))) (.cons 1 (.fn 181 [.ptr 0 0]) (.cons 0 (.sy (.imm p.h 18 Ke p.l aD)) .nil)))),(.node .leaf (some (Ua)) .leaf),1)) (fun p=>bV p.l∧p.l.length≤400∧0≤p.i∧p.i≤(p.l.length:Int)) (fun p K=>K 2 .nil (.node .leaf (some (Ua)) .leaf) 1)
theorem PM:bj Tryz.prog 19 1 Yn true 0 Da:=lL (nat:=wH) (fun p:GX=>((p.l.length:Int) - p.i).toNat) cy (fun _ _ _ _=>rfl) fun p K hpre hK=>by
 dsimp only at hpre hK ⊢
 obtain⟨g0,g1,g2,g3⟩:=hpre
 have nnx:=trivial
 have yd {g:Prop} (h:g:=by first|(exfalso;omega)|fail):g:=h
 have yb {g:Prop} (h:g:=by first|(exact⟨g0,g1,by omega,by omega⟩)|fail):g:=h
 have yj {g:Prop} (h:g:=by first|(obtain⟨k1,k2,k3⟩:=g0 x1 (List.mem_of_getElem? (by assumption));exact wz)|fail):g:=h
 exact wz
structure ajf where
 h:Value
 l:List Ke
theorem XW:aA Tryz.prog 183 1 (aO (fun p:ajf=>([.sy (.imm p.h 18 Ke p.l aD),.fn 181 [.ptr 0 0]],(.node .leaf (some (Ua)) .leaf),1)) (fun p=>bV p.l∧p.l.length≤400) (fun p K=>K (.int 0 (.negSucc 0)) (.node .leaf (some (Ua)) .leaf) 1)):=nF (nat:=wH) IQ (dB PM) fun p K hpre hK=>by
 dsimp only at hpre hK ⊢
 obtain⟨u1,u2⟩:=hpre
 have yg {g:Prop} (h:g:=by first|(exact⟨u1,u2,by omega,by omega⟩)|fail):g:=h
 exact wz
noncomputable def Be:NN:=bY wH XW [(0,23)]
noncomputable def ft_rightG':NV (aB [] [] [] 0x2d352c1f8e4ae8175cdb0cab6411b2b0bfd9ec407139772154985a37ea8c9cb287beae8856a68f3e47167):=⟨_,by conv=>rhs;reduce⟩
noncomputable abbrev LM:XF:=ft_rightG'.1
theorem Ce:aK Tryz.prog 108 LM=true:=by kernel_rfl
structure Su where
 m:Mg
theorem Kx:aA Tryz.prog 108 0 (aO (fun p:Su=>([kB p.m.k p.m.N p.m.fr p.m.c p.m.b p.m.acc [] p.m.vn p.m.vh p.m.vl p.m.pn p.m.pl (p.m.has=true) p.m.mh p.m.ml p.m.h p.m.l p.m.th p.m.tl],.leaf,0)) (fun p=>cJ p.m.er) (fun p K=>K (.bool true) .leaf 0)):=nE (nat:=Be) Ce fun p K hpre hK=>by
 dsimp only at hpre hK ⊢
 have hm:=hpre
 have hk:=uT hm
 dsimp only[Mg.er]at hk
 have nnq:=trivial
 have yd {g:Prop} (h:g:=by first|(exfalso;first|omega|contradiction|(exact absurd (by assumption:p.m.has=true) (by first|(simp[*];done)|fail))|simp_all;done)|(exfalso;omega)|fail):g:=h
 have yg {g:Prop} (h:g:=by first|(exact⟨by assumption,by omega⟩)|(first|exact⟨rfl,by omega⟩|exact⟨by assumption,by omega⟩)|(first|omega|assumption|contradiction|(have hq:=ah (hi).2;omega))|(refine⟨?_,?_⟩<;>first|assumption|omega)|(refine⟨?_,?_,?_⟩<;>first|assumption|omega)|fail):g:=h
 have yw {g:Prop} (h:g:=by first|(have q_:=zG hm hc;obtain⟨z_b,z_acc,z_vn,z_vl,z_pn,z_pl,z_has,z_ml,z_tl,c_0,c_1,c_2,c_3,c_4,c_5,c_6⟩:=q_;dsimp only[Mg.er]at z_b z_acc z_vn z_vl z_pn z_pl z_has z_ml z_tl c_0 c_1 c_2 c_3 c_4 c_5 c_6;have e_vl:=congrArg List.length z_vl;simp only[al5]at e_vl;have e_ml:=congrArg List.length z_ml;simp only[al5]at e_ml;have e_tl:=congrArg List.length z_tl;simp only[al5]at e_tl;exact wz)|(have q_:=uU hm hc;obtain⟨z_c,z_b,z_acc,z_vn,z_vl,z_pn,z_pl,z_has,z_ml,z_l,z_tl,c_0,c_1,c_2⟩:=q_;dsimp only[Mg.er]at z_c z_b z_acc z_vn z_vl z_pn z_pl z_has z_ml z_l z_tl c_0 c_1 c_2;have e_vl:=congrArg List.length z_vl;simp only[al5]at e_vl;have e_ml:=congrArg List.length z_ml;simp only[al5]at e_ml;have e_l:=congrArg List.length z_l;simp only[al5]at e_l;have e_tl:=congrArg List.length z_tl;simp only[al5]at e_tl;exact wz)|(have q_:=HN hm hc;obtain⟨z_fr,z_c,z_acc,z_vn,z_vl,z_pn,z_pl,z_has,z_ml,z_l,z_tl,c_0,c_1⟩:=q_;dsimp only[Mg.er]at z_fr z_c z_acc z_vn z_vl z_pn z_pl z_has z_ml z_l z_tl c_0 c_1;have e_vl:=congrArg List.length z_vl;simp only[al5]at e_vl;have e_ml:=congrArg List.length z_ml;simp only[al5]at e_ml;have e_l:=congrArg List.length z_l;simp only[al5]at e_l;have e_tl:=congrArg List.length z_tl;simp only[al5]at e_tl;exact wz)|(have q_:=ajR hm hc;obtain⟨z_fr,z_c,z_acc,z_vn,z_vl,z_pn,z_pl,z_has,z_ml,z_l,z_tl,c_0,c_1⟩:=q_;dsimp only[Mg.er]at z_fr z_c z_acc z_vn z_vl z_pn z_pl z_has z_ml z_l z_tl c_0 c_1;have e_vl:=congrArg List.length z_vl;simp only[al5]at e_vl;have e_ml:=congrArg List.length z_ml;simp only[al5]at e_ml;have e_l:=congrArg List.length z_l;simp only[al5]at e_l;have e_tl:=congrArg List.length z_tl;simp only[al5]at e_tl;exact wz)|(have q_:=ajQ hm hc;obtain⟨z_fr,z_c,z_acc,z_vn,z_vl,z_pn,z_pl,z_has,z_ml,z_l,z_tl,c_0,c_1⟩:=q_;dsimp only[Mg.er]at z_fr z_c z_acc z_vn z_vl z_pn z_pl z_has z_ml z_l z_tl c_0 c_1;have e_vl:=congrArg List.length z_vl;simp only[al5]at e_vl;have e_ml:=congrArg List.length z_ml;simp only[al5]at e_ml;have e_l:=congrArg List.length z_l;simp only[al5]at e_l;have e_tl:=congrArg List.length z_tl;simp only[al5]at e_tl;exact wz)|(have q_:=Um hm hc;obtain⟨z_fr,z_c,z_vn,z_vl,z_pn,z_pl,c_0,c_1,c_2,c_3,c_4,c_5,c_6⟩:=q_;dsimp only[Mg.er]at z_fr z_c z_vn z_vl z_pn z_pl c_0 c_1 c_2 c_3 c_4 c_5 c_6;have e_vl:=congrArg List.length z_vl;simp only[al5]at e_vl;exact wz)|(have n_:=aj4 c_6 (by first|assumption|exact Classical.not_not.1 (by assumption)|contradiction);obtain⟨j_1,j_2,j_3,j_4⟩:=n_;exact wz)|(have n_:=agi c_6 (by first|assumption|exact Classical.not_not.1 (by assumption)|contradiction);obtain⟨j_1,j_2,j_3,j_4⟩:=n_;exact wz)|(have q_:=zF hm hc;obtain⟨z_fr,z_c,z_acc,z_vn,z_vl,z_pn,z_pl,z_has,z_l,c_0,c_1,c_2,c_3,c_4,c_5⟩:=q_;dsimp only[Mg.er]at z_fr z_c z_acc z_vn z_vl z_pn z_pl z_has z_l c_0 c_1 c_2 c_3 c_4 c_5;have n_:=ah c_2;have e_vl:=congrArg List.length z_vl;simp only[al5]at e_vl;have e_l:=congrArg List.length z_l;simp only[al5]at e_l;exact wz)|(have q_:=Br hm hc;obtain⟨z_N,z_fr,z_c,z_b,z_acc,z_pn,z_pl,z_has,z_ml,z_tl,c_0,c_1,c_2,c_3,c_4⟩:=q_;dsimp only[Mg.er]at z_N z_fr z_c z_b z_acc z_pn z_pl z_has z_ml z_tl c_0 c_1 c_2 c_3 c_4;have n_:=ah c_1;have e_ml:=congrArg List.length z_ml;simp only[al5]at e_ml;have e_tl:=congrArg List.length z_tl;simp only[al5]at e_tl;exact wz)|(have q_:=uV hm hc;obtain⟨z_N,z_fr,z_c,z_b,z_acc,z_vn,z_vl,z_has,z_ml,z_l,z_tl,c_0,c_1,c_2⟩:=q_;dsimp only[Mg.er]at z_N z_fr z_c z_b z_acc z_vn z_vl z_has z_ml z_l z_tl c_0 c_1 c_2;have e_vl:=congrArg List.length z_vl;simp only[al5]at e_vl;have e_ml:=congrArg List.length z_ml;simp only[al5]at e_ml;have e_l:=congrArg List.length z_l;simp only[al5]at e_l;have e_tl:=congrArg List.length z_tl;simp only[al5]at e_tl;exact wz)|(have q_:=Bp hm hc;obtain⟨z_N,z_fr,z_c,z_b,z_acc,z_vn,z_vl,z_has,z_ml,z_l,z_tl,c_0,c_1,c_2⟩:=q_;dsimp only[Mg.er]at z_N z_fr z_c z_b z_acc z_vn z_vl z_has z_ml z_l z_tl c_0 c_1 c_2;have e_vl:=congrArg List.length z_vl;simp only[al5]at e_vl;have e_ml:=congrArg List.length z_ml;simp only[al5]at e_ml;have e_l:=congrArg List.length z_l;simp only[al5]at e_l;have e_tl:=congrArg List.length z_tl;simp only[al5]at e_tl;exact wz)|fail):g:=h
 exact wz
noncomputable def uG:NN:=bY Be Kx [(0,15)]
structure Vw where
 n:Int
 h:Value
 l:List Int
def agQ (x:Vw):List PL:=[.int 1 (.ofNat 0),.sint 3 x.n,.imm x.h 2 Int x.l am]
noncomputable abbrev iy (x0:List Vw):AObj:=.prow 45 3 Vw x0 agQ
structure Si where
 N:Int
 mh:Value
 m:List Int
 rh:Value
 log:List Ke
 ba:Int
 com:Int
 sh:Bool
 hs:List (Int×Int)
 prm:Int
 aa:Int
 avh:Value
 av:List Int
 ath:Value
 atl:List Ke
 sa:Int
 me:Int
 th:Value
 met:List Int
 su:List Int
 jo:List Int
 go:List Int
 wa:Bool
 se:Int
 ro:Int
 tr:Int
 wh:Value
 was:List Ke
 be:List Vw
 wc:Int
structure So where
 me:Int
 th:Value
 met:List Int
 su:List Int
 jo:List Int
 go:List Int
 wa:Bool
 se:Int
 ro:Int
 tr:Int
 wh:Value
 was:List Ke
 be:List Vw
 wc:Int
structure Qi where
 b:Int
 ph:Int
 gt:List Int
 best:Int
 hh:Value
 held:Option Vl
 qh:Value
 qth:Value
 qt:List Ke
 cmh:Value
 cm:List Int
 cth:Value
 ct:List Ke
structure Pq where
 b:Int
 ph:Int
 gt:List Int
 best:Int
 held:Option (List Int×List Ke)
 qt:List Ke
 ch:List Int×List Ke
structure St where
 N:Int
 m:List Int
 log:List Ke
 ba:Int
 com:Int
 sh:Bool
 hs:List (Int×Int)
 prm:Int
 aa:Int
 av:List Int×List Ke
 q:Option Pq
 sa:Int
 me:Int
 met:List Int
 su:List Int
 jo:List Int
 go:List Int
 wa:Bool
 se:Int
 ro:Int
 tr:Int
 was:List Ke
 wc:Int
def Qi.er (q:Qi):Pq:=⟨q.b,q.ph,q.gt,q.best,q.held.map Vl.er,q.qt,(q.cm,q.ct)⟩
def Si.er (s:Si) (q:Option Pq):St:=⟨s.N,s.m,s.log,s.ba,s.com,s.sh,s.hs,s.prm,s.aa,(s.av,s.atl),q,s.sa,s.me,s.met,s.su,s.jo,s.go,s.wa,s.se,s.ro,s.tr,s.was,s.wc⟩
def So.er (s:So):St:=⟨0,[],[],0,0,false,[],0,0,([],[]),none,0,s.me,s.met,s.su,s.jo,s.go,s.wa,s.se,s.ro,s.tr,s.was,s.wc⟩
def vp (s:St):Prop:=(s.m.find? fun p=>decide (¬(p∈s.su∨p∈s.go)))=some s.me
def gq (now:Int) (s:St):Prop:=s.sh=true∧s.sa≤now∧12+6*(s.m.idxOf s.me:Int)≤now - s.sa
def fp (now:Int) (s:St):Prop:=s.tr≤now∧(gq now s∨(¬bK s.m s.su s.jo s.go=s.m∧vp s))
def aF (k:Int):Mx:=⟨k,0,0,0,0,0,0,[],0,0,false,[],[],[]⟩
def BW (s:St):Mx:={aF 10 with vn:=s.N,vl:=s.m,l:=s.log.take s.ba.toNat}
structure bz (s:St):Prop where
 r:ROk s.m s.me s.log s.ba s.com s.hs
 n0:0<s.N
 n1:s.N<4294967295
 se:s.se=s.N
 su:NL s.su
 jo:NL s.jo
 go:NL s.go
 met:NL s.met
 log:bV s.log
 was:bV s.was
 wasl:s.was.length≤400
 sa0:0≤s.sa
 sa1:s.sa≤1000000000
 tr0:0≤s.tr
 tr1:s.tr≤1000000100
 ro0:0≤s.ro
 ro1:s.ro<4294967296
 prm0:0≤s.prm
 prm1:s.prm<18446744073709551616
 aa0:0≤s.aa
 aa1:s.aa<18446744073709551616
 av:s.av.1.length≤8∧s.av.2.length≤400
 avk:¬s.aa=0→NL s.av.1∧¬s.av.1=[]∧bV s.av.2
noncomputable def Sn (s:Si) (r:Si) (a:Si) (k0:Nat) (k1:Nat) (k2:Nat) (k3:Nat) (k4:Nat):T:=(.node (.node (.node (.node .leaf (some (bu r.log)) .leaf) (some (aE s.su)) .leaf) (some (ce r.N r.rh r.m r.me 7 k4 r.ba r.com (r.sh=true) 8)) (.node .leaf (some (aE s.go)) .leaf)) (some (Fe s.N s.mh s.m 1 2 s.sa s.me s.th s.met 3 k0 4 k1 5 k2 (s.wa=true) s.se s.ro s.tr s.wh s.was 6 k3 s.wc)) (.node (.node (.node .leaf (some (.kmap true true false (Int×Int) r.hs aX aW)) .leaf) (some (aE s.jo)) .leaf) (some (eX a.prm a.aa a.avh a.av a.ath a.atl)) (.node .leaf (some (iy s.be)) .leaf)))
noncomputable def dv (s:Si) (r:Si) (a:Si):T:=Sn s r a s.su.length s.jo.length s.go.length s.be.length r.log.length
noncomputable def vJ (s:Si) (r:Si) (a:Si) (o:List Ou) (k0:Nat) (k1:Nat) (k2:Nat) (k3:Nat) (k4:Nat):T:=(.node (.node (.node (.node .leaf (some (iy s.be)) .leaf) (some (eX a.prm a.aa a.avh a.av a.ath a.atl)) .leaf) (some (lV o)) (.node (.node .leaf (some (.kmap true true false (Int×Int) r.hs aX aW)) .leaf) (some (aE s.jo)) .leaf)) (some (Fe s.N s.mh s.m 2 3 s.sa s.me s.th s.met 4 k0 5 k1 6 k2 (s.wa=true) s.se s.ro s.tr s.wh s.was 7 k3 s.wc)) (.node (.node (.node .leaf (some (bu r.log)) .leaf) (some (aE s.su)) .leaf) (some (ce r.N r.rh r.m r.me 8 k4 r.ba r.com (r.sh=true) 9)) (.node .leaf (some (aE s.go)) .leaf)))
noncomputable def fQ (s:Si) (r:Si) (a:Si) (o:List Ou):T:=vJ s r a o s.su.length s.jo.length s.go.length s.be.length r.log.length
noncomputable def Sq (s:Si) (r:Si) (a:Si) (w:Si) (v:Qi) (k0:Nat) (k1:Nat) (k2:Nat) (k3:Nat) (k4:Nat):T:=(.node (.node (.node (.node .leaf (some (iy s.be)) .leaf) (some (.blk false 161 11 [[.int 1 (.ofNat 0),.sy (.int 3 w.N),.sy (.imm v.qh 2 Int w.m am),.sy (.int 4 v.b),.sy (.int 0 v.ph),.map 10,.sy (.int 4 v.best),.sy (.vl v.hh true Vl v.held cO),.sy (.imm v.qth 18 Ke v.qt aD),.sy (.imm v.cmh 2 Int v.cm am),.sy (.imm v.cth 18 Ke v.ct aD)]])) .leaf) (some (ce r.N r.rh r.m r.me 8 k4 r.ba r.com (r.sh=true) 9)) (.node (.node .leaf (some (.kmap true true false (Int×Int) r.hs aX aW)) .leaf) (some (aE s.jo)) .leaf)) (some (qf s.N s.mh s.m 1 2 3 s.sa s.me s.th s.met 4 k0 5 k1 6 k2 (s.wa=true) s.se s.ro s.tr s.wh s.was 7 k3 s.wc)) (.node (.node (.node .leaf (some (bu r.log)) .leaf) (some (aE s.su)) .leaf) (some (eX a.prm a.aa a.avh a.av a.ath a.atl)) (.node (.node .leaf (some (.kmap true true false Int v.gt am cF)) .leaf) (some (aE s.go)) .leaf)))
noncomputable def du (s:Si) (r:Si) (a:Si) (w:Si) (v:Qi):T:=Sq s r a w v s.su.length s.jo.length s.go.length s.be.length r.log.length
noncomputable def vI (s:Si) (r:Si) (a:Si) (w:Si) (v:Qi) (o:List Ou) (k0:Nat) (k1:Nat) (k2:Nat) (k3:Nat) (k4:Nat):T:=(.node (.node (.node (.node .leaf (some (aE s.go)) .leaf) (some (eX a.prm a.aa a.avh a.av a.ath a.atl)) (.node .leaf (some (.kmap true true false Int v.gt am cF)) .leaf)) (some (lV o)) (.node (.node .leaf (some (bu r.log)) .leaf) (some (aE s.su)) .leaf)) (some (qf s.N s.mh s.m 2 3 4 s.sa s.me s.th s.met 5 k0 6 k1 7 k2 (s.wa=true) s.se s.ro s.tr s.wh s.was 8 k3 s.wc)) (.node (.node (.node .leaf (some (iy s.be)) .leaf) (some (.blk false 161 11 [[.int 1 (.ofNat 0),.sy (.int 3 w.N),.sy (.imm v.qh 2 Int w.m am),.sy (.int 4 v.b),.sy (.int 0 v.ph),.map 11,.sy (.int 4 v.best),.sy (.vl v.hh true Vl v.held cO),.sy (.imm v.qth 18 Ke v.qt aD),.sy (.imm v.cmh 2 Int v.cm am),.sy (.imm v.cth 18 Ke v.ct aD)]])) .leaf) (some (ce r.N r.rh r.m r.me 9 k4 r.ba r.com (r.sh=true) 10)) (.node (.node .leaf (some (.kmap true true false (Int×Int) r.hs aX aW)) .leaf) (some (aE s.jo)) .leaf)))
noncomputable def gU (s:Si) (r:Si) (a:Si) (w:Si) (v:Qi) (o:List Ou):T:=vI s r a w v o s.su.length s.jo.length s.go.length s.be.length r.log.length
noncomputable def Sz (s:So) (k0:Nat) (k1:Nat) (k2:Nat) (k3:Nat):T:=(.node (.node (.node .leaf (some (aE s.go)) .leaf) (some (aE s.su)) .leaf) (some (.blk false 86 21 [[.int 1 (.ofNat 0),.int 3 (.ofNat 0),.nilS,.nilP,.nilP,.nilP,.int 0 (.ofNat 0),.int 1 (.ofNat 0),.sy (.int 1 s.me),.int 2 (.ofNat 1),.sy (.imm s.th 2 Int s.met am),.sy (.prow 1 k0),.sy (.prow 2 k1),.sy (.prow 3 k2),.sy (.bool (s.wa=true)),.sy (.int 3 s.se),.sy (.int 3 s.ro),.sy (.int 0 s.tr),.sy (.imm s.wh 18 Ke s.was aD),.sy (.prow 4 k3),.sy (.int 0 s.wc)]])) (.node (.node .leaf (some (iy s.be)) .leaf) (some (aE s.jo)) .leaf))
noncomputable def di (s:So):T:=Sz s s.su.length s.jo.length s.go.length s.be.length
noncomputable def vH (s:So) (o:List Ou) (k0:Nat) (k1:Nat) (k2:Nat) (k3:Nat):T:=(.node (.node (.node .leaf (some (aE s.jo)) .leaf) (some (lV o)) (.node .leaf (some (iy s.be)) .leaf)) (some (.blk false 86 21 [[.int 1 (.ofNat 0),.int 3 (.ofNat 0),.nilS,.nilP,.nilP,.nilP,.int 0 (.ofNat 0),.int 1 (.ofNat 0),.sy (.int 1 s.me),.int 2 (.ofNat 1),.sy (.imm s.th 2 Int s.met am),.sy (.prow 2 k0),.sy (.prow 3 k1),.sy (.prow 4 k2),.sy (.bool (s.wa=true)),.sy (.int 3 s.se),.sy (.int 3 s.ro),.sy (.int 0 s.tr),.sy (.imm s.wh 18 Ke s.was aD),.sy (.prow 5 k3),.sy (.int 0 s.wc)]])) (.node (.node .leaf (some (aE s.go)) .leaf) (some (aE s.su)) .leaf))
noncomputable def jv (s:So) (o:List Ou):T:=vH s o s.su.length s.jo.length s.go.length s.be.length
theorem ni {m su go:List Int} {x z:Int} (h: -1≤z∧(z<0→∀x∈m,¬(¬(x∈su∨x∈go)))∧(0≤z→0≤z∧z<(m.length:Int)∧(∀x∈m.take z.toNat,¬(¬(x∈su∨x∈go)))∧∀x,m[z.toNat]?=some x→¬(x∈su∨x∈go))) (hz:0≤z) (hx:m[z.toNat]?=some x):(m.find? fun p=>decide (¬(p∈su∨p∈go)))=some x:=by
 obtain⟨_,h2,h3,h4⟩:=h.2.2 hz
 have hlt:=(List.getElem?_eq_some_iff.1 hx).1
 have e:m=m.take z.toNat++x::m.drop (z.toNat+1):=by rw[←(List.getElem?_eq_some_iff.1 hx).2,List.getElem_cons_drop,List.take_append_drop]
 have hn:(m.take z.toNat).find? (fun p=>decide (¬(p∈su∨p∈go)))=none:=List.find?_eq_none.2 fun y hy=>by simpa using h3 y hy
 rw[e,List.find?_append,hn,Option.none_or,List.find?_cons_of_pos (by simpa using h4 x hx)]
theorem Cq {m su go:List Int} {z:Int} (h: -1≤z∧(z<0→∀x∈m,¬(¬(x∈su∨x∈go)))∧(0≤z→0≤z∧z<(m.length:Int)∧(∀x∈m.take z.toNat,¬(¬(x∈su∨x∈go)))∧∀x,m[z.toNat]?=some x→¬(x∈su∨x∈go))) (hz:¬0≤z):(m.find? fun p=>decide (¬(p∈su∨p∈go)))=none:=
 List.find?_eq_none.2 fun y hy=>by simpa using h.2.1 (by omega) y hy
theorem aek {now:Int} {s:St} (h:¬s.tr≤now):(false=true)↔fp now s:=⟨fun h=>by simp at h,fun q=>absurd q.1 h⟩
theorem alg {now:Int} {s:St} (h:s.tr≤now) (w:gq now s):(true=true)↔fp now s:=⟨fun _=>⟨h,.inl w⟩,fun _=>rfl⟩
theorem alh {now:Int} {s:St} {z:Prop} (h:s.tr≤now) (hw:¬gq now s) (w:¬bK s.m s.su s.jo s.go=s.m) (f:z↔vp s):z↔fp now s:=⟨fun q=>⟨h,.inr ⟨w,f.1 q⟩⟩,fun q=>f.2 (q.2.resolve_left hw).2⟩
theorem aej {now:Int} {s:St} (hw:¬gq now s) (h:bK s.m s.su s.jo s.go=s.m):(false=true)↔fp now s:=⟨fun h=>by simp at h,fun q=>(q.2.elim hw fun w=>w.1 h).elim⟩
theorem abZ {now:Int} {s:St} (h:gq now s):(true=true)↔gq now s:=⟨fun _=>h,fun _=>rfl⟩
theorem ajj {now:Int} {s:St} (h:¬gq now s):(false=true)↔gq now s:=⟨fun h=>by simp at h,fun q=>absurd q h⟩
noncomputable def ft_firstG':NV (aB [] [] [] 0x3259cc8ac97268e3ff7cc6da4f718ffd723c4be9eb563e8a9f47ca9fcde1e077694022957891d938addc28b229414e198fae3f98):=⟨_,by conv=>rhs;reduce⟩
noncomputable abbrev LX:XF:=ft_firstG'.1
theorem Ci:aK Tryz.prog 99 LX=true:=by kernel_rfl
structure SC where
 q:Nat→Value
 mh:Value
 m:List Int
 me:Int
 susp:List Int
 going:List Int
structure RU where
 z:Prop
theorem KF:aA Tryz.prog 99 3 (aO (fun p:SC=>([.ptr 0 0],(.node (.node .leaf (some (aE p.susp)) .leaf) (some (AK p.q p.mh p.m p.me 1 p.susp.length 2 p.going.length)) (.node .leaf (some (aE p.going)) .leaf)),3)) (fun p=>p.m.length≤8∧p.susp.length≤8∧p.going.length≤8) (fun p K=>aj fun r:RU=>iP (r.z↔(p.m.find? fun y=>decide (¬(y∈p.susp∨y∈p.going)))=some p.me) (K (.sy (.bool r.z)) (.node (.node .leaf (some (aE p.susp)) .leaf) (some (AK p.q p.mh p.m p.me 1 p.susp.length 2 p.going.length)) (.node .leaf (some (aE p.going)) .leaf)) 3) true)):=nE (nat:=uG) Ci fun p K hpre hK=>by
 dsimp only at hpre hK ⊢
 obtain⟨h1,h2,h3⟩:=hpre
 have nnh:=trivial
 have yg {g:Prop} (h:g:=by first|(first|assumption|exact⟨by omega,by omega,by omega⟩)|fail):g:=h
 have yp {g:Prop} (h:g:=by first|(first|exact⟨fun _=>by rw[←(by assumption:_=p.me)];exact ni hi1 (by assumption) (by assumption),fun _=>rfl⟩|exact⟨fun h=>by simp at h,fun h=>by rw[ni hi1 (by assumption) (by assumption)]at h;exact absurd (amp h) (by assumption)⟩|exact⟨fun h=>by simp at h,fun h=>by rw[Cq hi1 (by assumption)]at h;cases h⟩)|(first|exact⟨fun _=>by rw[←(by assumption:_=p.me)];exact ni hi (by assumption) (by assumption),fun _=>rfl⟩|exact⟨fun h=>by simp at h,fun h=>by rw[ni hi (by assumption) (by assumption)]at h;exact absurd (amp h) (by assumption)⟩|exact⟨fun h=>by simp at h,fun h=>by rw[Cq hi (by assumption)]at h;cases h⟩)|fail):g:=h
 exact wz
noncomputable def uK:NN:=iV uG KF [(0,4)] [1,3,4,5,6,10,12,14,15,16,17,18,19,20]
noncomputable def ft_wearyG':NV (aB [] [] [] 0xf90da2eec23a968c29a5c7326a27e8ef1fdb9ba1fd69822b6e03c7934894993f0c825cf7c6fed91fee8b0f15d413ae217ccabf915781df8ff41968dd69d875ce6f):=⟨_,by conv=>rhs;reduce⟩
noncomputable abbrev LH:XF:=ft_wearyG'.1
theorem Cb:aK Tryz.prog 97 LH=true:=by kernel_rfl
structure Sp where
 q:Nat→Value
 s:Si
 now:Int
structure Rw where
 z:Prop
theorem Kt:aA Tryz.prog 97 4 (aO (fun p:Sp=>([.ptr 0 0,.sy (.int 0 p.now)],(.node (.node (.node .leaf (some (.kmap true true false (Int×Int) p.s.hs aX aW)) .leaf) (some (ce p.s.N p.s.rh p.s.m p.s.me 2 p.s.log.length p.s.ba p.s.com (p.s.sh=true) 3)) .leaf) (some (o_v p.s.N p.s.mh p.s.m p.q p.s.sa p.s.me)) (.node .leaf (some (bu p.s.log)) .leaf)),4)) (fun p=>bz (p.s.er none)∧0≤p.now∧p.now≤1000000000) (fun p K=>aj fun r:Rw=>iP (r.z↔gq p.now (p.s.er none)) (K (.sy (.bool r.z)) (.node (.node (.node .leaf (some (.kmap true true false (Int×Int) p.s.hs aX aW)) .leaf) (some (ce p.s.N p.s.rh p.s.m p.s.me 2 p.s.log.length p.s.ba p.s.com (p.s.sh=true) 3)) .leaf) (some (o_v p.s.N p.s.mh p.s.m p.q p.s.sa p.s.me)) (.node .leaf (some (bu p.s.log)) .leaf)) 4) true)):=nE (nat:=uK) Cb fun p K hpre hK=>by
 dsimp only at hpre hK ⊢
 obtain⟨hs,g1,g2⟩:=hpre
 have g3:=hs.sa0
 have g4:=hs.sa1
 have hm:=ah hs.r.nl
 have g5:=hs.r.nl
 have g6:=List.ne_nil_of_mem hs.r.me
 have g7:=hs.n0
 have g8:=hs.n1
 have g9:=ah hs.su
 have g10:=ah hs.go
 have g11:=ah hs.jo
 have g12:=hs.jo.2
 have g13:=hs.tr0
 have g14:=hs.tr1
 dsimp only[Si.er]at g3 g4 hm g5 g6 g7 g8 g9 g10 g11 g12 g13 g14
 have nnr:=trivial
 have yp {g:Prop} (h:g:=by first|(have e:=hi.2.2.1 hs.r.me;first|exact⟨fun q=>⟨Classical.not_not.1 (by assumption:¬¬p.s.sh=true),(by assumption:p.s.sa≤p.now),(by show 12+6*((p.s.m.idxOf p.s.me:Nat):Int)≤p.now - p.s.sa;omega)⟩,fun w=>by have w2:12+6*((p.s.m.idxOf p.s.me:Nat):Int)≤p.now - p.s.sa:=w.2.2;omega⟩|exact abZ (s:=p.s.er none) ⟨Classical.not_not.1 (by assumption:¬¬p.s.sh=true),(by assumption:p.s.sa≤p.now),(by show 12+6*((p.s.m.idxOf p.s.me:Nat):Int)≤p.now - p.s.sa;omega)⟩|exact ajj (s:=p.s.er none) (now:=p.now) (by intro w;have w1:=w.1;have w2:=w.2;(try dsimp only[Si.er]at w1 w2);first|omega|exact(by assumption:¬¬¬p.s.sh=true) (fun h=>h w1)))|fail):g:=h
 exact wz
end Go.Proofs.Tryz
