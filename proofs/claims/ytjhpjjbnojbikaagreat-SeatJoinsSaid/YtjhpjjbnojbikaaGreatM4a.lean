/- Definitions and lemmas of the proof, without a condition of their own. -/
import Derived.Test.YtjhpjjbnojbikaaGreatM3
import Derived.KernelRfl
set_option linter.unusedSimpArgs false
set_option linter.unusedVariables false
open List renaming eq_nil_of_length_eq_zero→akG,length_append→akk,length_cons→akl,length_drop→akJ,length_map→akm,length_nil→akn,length_take→akA,map_append→aky
open Nat renaming le_refl→akB
open Option.some renaming inj→akH
namespace Go.Proofs.Tryz
open Go Go.RowKit Go.Sy
open Go.Eng hiding aj
set_option maxRecDepth 1000000
set_option linter.unusedVariables false
set_option maxHeartbeats 4000000
attribute [local irreducible] aq
def Vl.er (v:Vl):List Int×List Ke:=(v.m,v.t)
def kV (m:List Int) (ph:Int) (gt:List Int) (best:Int) (held:Option (List Int×List Ke)) (qt:List Ke) (x:Int) (l:List Ke) (acc:Int) (v:List Int×List Ke) (has:Bool):List Int×Int×Option (List Int×List Ke)×List Ke:=
 if ph=0∧x∈m∧¬x∈gt then (gt++[x],(if has=true∧(held=none∨best<acc) then acc else best),(if has=true∧(held=none∨best<acc) then some v else held),(if qt.length<l.length then l else qt)) else (gt,best,held,qt)
theorem Ag {m:List Int} {ph:Int} {gt g2:List Int} {best:Int} {held:Option (List Int×List Ke)} {qt:List Ke} {x:Int} {l:List Ke} {acc:Int} {v:List Int×List Ke} {has:Bool} (h:¬(ph=0∧x∈m∧¬x∈gt)) (hg:g2=fw m ph gt x 0):(g2,best,held,qt)=kV m ph gt best held qt x l acc v has:=by
 unfold fw at hg
 rw[if_neg h]at hg
 unfold kV
 rw[if_neg h,hg]
theorem vS {m:List Int} {ph:Int} {gt g2:List Int} {best b2:Int} {held h2:Option (List Int×List Ke)} {qt q2:List Ke} {x:Int} {l:List Ke} {acc:Int} {v:List Int×List Ke} {has:Bool} (h:ph=0∧x∈m∧¬x∈gt) (hg:g2=fw m ph gt x 0)
  (hb:((has=true∧(held=none∨best<acc))∧b2=acc∧h2=some v)∨(¬(has=true∧(held=none∨best<acc))∧b2=best∧h2=held)) (hq:(qt.length<l.length∧q2=l)∨(¬qt.length<l.length∧q2=qt)):(g2,b2,h2,q2)=kV m ph gt best held qt x l acc v has:=by
 unfold fw at hg
 rw[if_pos h]at hg
 unfold kV
 rw[if_pos h,hg]
 rcases hb with⟨e1,e2,e3⟩|⟨e1,e2,e3⟩<;>rcases hq with⟨e4,e5⟩|⟨e4,e5⟩<;>simp only[e1,e2,e3,e4,e5,and_self,if_true,if_false]
theorem BE {has:Bool} {best acc:Int} {held:Option Vl} {w:Vl} {vm:List Int} {vt:List Ke} (h1:has=true) (h2:held=none∨best<acc) (hv:w.m=vm∧w.t=vt):((has=true∧(held.map Vl.er=none∨best<acc))∧acc=acc∧(some w).map Vl.er=some (vm,vt))∨(¬(has=true∧(held.map Vl.er=none∨best<acc))∧acc=best∧(some w).map Vl.er=held.map Vl.er):=
 .inl ⟨⟨h1,h2.imp (fun h=>by rw[h];rfl) id⟩,rfl,by rw[←hv.1,←hv.2];rfl⟩
theorem HC {has:Bool} {best acc:Int} {held:Option Vl} {vm:List Int} {vt:List Ke} (h:¬(has=true∧(held=none∨best<acc))):((has=true∧(held.map Vl.er=none∨best<acc))∧best=acc∧held.map Vl.er=some (vm,vt))∨(¬(has=true∧(held.map Vl.er=none∨best<acc))∧best=best∧held.map Vl.er=held.map Vl.er):=
 .inr ⟨fun q=>h ⟨q.1,q.2.imp (fun e=>by cases held with|none=>rfl|some _=>cases e) id⟩,rfl,rfl⟩
noncomputable def ft_promG':NV (fun e0=>aA [e0] [] [] 0x514595d14fd530d23151768f7892ee211282a3382835afa8c4369255a2560d829dbbf057088a30aaf3ba0551a1e2bfcbfe60ae6d5886accde4fcd08e892168c154a3b4810e6466509b170c26c4865120f7414fe809668f8c29b0):=⟨_,by conv=>rhs;reduce⟩
noncomputable abbrev Pt:XF:=ft_promG'.1 (eJ cK)
theorem Dx:aK Tryz.prog 105 Pt=true:=by kernel_rfl
structure aaj where
 N:Int
 qh:Value
 m:List Int
 b:Int
 ph:Int
 gt:List Int
 best:Int
 hh:Value
 held:Option Vl
 qth:Value
 qt:List Ke
 cmh:Value
 cm:List Int
 cth:Value
 ct:List Ke
 x:Int
 h:Value
 l:List Ke
 acc:Int
 vmh:Value
 vm:List Int
 vth:Value
 vt:List Ke
 has:Bool
structure Zo where
 gt:List Int
 best:Int
 hh:Value
 held:Option Vl
 qth:Value
 qt:List Ke
theorem NO:aB Tryz.prog 105 1 (aO (fun p:aaj=>([.ptr 0 0,eu p.x,.sy (.imm p.h 18 Ke p.l aF),.sy (.int 4 p.acc),ED p.vmh p.vm p.vth p.vt,.sy (.bool (p.has=true))],(.node (.node .leaf (some (.kmap true true false Int p.gt am cC)) .leaf) (some (.blk false 161 11 [[.int 1 (.ofNat 0),.sy (.int 3 p.N),.sy (.imm p.qh 2 Int p.m am),.sy (.int 4 p.b),.sy (.int 0 p.ph),.map 1,.sy (.int 4 p.best),.sy (.vl p.hh true Vl p.held cK),.sy (.imm p.qth 18 Ke p.qt aF),.sy (.imm p.cmh 2 Int p.cm am),.sy (.imm p.cth 18 Ke p.ct aF)]])) .leaf),2)) (fun p=>QOk p.m p.ph p.gt p.held p.qt p.cm p.ct∧p.l.length≤400∧p.vm.length≤1000∧p.vt.length≤400) (fun p K=>aj fun r:Zo=>iP ((r.gt,r.best,r.held.map Vl.er,r.qt)=kV p.m p.ph p.gt p.best (p.held.map Vl.er) p.qt p.x p.l p.acc (p.vm,p.vt) p.has) (K (.tup []) (.node (.node .leaf (some (.kmap true true false Int r.gt am cC)) .leaf) (some (.blk false 161 11 [[.int 1 (.ofNat 0),.sy (.int 3 p.N),.sy (.imm p.qh 2 Int p.m am),.sy (.int 4 p.b),.sy (.int 0 p.ph),.map 1,.sy (.int 4 r.best),.sy (.vl r.hh true Vl r.held cK),.sy (.imm r.qth 18 Ke r.qt aF),.sy (.imm p.cmh 2 Int p.cm am),.sy (.imm p.cth 18 Ke p.ct aF)]])) .leaf) 2) true)):=nE (nat:=uB) Dx fun p K hpre hK=>by
 dsimp only at hpre hK ⊢
 obtain⟨hq,g1,g2,g3⟩:=hpre
 have hm:=ah hq.nl
 have g4:=hq.qt
 have nnx:=trivial
 have nnh:=trivial
 have nnq:=trivial
 have yg {g:Prop} (h:g:=by first|(first|(constructor<;>omega)|(have e:=(by assumption:_∧_);rw[e.1,e.2];constructor<;>omega)|(have h3:=hq.held _ (by assumption);constructor<;>omega)|(have h3:=hq.held _ (by assumption);have e:=hi;rw[e.1,e.2];constructor<;>omega))|(first|omega|(simp only[akA,akJ];omega))|fail):g:=h
 have yp {g:Prop} (h:g:=by first|(first|exact Ag (by assumption) (hi).2|exact vS (Classical.not_not.1 (by assumption)) (hi).2 (by first|exact BE (by assumption) (by first|exact .inl (by assumption)|exact .inr (by assumption)) (by assumption)|exact HC (fun h=>by first|exact absurd h.1 (by assumption)|exact h.2.elim (fun h3=>absurd h3 (by assumption)) (fun h3=>by omega))) (by first|exact .inl ⟨by omega,(hi).1⟩|exact .inr ⟨by omega,rfl⟩))|(first|exact Ag (by assumption) (hi1).2|exact vS (Classical.not_not.1 (by assumption)) (hi1).2 (by first|exact BE (by assumption) (by first|exact .inl (by assumption)|exact .inr (by assumption)) (by assumption)|exact HC (fun h=>by first|exact absurd h.1 (by assumption)|exact h.2.elim (fun h3=>absurd h3 (by assumption)) (fun h3=>by omega))) (by first|exact .inl ⟨by omega,(hi).1⟩|exact .inr ⟨by omega,rfl⟩))|(first|exact Ag (by assumption) (hi1).2|exact vS (Classical.not_not.1 (by assumption)) (hi1).2 (by first|exact BE (by assumption) (by first|exact .inl (by assumption)|exact .inr (by assumption)) (by assumption)|exact HC (fun h=>by first|exact absurd h.1 (by assumption)|exact h.2.elim (fun x1=>absurd x1 (by assumption)) (fun x1=>by omega))) (by first|exact .inl ⟨by omega,(hi).1⟩|exact .inr ⟨by omega,rfl⟩))|fail):g:=h
 have yq {g:Prop} (h:g:=by first|(refine wX (.mk ..) (by first|exact sd|exact ys) ?_;exact wz)|fail):g:=h
 exact wz
noncomputable def xM:NN:=bW uB NO [(0,4),(1,15),(2,23),(3,20),(4,15),(5,21)]
def ed (held:Option (List Int×List Ke)) (wish:List Int) (qt:List Ke):List Int×List Ke:=match held with
 |some v=>v
 |none=>(wish,qt)
def ez (m:List Int) (ph:Int) (gt:List Int) (x:Int):Int×List Int:=(if (ph=1∧x∈m∧¬x∈gt)∧(m.length:Int) / 2+1≤((fw m ph gt x 1).length:Int) then 2 else ph,fw m ph gt x 1)
theorem Za {m:List Int} {ph:Int} {gt g2:List Int} {x:Int} (h:ph=1∧x∈m∧¬x∈gt) (hg:g2=fw m ph gt x 1) (hm:(m.length:Int) / 2+1≤(g2.length:Int)):((2:Int),g2)=ez m ph gt x:=by
 subst hg
 unfold ez
 rw[if_pos ⟨h,hm⟩]
theorem agh {m:List Int} {ph:Int} {gt g2:List Int} {x:Int} (hg:g2=fw m ph gt x 1) (hm:¬(ph=1∧x∈m∧¬x∈gt)∨¬(m.length:Int) / 2+1≤(g2.length:Int)):(ph,g2)=ez m ph gt x:=by
 subst hg
 unfold ez
 rw[if_neg fun h=>hm.elim (fun q=>q h.1) (fun q=>q h.2)]
theorem adg {held:Option Vl} {wish:List Int} {qt:List Ke} {cm:List Int} {ct:List Ke} (h:held=none) (e:cm=wish∧ct=qt):(cm,ct)=ed (held.map Vl.er) wish qt:=by rw[h,e.1,e.2];rfl
theorem Vb {held:Option Vl} {wish:List Int} {qt:List Ke} {v:Vl} (h:held=some v):(v.m,v.t)=ed (held.map Vl.er) wish qt:=by rw[h];rfl
noncomputable def ft_prpG':NV (fun e0=>aA [e0] [] [] 0x328e944dab399de8fc4a4417bf83f4f46f3d15095067e0d21a8ac0ec7df48f2590512a8ba1fc379d2c653cc2ab6832764a22f4072c9f7edbd6af150402e36dd310e4a069518eba3b3224ef7b04534b8ffe06d15494e4a7420890882ffa):=⟨_,by conv=>rhs;reduce⟩
noncomputable abbrev XI:XF:=ft_prpG'.1 (eJ cK)
theorem HS:aK Tryz.prog 133 XI=true:=by kernel_rfl
structure ahf where
 N:Int
 qh:Value
 m:List Int
 b:Int
 ph:Int
 gt:List Int
 best:Int
 hh:Value
 held:Option Vl
 qth:Value
 qt:List Ke
 cmh:Value
 cm:List Int
 cth:Value
 ct:List Ke
 wh:Value
 wish:List Int
structure Zn where
 hh:Value
 held:Option Vl
 cmh:Value
 cm:List Int
 cth:Value
 ct:List Ke
 vmh:Value
 vm:List Int
 vth:Value
 vt:List Ke
theorem VS:aB Tryz.prog 133 1 (aO (fun p:ahf=>([.ptr 0 0,.sy (.imm p.wh 2 Int p.wish am)],(.node (.node .leaf (some (.kmap true true false Int p.gt am cC)) .leaf) (some (.blk false 161 11 [[.int 1 (.ofNat 0),.sy (.int 3 p.N),.sy (.imm p.qh 2 Int p.m am),.sy (.int 4 p.b),.sy (.int 0 p.ph),.map 1,.sy (.int 4 p.best),.sy (.vl p.hh true Vl p.held cK),.sy (.imm p.qth 18 Ke p.qt aF),.sy (.imm p.cmh 2 Int p.cm am),.sy (.imm p.cth 18 Ke p.ct aF)]])) .leaf),2)) (fun p=>QOk p.m p.ph p.gt p.held p.qt p.cm p.ct∧p.wish.length≤1000) (fun p K=>ac (iP (¬(p.ph=0∧(p.m.length:Int) / 2+1≤(p.gt.length:Int))) (K (.tup [.agg [.nilS,.nilS],.bool false]) (.node (.node .leaf (some (.kmap true true false Int p.gt am cC)) .leaf) (some (.blk false 161 11 [[.int 1 (.ofNat 0),.sy (.int 3 p.N),.sy (.imm p.qh 2 Int p.m am),.sy (.int 4 p.b),.sy (.int 0 p.ph),.map 1,.sy (.int 4 p.best),.sy (.vl p.hh true Vl p.held cK),.sy (.imm p.qth 18 Ke p.qt aF),.sy (.imm p.cmh 2 Int p.cm am),.sy (.imm p.cth 18 Ke p.ct aF)]])) .leaf) 2) true) (aj fun r:Zn=>iP ((p.ph=0∧(p.m.length:Int) / 2+1≤(p.gt.length:Int))∧r.held=p.held∧(r.cm,r.ct)=ed (p.held.map Vl.er) p.wish p.qt∧r.vm=r.cm∧r.vt=r.ct) (K (.tup [(ED r.vmh r.vm r.vth r.vt),.bool true]) (.node (.node .leaf (some (.kmap true true false Int ([]:List Int) am cC)) .leaf) (some (.blk false 161 11 [[.int 1 (.ofNat 0),.sy (.int 3 p.N),.sy (.imm p.qh 2 Int p.m am),.sy (.int 4 p.b),.sy (.int 0 (1:Int)),.map 1,.sy (.int 4 p.best),.sy (.vl r.hh true Vl r.held cK),.sy (.imm p.qth 18 Ke p.qt aF),.sy (.imm r.cmh 2 Int r.cm am),.sy (.imm r.cth 18 Ke r.ct aF)]])) .leaf) 2) true))):=nE (nat:=xM) HS fun p K hpre hK=>by
 dsimp only at hpre hK ⊢
 obtain⟨hK0,hKr0⟩:=ae hK
 have hK1:=hKr0
 obtain⟨hq,g1⟩:=hpre
 have hm:=ah hq.nl
 have hne:=List.length_pos_iff.2 hq.ne
 have g4:=hq.qt
 have ht:Int.tdiv (p.m.length:Int) 2=(p.m.length:Int) / 2:=Int.tdiv_eq_ediv_of_nonneg (by omega)
 have nnx:=trivial
 have nnr:=trivial
 have ys {g:Prop} (h:g:=by first|(decide)|(simp only[mP,ht];omega;done)|fail):g:=h
 have yg {g:Prop} (h:g:=by first|(first|(constructor<;>omega)|(have e:=(by assumption:_∧_);rw[e.1,e.2];constructor<;>omega)|(have h3:=hq.held _ (by assumption);constructor<;>omega)|(have h3:=hq.held _ (by assumption);have e:=hi;rw[e.1,e.2];constructor<;>omega))|fail):g:=h
 have yp {g:Prop} (h:g:=by first|(intro h;omega)|(first|exact⟨⟨by omega,by omega⟩,(by assumption:p.held=none).symm,adg (by assumption) (by assumption),(hi).1,(hi).2⟩|exact⟨⟨by omega,by omega⟩,(by assumption:p.held=some _).symm,Vb (by assumption),(hi).1,(hi).2⟩)|fail):g:=h
 have yq {g:Prop} (h:g:=by first|(refine wX ⟨x1.mh,x1.m,x1.th,x1.t⟩ (by first|exact sd|exact ys) ?_;exact wz)|fail):g:=h
 exact wz
noncomputable def Az:NN:=bW xM VS [(0,4),(1,23)]
noncomputable def ft_acdG':NV (aA [] [] [] 0x978c3caaf6b13442ef96b5e0a06eac0126959542ef416bc4617145d592067a2e4a4c9167e011e59308a):=⟨_,by conv=>rhs;reduce⟩
noncomputable abbrev Yi:XF:=ft_acdG'.1
theorem Ij:aK Tryz.prog 118 Yi=true:=by kernel_rfl
structure ahU where
 N:Int
 qh:Value
 m:List Int
 b:Int
 ph:Int
 gt:List Int
 best:Int
 hh:Value
 held:Option Vl
 qth:Value
 qt:List Ke
 cmh:Value
 cm:List Int
 cth:Value
 ct:List Ke
 x:Int
structure ag5 where
 q:Prop
 ph:Int
 gt:List Int
theorem WH:aB Tryz.prog 118 1 (aO (fun p:ahU=>([.ptr 0 0,eu p.x],(.node (.node .leaf (some (.kmap true true false Int p.gt am cC)) .leaf) (some (.blk false 161 11 [[.int 1 (.ofNat 0),.sy (.int 3 p.N),.sy (.imm p.qh 2 Int p.m am),.sy (.int 4 p.b),.sy (.int 0 p.ph),.map 1,.sy (.int 4 p.best),.sy (.vl p.hh true Vl p.held cK),.sy (.imm p.qth 18 Ke p.qt aF),.sy (.imm p.cmh 2 Int p.cm am),.sy (.imm p.cth 18 Ke p.ct aF)]])) .leaf),2)) (fun p=>QOk p.m p.ph p.gt p.held p.qt p.cm p.ct) (fun p K=>aj fun r:ag5=>iP ((r.ph,r.gt)=ez p.m p.ph p.gt p.x) (K (.sy (.bool r.q)) (.node (.node .leaf (some (.kmap true true false Int r.gt am cC)) .leaf) (some (.blk false 161 11 [[.int 1 (.ofNat 0),.sy (.int 3 p.N),.sy (.imm p.qh 2 Int p.m am),.sy (.int 4 p.b),.sy (.int 0 r.ph),.map 1,.sy (.int 4 p.best),.sy (.vl p.hh true Vl p.held cK),.sy (.imm p.qth 18 Ke p.qt aF),.sy (.imm p.cmh 2 Int p.cm am),.sy (.imm p.cth 18 Ke p.ct aF)]])) .leaf) 2) true)):=nE (nat:=Az) Ij fun p K hpre hK=>by
 dsimp only at hpre hK ⊢
 have hq:=hpre
 have hm:=ah hq.nl
 have hne:=List.length_pos_iff.2 hq.ne
 have ht:Int.tdiv (p.m.length:Int) 2=(p.m.length:Int) / 2:=Int.tdiv_eq_ediv_of_nonneg (by omega)
 have nnq:=trivial
 have ys {g:Prop} (h:g:=by first|(decide)|(simp only[mP,ht];omega;done)|fail):g:=h
 have yp {g:Prop} (h:g:=by first|(first|exact Za (by assumption) (hi).2 (by rw[←ht];omega)|exact agh (hi).2 (by first|exact .inl (by assumption)|exact .inr (by rw[←ht];omega)))|fail):g:=h
 exact wz
noncomputable def AI:NN:=bW Az WH [(0,4),(1,15)]
noncomputable def ft_prepA':NV (aA [] [] [] 0x36f2f6c73454ccd579056e87b5bcaac00e7bb1632a75d948a783b4ef2b4941ededc43f1bc):=⟨_,by conv=>rhs;reduce⟩
noncomputable abbrev Pv:XF:=ft_prepA'.1
theorem Dz:aK Tryz.prog 102 Pv=true:=by kernel_rfl
structure aal where
 prm:Int
 aa:Int
 avh:Value
 av:List Int
 ath:Value
 atl:List Ke
 b:Int
theorem NQ:aB Tryz.prog 102 1 (aO (fun p:aal=>([.ptr 0 0,.sy (.int 4 p.b)],(.node .leaf (some (eL p.prm p.aa p.avh p.av p.ath p.atl)) .leaf),1)) (fun _=>True) (fun p K=>ac (iP (p.b=0∨p.b<p.prm) (K (.bool false) (.node .leaf (some (eL p.prm p.aa p.avh p.av p.ath p.atl)) .leaf) 1) true) (iP (¬p.b=0∧p.prm≤p.b) (K (.bool true) (.node .leaf (some (eL p.b p.aa p.avh p.av p.ath p.atl)) .leaf) 1) true))):=nE (nat:=AI) Dz fun p K hpre hK=>by
 dsimp only at hpre hK ⊢
 obtain⟨hK0,hKr0⟩:=ae hK
 have hK1:=hKr0
 have yp {g:Prop} (h:g:=by first|(first|exact .inl (by assumption)|exact .inr (by assumption))|(exact⟨by omega,by omega⟩)|fail):g:=h
 exact wz
noncomputable def xO:NN:=bW AI NQ [(0,4),(1,20)]
noncomputable def ft_acptG':NV (aA [] [] [] 0x5301dd6f298acc417557acabb724fe06834c32b6028fc5b622bef70d94200af70a02b756bb):=⟨_,by conv=>rhs;reduce⟩
noncomputable abbrev PT:XF:=ft_acptG'.1
theorem DT:aK Tryz.prog 134 PT=true:=by kernel_rfl
structure aaI where
 prm:Int
 aa:Int
 avh:Value
 av:List Int
 ath:Value
 atl:List Ke
 b:Int
 vmh:Value
 vm:List Int
 vth:Value
 vt:List Ke
structure Rh where
 avh:Value
 av:List Int
 ath:Value
 atl:List Ke
theorem Ol:aB Tryz.prog 134 1 (aO (fun p:aaI=>([.ptr 0 0,.sy (.int 4 p.b),ED p.vmh p.vm p.vth p.vt],(.node .leaf (some (eL p.prm p.aa p.avh p.av p.ath p.atl)) .leaf),1)) (fun p=>p.vm.length≤1000000∧p.vt.length≤1000000) (fun p K=>ac (iP (p.b=0∨p.b<p.prm) (K (.bool false) (.node .leaf (some (eL p.prm p.aa p.avh p.av p.ath p.atl)) .leaf) 1) true) (aj fun r:Rh=>iP ((¬p.b=0∧p.prm≤p.b)∧r.av=p.vm∧r.atl=p.vt) (K (.bool true) (.node .leaf (some (eL p.b p.b r.avh r.av r.ath r.atl)) .leaf) 1) true))):=nE (nat:=xO) DT fun p K hpre hK=>by
 dsimp only at hpre hK ⊢
 obtain⟨hK0,hKr0⟩:=ae hK
 have hK1:=hKr0
 obtain⟨h1,h2⟩:=hpre
 have nnr:=trivial
 have yg {g:Prop} (h:g:=by first|(first|(constructor<;>omega)|(have e:=(by assumption:_∧_);rw[e.1,e.2];constructor<;>omega)|(have h3:=hq.held _ (by assumption);constructor<;>omega)|(have h3:=hq.held _ (by assumption);have e:=hi;rw[e.1,e.2];constructor<;>omega))|fail):g:=h
 have yp {g:Prop} (h:g:=by first|(exact⟨by assumption,(hi).1,(hi).2⟩)|fail):g:=h
 exact wz
noncomputable def yh:NN:=bW xO Ol [(0,4),(1,20),(2,15)]
noncomputable def ft_heldG':NV (aA [] [] [] 0x7f101b457e552de9694ccf4aace0f4ba0ce350cf0063feac01816938101d742adc95b8466fc56794f5c757dcedad4136782f86ddaaa679):=⟨_,by conv=>rhs;reduce⟩
noncomputable abbrev PE:XF:=ft_heldG'.1
theorem DI:aK Tryz.prog 104 PE=true:=by kernel_rfl
structure aat where
 prm:Int
 aa:Int
 avh:Value
 av:List Int
 ath:Value
 atl:List Ke
structure QQ where
 vmh:Value
 vm:List Int
 vth:Value
 vt:List Ke
theorem NY:aB Tryz.prog 104 1 (aO (fun p:aat=>([.ptr 0 0],(.node .leaf (some (eL p.prm p.aa p.avh p.av p.ath p.atl)) .leaf),1)) (fun p=>p.av.length≤1000000∧p.atl.length≤1000000) (fun p K=>ac (iP (p.aa=0) (K (.tup [.int 4 (.ofNat 0),.agg [.nilS,.nilS],.bool false]) (.node .leaf (some (eL p.prm p.aa p.avh p.av p.ath p.atl)) .leaf) 1) true) (aj fun r:QQ=>iP (¬p.aa=0∧r.vm=p.av∧r.vt=p.atl) (K (.tup [.sy (.int 4 p.aa),ED r.vmh r.vm r.vth r.vt,.bool true]) (.node .leaf (some (eL p.prm p.aa p.avh p.av p.ath p.atl)) .leaf) 1) true))):=nE (nat:=yh) DI fun p K hpre hK=>by
 dsimp only at hpre hK ⊢
 obtain⟨hK0,hKr0⟩:=ae hK
 have hK1:=hKr0
 obtain⟨h1,h2⟩:=hpre
 have nnr:=trivial
 have yg {g:Prop} (h:g:=by first|(first|(constructor<;>omega)|(have e:=(by assumption:_∧_);rw[e.1,e.2];constructor<;>omega)|(have h3:=hq.held _ (by assumption);constructor<;>omega)|(have h3:=hq.held _ (by assumption);have e:=hi;rw[e.1,e.2];constructor<;>omega))|fail):g:=h
 have yp {g:Prop} (h:g:=by first|(exact⟨by assumption,(hi).1,(hi).2⟩)|fail):g:=h
 exact wz
noncomputable def pR:NN:=bW yh NY [(0,4)]
structure Mx where
 k:Int
 N:Int
 fr:Int
 c:Int
 b:Int
 acc:Int
 vn:Int
 vl:List Int
 pn:Int
 pl:Int
 has:Bool
 ml:List Int
 l:List Ke
 tl:List Ke
structure Mg where
 k:Int
 N:Int
 fr:Int
 c:Int
 b:Int
 acc:Int
 vn:Int
 vh:Value
 vl:List Int
 pn:Int
 pl:Int
 has:Bool
 mh:Value
 ml:List Int
 h:Value
 l:List Ke
 th:Value
 tl:List Ke
def Mg.er (m:Mg):Mx:=⟨m.k,m.N,m.fr,m.c,m.b,m.acc,m.vn,m.vl,m.pn,m.pl,m.has,m.ml,m.l,m.tl⟩
structure Ou where
 to:Int
 m:Mg
def Ou.er (x:Ou):Int×Mx:=(x.to,x.m.er)
def cB (x:Ou):List PL:=[.sint 1 x.to,.int 2 (.ofNat 1),.sint 1 x.m.k,.int 1 (.ofNat 0),.int 1 (.ofNat 0),.sint 3 x.m.N,.sint 3 x.m.fr,.sint 3 x.m.c,.int 3 (.ofNat 0),.sint 4 x.m.b,.sint 4 x.m.acc,.int 1 (.ofNat 0),.int 2 (.ofNat 0),.int 3 (.ofNat 0),.int 1 (.ofNat 0),.int 1 (.ofNat 0),.int 1 (.ofNat 0),.int 1 (.ofNat 0),.int 1 (.ofNat 0),.int 1 (.ofNat 0),.int 1 (.ofNat 0),.nilS,.int 1 (.ofNat 0),.str [],.int 1 (.ofNat 0),.sint 3 x.m.vn,.imm x.m.vh 2 Int x.m.vl am,.sint 1 x.m.pn,.sint 2 x.m.pl,.sbool (x.m.has=true),.imm x.m.mh 2 Int x.m.ml am,.imm x.m.h 18 Ke x.m.l aF,.imm x.m.th 18 Ke x.m.tl aF]
noncomputable abbrev lm (x0:List Ou):AObj:=.prow 118 33 Ou x0 cB
def cI (me:Int) (m:Mx) (l:List Int):List (Int×Mx):=(l.filter fun p=>decide (¬p=me)).map fun p=>(p,m)
theorem IV {me x:Int} {m:Mg} {l:List Int} {i:Int} {o:List Ou} {y:Ou} (hi:0≤i) (h:o.map Ou.er=cI me m.er (l.take i.toNat)) (hx:l[i.toNat]?=some x) (hn:¬x=me) (hy:y.er=(x,m.er)):(o++[y]).map Ou.er=cI me m.er (l.take (i+1).toNat):=by
 rw[show(i+1).toNat=i.toNat+1 by omega,List.take_add_one,hx,aky,h]
 simp[cI,hn,hy]
theorem RK {me x:Int} {m:Mx} {l:List Int} {i:Int} {o:List Ou} (hi:0≤i) (h:o.map Ou.er=cI me m (l.take i.toNat)) (hx:l[i.toNat]?=some x) (hn:x=me):o.map Ou.er=cI me m (l.take (i+1).toNat):=by
 rw[show(i+1).toNat=i.toNat+1 by omega,List.take_add_one,hx,h]
 simp[cI,hn]
theorem pw {me:Int} {m:Mx} {l:List Int} {o:List Ou} (h:o.map Ou.er=cI me m l):o.length≤l.length:=by
 have:=congrArg List.length h
 simp only[akm,cI]at this
 rw[this]
 exact List.length_filter_le _ _
noncomputable def bd_l_toi':NV (cS [] [] [] 0x17df309c59bda0bbcaf97e76379c5901d6257a25a45421b9dc9b77cb9df59400930e3e642416674a1034e11fd816d89d025513a1742a0f1e1fc909c923966):=⟨_,by conv=>rhs;reduce⟩
noncomputable abbrev tQ:XC:=bd_l_toi'.1
noncomputable def ft_toi':NV (fun e0 b0=>aA [e0] [] [b0] 0x54289d95f32c6186eb99de51f71d42928961872437cff7db7261e5a7c0):=⟨_,by conv=>rhs;reduce⟩
noncomputable abbrev ae9:XF:=ft_toi'.1 (eB 118 33 cB) tQ
theorem KX:aK Tryz.prog 69 ae9=true:=by kernel_rfl
structure Gg where
 q:Nat→Value
 me:Int
 m:Mg
 h:Value
 l:List Int
 o:List Ou
 i:Int
structure Zv where
 o:List Ou
noncomputable def ael:bM:=ce bQ 0 (fun p:Gg=>((.cons 12 (.sy (.int 0 p.i)) (.cons 11 (.sy (.int 0 (p.l.length:Int))) (.cons 10 (.sy (.imm p.h 2 Int p.l am)) (.cons 7 (.sy (.prow 2 p.o.length)) (.cons 4 (.ptr 1 0) (.cons 0 (.ptr 0 0) .nil)))))),(.node (.node .leaf (some (EB p.m.k p.m.N p.m.fr p.m.c p.m.b p.m.acc [] p.m.vn p.m.vh p.m.vl p.m.pn p.m.pl (p.m.has=true) p.m.mh p.m.ml p.m.h p.m.l p.m.th p.m.tl)) .leaf) (some (rQ p.q p.me)) (.node .leaf (some (lm p.o)) .leaf)),3)) (fun p=>p.l.length≤1000∧0≤p.i∧p.i≤(p.l.length:Int)∧p.o.map Ou.er=cI p.me p.m.er (p.l.take p.i.toNat)) (fun p K=>aj fun r:Zv=>iP (r.o.map Ou.er=cI p.me p.m.er p.l) (K 2 (.cons 7 (.sy (.prow 1 r.o.length)) .nil) (.node (.node .leaf (some (lm r.o)) .leaf) (some (rQ p.q p.me)) .leaf) 2) true)
theorem OL:bg Tryz.prog 30 1 ael true 0 tQ:=lL (nat:=pR) (fun p:Gg=>((p.l.length:Int) - p.i).toNat) cq (fun _ _ _ _=>rfl) fun p K hpre hK=>by
 dsimp only at hpre hK ⊢
 obtain⟨g1,g2,g3,g4⟩:=hpre
 have hl:=pw g4
 have hl2:=List.length_take_le p.i.toNat p.l
 have ys {g:Prop} (h:g:=by first|(simp[bU];omega;done)|fail):g:=h
 have yp {g:Prop} (h:g:=by first|(rw[List.take_of_length_le (by omega)]at g4;exact g4)|fail):g:=h
 have yb {g:Prop} (h:g:=by first|(first|exact⟨g1,by omega,by omega,IV g2 g4 (by assumption) (by assumption) rfl⟩|exact⟨g1,by omega,by omega,RK g2 g4 (by assumption) (by first|assumption|exact Classical.not_not.1 (by assumption))⟩)|fail):g:=h
 have yq {g:Prop} (h:g:=by first|(refine wX [(.mk _ (.mk ..) ..)] (by first|exact sd|exact ys) ?_;exact wz)|(exact jS (.mk _ _ (.mk ..) ..))|fail):g:=h
 exact wz
structure ai7 where
 q:Nat→Value
 me:Int
 m:Mg
 h:Value
 l:List Int
structure aiL where
 o:List Ou
theorem adU:aB Tryz.prog 69 1 (aO (fun p:ai7=>([.ptr 0 0,jU p.m.k p.m.N p.m.fr p.m.c p.m.b p.m.acc [] p.m.vn p.m.vh p.m.vl p.m.pn p.m.pl (p.m.has=true) p.m.mh p.m.ml p.m.h p.m.l p.m.th p.m.tl,.sy (.imm p.h 2 Int p.l am)],(.node .leaf (some (rQ p.q p.me)) .leaf),1)) (fun p=>p.l.length≤1000) (fun p K=>aj fun r:aiL=>iP (r.o.map Ou.er=cI p.me p.m.er p.l∧r.o.length≤p.l.length) (K (.sy (.prow 1 r.o.length)) (.node (.node .leaf (some (lm r.o)) .leaf) (some (rQ p.q p.me)) .leaf) 2) true)):=nF (nat:=pR) KX (dC OL) fun p K hpre hK=>by
 dsimp only at hpre hK ⊢
 have g1:=hpre
 have nnr:=trivial
 have yg {g:Prop} (h:g:=by first|(exact⟨g1,by omega,by omega,rfl⟩)|fail):g:=h
 have yp {g:Prop} (h:g:=by first|(exact⟨hi,pw hi⟩)|fail):g:=h
 have yq {g:Prop} (h:g:=by first|(refine cn (.mk _ _ (.mk ..) _ _ [] ..) (h:= ?_);exact wo)|fail):g:=h
 exact wz
noncomputable def wj:NN:=iD pR adU [(0,4),(1,15),(2,23)] [0,1,2,3,4,5,6,7,10,11,12,13,14,15,16,17,18,19,20]
noncomputable abbrev Ct:XC:=tQ
noncomputable def ft_top':NV (fun e0 b0=>aA [e0] [] [b0] 0x54289d95f32c6186eb99de51f71d42928961872437cff7db7261e5a7c0):=⟨_,by conv=>rhs;reduce⟩
noncomputable abbrev ae8:XF:=ft_top'.1 (eB 118 33 cB) Ct
theorem KW:aK Tryz.prog 69 ae8=true:=by kernel_rfl
structure Gf where
 q:Nat→Value
 me:Int
 m:Mg
 l:List Int
 o:List Ou
 i:Int
structure Zu where
 o:List Ou
noncomputable def aek:bM:=ce bQ 0 (fun p:Gf=>((.cons 12 (.sy (.int 0 p.i)) (.cons 11 (.sy (.int 0 (p.l.length:Int))) (.cons 10 (.sy (.prow 3 p.l.length)) (.cons 7 (.sy (.prow 2 p.o.length)) (.cons 4 (.ptr 1 0) (.cons 0 (.ptr 0 0) .nil)))))),(.node (.node (.node .leaf (some (aD p.l)) .leaf) (some (EB p.m.k p.m.N p.m.fr p.m.c p.m.b p.m.acc [] p.m.vn p.m.vh p.m.vl p.m.pn p.m.pl (p.m.has=true) p.m.mh p.m.ml p.m.h p.m.l p.m.th p.m.tl)) .leaf) (some (rQ p.q p.me)) (.node .leaf (some (lm p.o)) .leaf)),4)) (fun p=>p.l.length≤1000∧0≤p.i∧p.i≤(p.l.length:Int)∧p.o.map Ou.er=cI p.me p.m.er (p.l.take p.i.toNat)) (fun p K=>aj fun r:Zu=>iP (r.o.map Ou.er=cI p.me p.m.er p.l) (K 2 (.cons 7 (.sy (.prow 1 r.o.length)) .nil) (.node (.node .leaf (some (lm r.o)) .leaf) (some (rQ p.q p.me)) .leaf) 2) true)
theorem OK:bg Tryz.prog 30 1 aek true 0 Ct:=lL (nat:=wj) (fun p:Gf=>((p.l.length:Int) - p.i).toNat) cq (fun _ _ _ _=>rfl) fun p K hpre hK=>by
 dsimp only at hpre hK ⊢
 obtain⟨g1,g2,g3,g4⟩:=hpre
 have hl:=pw g4
 have hl2:=List.length_take_le p.i.toNat p.l
 have ys {g:Prop} (h:g:=by first|(simp[bU];omega;done)|fail):g:=h
 have yp {g:Prop} (h:g:=by first|(rw[List.take_of_length_le (by omega)]at g4;exact g4)|fail):g:=h
 have yb {g:Prop} (h:g:=by first|(first|exact⟨g1,by omega,by omega,IV g2 g4 (by assumption) (by assumption) rfl⟩|exact⟨g1,by omega,by omega,RK g2 g4 (by assumption) (by first|assumption|exact Classical.not_not.1 (by assumption))⟩)|fail):g:=h
 have yq {g:Prop} (h:g:=by first|(refine wX [(.mk _ (.mk ..) ..)] (by first|exact sd|exact ys) ?_;exact wz)|(exact jS (.mk _ _ (.mk ..) ..))|fail):g:=h
 exact wz
structure ai6 where
 q:Nat→Value
 me:Int
 m:Mg
 l:List Int
structure aiK where
 o:List Ou
theorem adT:aB Tryz.prog 69 1 (aO (fun p:ai6=>([.ptr 0 0,jU p.m.k p.m.N p.m.fr p.m.c p.m.b p.m.acc [] p.m.vn p.m.vh p.m.vl p.m.pn p.m.pl (p.m.has=true) p.m.mh p.m.ml p.m.h p.m.l p.m.th p.m.tl,.sy (.prow 1 p.l.length)],(.node (.node .leaf (some (aD p.l)) .leaf) (some (rQ p.q p.me)) .leaf),2)) (fun p=>p.l.length≤1000) (fun p K=>aj fun r:aiK=>iP (r.o.map Ou.er=cI p.me p.m.er p.l∧r.o.length≤p.l.length) (K (.sy (.prow 1 r.o.length)) (.node (.node .leaf (some (lm r.o)) .leaf) (some (rQ p.q p.me)) .leaf) 2) true)):=nF (nat:=wj) KW (dC OK) fun p K hpre hK=>by
 dsimp only at hpre hK ⊢
 have g1:=hpre
 have nnr:=trivial
 have yg {g:Prop} (h:g:=by first|(exact⟨g1,by omega,by omega,rfl⟩)|fail):g:=h
 have yp {g:Prop} (h:g:=by first|(exact⟨hi,pw hi⟩)|fail):g:=h
 have yq {g:Prop} (h:g:=by first|(refine cn (.mk _ _ (.mk ..) _ [] ..) (h:= ?_);exact wo)|fail):g:=h
 exact wz
noncomputable def wi:NN:=iD wj adT [(0,4),(1,15),(2,25)] [0,1,2,3,4,5,6,7,10,11,12,13,14,15,16,17,18,19,20]
def bS (l:List Ke):Prop:=∀x∈l,vF x
def TV (m:Mx):Prop:=m.b=0∧m.acc=0∧m.vn=0∧m.vl=[]∧m.pn=0∧m.pl=0∧m.has=false∧m.ml=[]∧m.tl=[]∧0<m.N∧0≤m.fr∧m.fr≤400∧0≤m.c∧m.c≤400∧m.fr+(m.l.length:Int)≤400∧bS m.l
def CS (m:Mx):Prop:=m.c=0∧m.b=0∧m.acc=0∧m.vn=0∧m.vl=[]∧m.pn=0∧m.pl=0∧m.has=false∧m.ml=[]∧m.l=[]∧m.tl=[]∧0<m.N∧0≤m.fr∧m.fr≤400
def Ms (m:Mx):Prop:=m.fr=0∧m.c=0∧m.acc=0∧m.vn=0∧m.vl=[]∧m.pn=0∧m.pl=0∧m.has=false∧m.ml=[]∧m.l=[]∧m.tl=[]∧0<m.N∧0<m.b
def MK6 (m:Mx):Prop:=m.fr=0∧m.c=0∧m.acc=0∧m.vn=0∧m.vl=[]∧m.pn=0∧m.pl=0∧m.has=false∧m.ml=[]∧m.l=[]∧m.tl=[]∧0<m.N∧0<m.b
def MK7 (m:Mx):Prop:=m.fr=0∧m.c=0∧m.acc=0∧m.vn=0∧m.vl=[]∧m.pn=0∧m.pl=0∧m.has=false∧m.ml=[]∧m.l=[]∧m.tl=[]∧0<m.N∧0<m.b
def TU (m:Mx):Prop:=m.fr=0∧m.c=0∧m.vn=0∧m.vl=[]∧m.pn=0∧m.pl=0∧0<m.N∧0<m.b∧bS m.l∧m.l.length≤400∧bS m.tl∧m.tl.length≤400∧((m.has=true∧0<m.acc∧NL m.ml∧¬m.ml=[])∨(m.has=false∧m.acc=0∧m.ml=[]∧m.tl=[]))
def MK9 (m:Mx):Prop:=m.fr=0∧m.c=0∧m.acc=0∧m.vn=0∧m.vl=[]∧m.pn=0∧m.pl=0∧m.has=false∧m.l=[]∧0<m.N∧0<m.b∧NL m.ml∧¬m.ml=[]∧bS m.tl∧m.tl.length≤400
def IS (m:Mx):Prop:=m.N=0∧m.fr=0∧m.c=0∧m.b=0∧m.acc=0∧m.pn=0∧m.pl=0∧m.has=false∧m.ml=[]∧m.tl=[]∧0<m.vn∧NL m.vl∧¬m.vl=[]∧bS m.l∧m.l.length≤400
def CU (m:Mx):Prop:=m.N=0∧m.fr=0∧m.c=0∧m.b=0∧m.acc=0∧m.vn=0∧m.vl=[]∧m.has=false∧m.ml=[]∧m.l=[]∧m.tl=[]∧0≤m.pn∧m.pn<8∧m.pl=1
def CT (m:Mx):Prop:=m.N=0∧m.fr=0∧m.c=0∧m.b=0∧m.acc=0∧m.vn=0∧m.vl=[]∧m.has=false∧m.ml=[]∧m.l=[]∧m.tl=[]∧0≤m.pn∧m.pn<8∧m.pl=1
def cE (m:Mx):Prop:=0≤m.k∧m.k≤255∧0≤m.N∧m.N<4294967296∧0≤m.b∧m.b<18446744073709551616∧0≤m.acc∧m.acc<18446744073709551616∧0≤m.vn∧m.vn<4294967296∧((m.k=3∧TV m)∨(m.k=4∧CS m)∨(m.k=5∧Ms m)∨(m.k=6∧MK6 m)∨(m.k=7∧MK7 m)∨(m.k=8∧TU m)∨(m.k=9∧MK9 m)∨(m.k=10∧IS m)∨(m.k=11∧CU m)∨(m.k=12∧CT m))
theorem uJ {m:Mx} (h:cE m):3≤m.k∧m.k≤12:=by obtain⟨_,_,_,_,_,_,_,_,_,_,h⟩:=h;omega
theorem zr {m:Mx} (h:cE m) (e:m.k=3):TV m:=by obtain⟨_,_,_,_,_,_,_,_,_,_,h⟩:=h;rcases h with h|h|h|h|h|h|h|h|h|h<;>first|exact h.2|(exfalso;have:=h.1;omega)
theorem uK {m:Mx} (h:cE m) (e:m.k=4):CS m:=by obtain⟨_,_,_,_,_,_,_,_,_,_,h⟩:=h;rcases h with h|h|h|h|h|h|h|h|h|h<;>first|exact h.2|(exfalso;have:=h.1;omega)
theorem Hk {m:Mx} (h:cE m) (e:m.k=5):Ms m:=by obtain⟨_,_,_,_,_,_,_,_,_,_,h⟩:=h;rcases h with h|h|h|h|h|h|h|h|h|h<;>first|exact h.2|(exfalso;have:=h.1;omega)
theorem aip {m:Mx} (h:cE m) (e:m.k=6):MK6 m:=by obtain⟨_,_,_,_,_,_,_,_,_,_,h⟩:=h;rcases h with h|h|h|h|h|h|h|h|h|h<;>first|exact h.2|(exfalso;have:=h.1;omega)
theorem aio {m:Mx} (h:cE m) (e:m.k=7):MK7 m:=by obtain⟨_,_,_,_,_,_,_,_,_,_,h⟩:=h;rcases h with h|h|h|h|h|h|h|h|h|h<;>first|exact h.2|(exfalso;have:=h.1;omega)
theorem Tm {m:Mx} (h:cE m) (e:m.k=8):TU m:=by obtain⟨_,_,_,_,_,_,_,_,_,_,h⟩:=h;rcases h with h|h|h|h|h|h|h|h|h|h<;>first|exact h.2|(exfalso;have:=h.1;omega)
theorem zq {m:Mx} (h:cE m) (e:m.k=9):MK9 m:=by obtain⟨_,_,_,_,_,_,_,_,_,_,h⟩:=h;rcases h with h|h|h|h|h|h|h|h|h|h<;>first|exact h.2|(exfalso;have:=h.1;omega)
theorem AW {m:Mx} (h:cE m) (e:m.k=10):IS m:=by obtain⟨_,_,_,_,_,_,_,_,_,_,h⟩:=h;rcases h with h|h|h|h|h|h|h|h|h|h<;>first|exact h.2|(exfalso;have:=h.1;omega)
theorem uL {m:Mx} (h:cE m) (e:m.k=11):CU m:=by obtain⟨_,_,_,_,_,_,_,_,_,_,h⟩:=h;rcases h with h|h|h|h|h|h|h|h|h|h<;>first|exact h.2|(exfalso;have:=h.1;omega)
theorem AU {m:Mx} (h:cE m) (e:m.k=12):CT m:=by obtain⟨_,_,_,_,_,_,_,_,_,_,h⟩:=h;rcases h with h|h|h|h|h|h|h|h|h|h<;>first|exact h.2|(exfalso;have:=h.1;omega)
theorem ae0 {has:Bool} {acc:Int} {ml:List Int} {tl:List Ke} (h:(has=true∧0<acc∧NL ml∧¬ml=[])∨(has=false∧acc=0∧ml=[]∧tl=[])) (e:has=true):0<acc∧NL ml∧¬ml=[]∧ml.length≤8:=by
 rcases h with h|h
 ·exact⟨h.2.1,h.2.2.1,h.2.2.2,ah h.2.2.1⟩
 ·rw[e]at h;exact absurd h.1 (by simp)
theorem aix {has:Bool} {acc:Int} {ml:List Int} {tl:List Ke} (h:(has=true∧0<acc∧NL ml∧¬ml=[])∨(has=false∧acc=0∧ml=[]∧tl=[])) (e:¬has=true):acc=0∧ml.length=0∧tl.length=0∧has=false:=by
 rcases h with h|h
 ·exact absurd h.1 e
 ·exact⟨h.2.1,by rw[h.2.2.1];rfl,by rw[h.2.2.2];rfl,h.1⟩
noncomputable def aj8 (us:List AV) (a c:Nat):Nat:=match bP us a with
 |some (.agg l)=>match bP l c with
  |some (.int _ (.ofNat z))=>z
  |_=>999
 |_=>999
noncomputable def bd_l_vright1':NV (cS [] [] [] 0x1e8f76b9467bae93ae108242b1a368e9c3c55421a9cbbd5e7a8acc455c25ed5ad608da79098df2d1b2183826197d92aefbf53cfdff92b453aab32aa863397b6cf792e1cd18c94):=⟨_,by conv=>rhs;reduce⟩
noncomputable abbrev qA:XC:=bd_l_vright1'.1
noncomputable def ft_vright1':NV (fun b0=>aA [] [] [b0] 0x7a01de1d243bc6841a7157406e6a6372ab9ff369909a1bb51adc453d7f13cf8cf97bfac6cc454b13560e521bbb319959e87aa59194f80a90ac3ad6a08ce539a7e0307756a8296062d5b752a):=⟨_,by conv=>rhs;reduce⟩
noncomputable abbrev HJ:XF:=ft_vright1'.1 qA
theorem yY:aK Tryz.prog 58 HJ=true:=by kernel_rfl
structure sv where
 mh:Value
 m:List Int
 b0:Prop
 b1:Prop
 b2:Prop
 b3:Prop
 b4:Prop
 b5:Prop
 b6:Prop
 b7:Prop
 i:Int
noncomputable def Hr:bM:=ce bQ 0 (fun p:sv=>((.cons 29 (.sy (.int 0 p.i)) (.cons 28 (.sy (.int 0 (p.m.length:Int))) (.cons 27 (.sy (.imm p.mh 2 Int p.m am)) (.cons 3 (.ptr 0 0) .nil)))),(.node .leaf (some (o_F p.b0 p.b1 p.b2 p.b3 p.b4 p.b5 p.b6 p.b7)) .leaf),1)) (fun p=>NL p.m∧¬p.m=[]∧0≤p.i∧p.i≤(p.m.length:Int)∧(p.b0↔(0:Int)∈p.m.take p.i.toNat)∧(p.b1↔(1:Int)∈p.m.take p.i.toNat)∧(p.b2↔(2:Int)∈p.m.take p.i.toNat)∧(p.b3↔(3:Int)∈p.m.take p.i.toNat)∧(p.b4↔(4:Int)∈p.m.take p.i.toNat)∧(p.b5↔(5:Int)∈p.m.take p.i.toNat)∧(p.b6↔(6:Int)∈p.m.take p.i.toNat)∧(p.b7↔(7:Int)∈p.m.take p.i.toNat)) (fun p K=>K 2 .nil .leaf 0)
theorem Bl:bg Tryz.prog 46 0 Hr true 0 qA:=lL (nat:=wi) (fun p:sv=>((p.m.length:Int) - p.i).toNat) cq (fun _ _ _ _=>rfl) fun p K hpre hK=>by
 dsimp only at hpre hK ⊢
 obtain⟨h0,h1,g1,g2,g3⟩:=hpre
 have hl:=ah h0
 have ys {g:Prop} (h:g:=by first|(have hx:=Tc h0 hi;omega)|fail):g:=h
 have yd {g:Prop} (h:g:=by first|(exfalso;have hn:=wg h0.1 hi;simp_all;done)|fail):g:=h
 have yb {g:Prop} (h:g:=by first|(refine⟨h0,h1,by omega,by omega,?_⟩;rw[show(p.i+1).toNat=p.i.toNat+1 by omega];rw[List.take_add_one,hi];simp only[Option.toList,List.mem_append,List.mem_singleton,g3];simp_all)|fail):g:=h
 exact wz
structure Mz where
 mh:Value
 m:List Int
theorem Hc:aB Tryz.prog 58 0 (aO (fun p:Mz=>([.agg [.int 1 (.ofNat 0),.int 3 (.ofNat 1),.sy (.imm p.mh 2 Int p.m am)]],.leaf,0)) (fun p=>NL p.m∧¬p.m=[]) (fun p K=>K (.bool true) .leaf 0)):=nF (nat:=wi) yY (dC Bl) fun p K hpre hK=>by
 dsimp only at hpre hK ⊢
 obtain⟨h0,h1⟩:=hpre
 have hl:=ah h0
 have hm:=List.length_pos_iff.2 h1
 have yd {g:Prop} (h:g:=by first|(exfalso;omega)|fail):g:=h
 have yg {g:Prop} (h:g:=by first|(exact⟨h0,h1,by omega,by omega,by simp⟩)|fail):g:=h
 exact wz
noncomputable def rS:NN:=fK wi Hc [(0,15)] (fun us M=>Nat.beq (aj8 us 0 1) 1)
noncomputable def ft_same':NV (aA [] [] [] 0x5b02141d1982e25e5a0dcf55360af7216be3db42ee889c1df5ea53c4e81d1c05be80aa48b12b3a51df840b412b9c14c56ee938289107ee482463d5e76916cc767442507ebf527586cba4a7fe6ec56b721f99c62809511d63ec5be475f4d7bae809cbd8):=⟨_,by conv=>rhs;reduce⟩
noncomputable abbrev XH:XF:=ft_same'.1
theorem HQ:aK Tryz.prog 37 XH=true:=by kernel_rfl
structure ahe where
 x:Ke
 y:Ke
theorem VR:aB Tryz.prog 37 0 (aO (fun p:ahe=>([(Aq [] p.x.v p.x.w),Aq [] p.y.v p.y.w],.leaf,0)) (fun p=>p.x=p.y) (fun p K=>K (.bool true) .leaf 0)):=nE (nat:=rS) HQ fun p K hpre hK=>by
 dsimp only at hpre hK ⊢
 have e1:=congrArg Ke.v hpre
 have e2:=congrArg Ke.w hpre
 have yd {g:Prop} (h:g:=by first|(exfalso;omega)|fail):g:=h
 exact wz
noncomputable def tb:NN:=bW rS VR [(0,15),(1,15)]
noncomputable def bd_l_eqf':NV (cS [] [] [] 0x19267a5fbcc13d3d4d128ad967c2d5cecebbb589e89b010784a215e1ebf7dcb5ffeabb35b0aeb04822847d30a07a53b4f6fe01d386365a9bfb7c6a9e032c):=⟨_,by conv=>rhs;reduce⟩
noncomputable abbrev CB:XC:=bd_l_eqf'.1
noncomputable def ft_eqf':NV (fun b0=>aA [] [] [b0] 0x11eb116e4eefd69a776f7bc0ced59712a12cb83e8ec3346c75e0129665a63237e5d9):=⟨_,by conv=>rhs;reduce⟩
noncomputable abbrev afe:XF:=ft_eqf'.1 CB
theorem Lk:aK Tryz.prog 36 afe=true:=by kernel_rfl
structure Gp where
 h1:Value
 l1:List Ke
 h2:Value
 l2:List Ke
 i:Int
noncomputable def aep:bM:=ce bQ 0 (fun p:Gp=>((.cons 17 (.sy (.int 0 p.i)) (.cons 16 (.sy (.int 0 (p.l1.length:Int))) (.cons 15 (.sy (.imm p.h1 18 Ke p.l1 aF)) (.cons 2 (.fn 37 []) (.cons 1 (.sy (.imm p.h2 18 Ke p.l2 aF)) .nil))))),.leaf,0)) (fun p=>p.l1=p.l2∧p.l1.length=p.l2.length∧0≤p.i∧p.i≤(p.l1.length:Int)∧p.l1.length≤1000000) (fun p K=>K 2 .nil .leaf 0)
theorem OU:bg Tryz.prog 32 0 aep true 0 CB:=lL (nat:=tb) (fun p:Gp=>((p.l1.length:Int) - p.i).toNat) cq (fun _ _ _ _=>rfl) fun p K hpre hK=>by
 dsimp only at hpre hK ⊢
 obtain⟨g5,g0,g1,g2,g3⟩:=hpre
 have nnh:=trivial
 have yg {g:Prop} (h:g:=by first|(rw[g5]at hi1;exact akH (hi1.symm.trans hi))|fail):g:=h
 have yb {g:Prop} (h:g:=by first|(exact⟨g5,g0,by omega,by omega,g3⟩)|fail):g:=h
 exact wz
structure ajn where
 h1:Value
 l1:List Ke
 h2:Value
 l2:List Ke
theorem adZ:aB Tryz.prog 36 0 (aO (fun p:ajn=>([.sy (.imm p.h1 18 Ke p.l1 aF),.sy (.imm p.h2 18 Ke p.l2 aF),.fn 37 []],.leaf,0)) (fun p=>p.l1=p.l2∧p.l1.length≤1000000) (fun p K=>K (.bool true) .leaf 0)):=nF (nat:=tb) Lk (dC OU) fun p K hpre hK=>by
 dsimp only at hpre hK ⊢
 obtain⟨u1,u2⟩:=hpre
 have u3:=congrArg List.length u1
 have yd {g:Prop} (h:g:=by first|(exfalso;omega)|fail):g:=h
 have yg {g:Prop} (h:g:=by first|(exact⟨u1,by omega,by omega,by omega,by omega⟩)|fail):g:=h
 exact wz
noncomputable def wm:NN:=bW tb adZ [(0,23),(1,23)]
noncomputable def bd_l_all':NV (cS [] [] [] 0xe554e3799ab806dff361d7581f6c475d6b8e287280634635f83cc3a7804243ae691c4e):=⟨_,by conv=>rhs;reduce⟩
noncomputable abbrev CE:XC:=bd_l_all'.1
noncomputable def ft_allG':NV (fun b0=>aA [] [] [b0] 0x92f8fc7cd72dce213668d35ff3c916143adb):=⟨_,by conv=>rhs;reduce⟩
noncomputable abbrev Yf:XF:=ft_allG'.1 CE
theorem Ig:aK Tryz.prog 183 Yf=true:=by kernel_rfl
structure Gs where
 h:Value
 l:List Ke
 i:Int
noncomputable def WV:bM:=ce bQ 0 (fun p:Gs=>((.cons 8 (.sy (.int 0 p.i)) (.cons 7 (.sy (.int 0 (p.l.length:Int))) (.cons 1 (.fn 181 [.ptr 0 0]) (.cons 0 (.sy (.imm p.h 18 Ke p.l aF)) .nil)))),(.node .leaf (some (Ta)) .leaf),1)) (fun p=>bS p.l∧p.l.length≤400∧0≤p.i∧p.i≤(p.l.length:Int)) (fun p K=>K 2 .nil (.node .leaf (some (Ta)) .leaf) 1)
theorem OX:bg Tryz.prog 19 1 WV true 0 CE:=lL (nat:=wm) (fun p:Gs=>((p.l.length:Int) - p.i).toNat) cq (fun _ _ _ _=>rfl) fun p K hpre hK=>by
 dsimp only at hpre hK ⊢
 obtain⟨g0,g1,g2,g3⟩:=hpre
 have nnx:=trivial
 have yd {g:Prop} (h:g:=by first|(exfalso;omega)|fail):g:=h
 have yb {g:Prop} (h:g:=by first|(exact⟨g0,g1,by omega,by omega⟩)|fail):g:=h
 have yj {g:Prop} (h:g:=by first|(obtain⟨k1,k2,k3⟩:=g0 x1 (List.mem_of_getElem? (by assumption));exact wz)|fail):g:=h
 exact wz
structure ahR where
 h:Value
 l:List Ke
theorem WE:aB Tryz.prog 183 1 (aO (fun p:ahR=>([.sy (.imm p.h 18 Ke p.l aF),.fn 181 [.ptr 0 0]],(.node .leaf (some (Ta)) .leaf),1)) (fun p=>bS p.l∧p.l.length≤400) (fun p K=>K (.int 0 (.negSucc 0)) (.node .leaf (some (Ta)) .leaf) 1)):=nF (nat:=wm) Ig (dC OX) fun p K hpre hK=>by
 dsimp only at hpre hK ⊢
 obtain⟨u1,u2⟩:=hpre
 have yg {g:Prop} (h:g:=by first|(exact⟨u1,u2,by omega,by omega⟩)|fail):g:=h
 exact wz
noncomputable def AH:NN:=bW wm WE [(0,23)]
noncomputable def ft_rightG':NV (aA [] [] [] 0x57878e9e883a69c0a0f0b99e61552c8844f015190b18faa4696308cda1d02e3c2b560f97eab055071c3ab):=⟨_,by conv=>rhs;reduce⟩
noncomputable abbrev KZ:XF:=ft_rightG'.1
theorem BJ:aK Tryz.prog 108 KZ=true:=by kernel_rfl
structure Ro where
 m:Mg
theorem JK:aB Tryz.prog 108 0 (aO (fun p:Ro=>([jU p.m.k p.m.N p.m.fr p.m.c p.m.b p.m.acc [] p.m.vn p.m.vh p.m.vl p.m.pn p.m.pl (p.m.has=true) p.m.mh p.m.ml p.m.h p.m.l p.m.th p.m.tl],.leaf,0)) (fun p=>cE p.m.er) (fun p K=>K (.bool true) .leaf 0)):=nE (nat:=AH) BJ fun p K hpre hK=>by
 dsimp only at hpre hK ⊢
 have hm:=hpre
 have hk:=uJ hm
 dsimp only[Mg.er]at hk
 have nnq:=trivial
 have yd {g:Prop} (h:g:=by first|(exfalso;first|omega|contradiction|(exact absurd (by assumption:p.m.has=true) (by first|(simp[*];done)|fail))|simp_all;done)|(exfalso;omega)|fail):g:=h
 have yg {g:Prop} (h:g:=by first|(exact⟨by assumption,by omega⟩)|(first|exact⟨rfl,by omega⟩|exact⟨by assumption,by omega⟩)|(first|omega|assumption|contradiction|(have hq:=ah (hi).2;omega))|(refine⟨?_,?_⟩<;>first|assumption|omega)|(refine⟨?_,?_,?_⟩<;>first|assumption|omega)|fail):g:=h
 have yw {g:Prop} (h:g:=by first|(have q_:=zr hm hc;obtain⟨z_b,z_acc,z_vn,z_vl,z_pn,z_pl,z_has,z_ml,z_tl,c_0,c_1,c_2,c_3,c_4,c_5,c_6⟩:=q_;dsimp only[Mg.er]at z_b z_acc z_vn z_vl z_pn z_pl z_has z_ml z_tl c_0 c_1 c_2 c_3 c_4 c_5 c_6;have e_vl:=congrArg List.length z_vl;simp only[akn]at e_vl;have e_ml:=congrArg List.length z_ml;simp only[akn]at e_ml;have e_tl:=congrArg List.length z_tl;simp only[akn]at e_tl;exact wz)|(have q_:=uK hm hc;obtain⟨z_c,z_b,z_acc,z_vn,z_vl,z_pn,z_pl,z_has,z_ml,z_l,z_tl,c_0,c_1,c_2⟩:=q_;dsimp only[Mg.er]at z_c z_b z_acc z_vn z_vl z_pn z_pl z_has z_ml z_l z_tl c_0 c_1 c_2;have e_vl:=congrArg List.length z_vl;simp only[akn]at e_vl;have e_ml:=congrArg List.length z_ml;simp only[akn]at e_ml;have e_l:=congrArg List.length z_l;simp only[akn]at e_l;have e_tl:=congrArg List.length z_tl;simp only[akn]at e_tl;exact wz)|(have q_:=Hk hm hc;obtain⟨z_fr,z_c,z_acc,z_vn,z_vl,z_pn,z_pl,z_has,z_ml,z_l,z_tl,c_0,c_1⟩:=q_;dsimp only[Mg.er]at z_fr z_c z_acc z_vn z_vl z_pn z_pl z_has z_ml z_l z_tl c_0 c_1;have e_vl:=congrArg List.length z_vl;simp only[akn]at e_vl;have e_ml:=congrArg List.length z_ml;simp only[akn]at e_ml;have e_l:=congrArg List.length z_l;simp only[akn]at e_l;have e_tl:=congrArg List.length z_tl;simp only[akn]at e_tl;exact wz)|(have q_:=aip hm hc;obtain⟨z_fr,z_c,z_acc,z_vn,z_vl,z_pn,z_pl,z_has,z_ml,z_l,z_tl,c_0,c_1⟩:=q_;dsimp only[Mg.er]at z_fr z_c z_acc z_vn z_vl z_pn z_pl z_has z_ml z_l z_tl c_0 c_1;have e_vl:=congrArg List.length z_vl;simp only[akn]at e_vl;have e_ml:=congrArg List.length z_ml;simp only[akn]at e_ml;have e_l:=congrArg List.length z_l;simp only[akn]at e_l;have e_tl:=congrArg List.length z_tl;simp only[akn]at e_tl;exact wz)|(have q_:=aio hm hc;obtain⟨z_fr,z_c,z_acc,z_vn,z_vl,z_pn,z_pl,z_has,z_ml,z_l,z_tl,c_0,c_1⟩:=q_;dsimp only[Mg.er]at z_fr z_c z_acc z_vn z_vl z_pn z_pl z_has z_ml z_l z_tl c_0 c_1;have e_vl:=congrArg List.length z_vl;simp only[akn]at e_vl;have e_ml:=congrArg List.length z_ml;simp only[akn]at e_ml;have e_l:=congrArg List.length z_l;simp only[akn]at e_l;have e_tl:=congrArg List.length z_tl;simp only[akn]at e_tl;exact wz)|(have q_:=Tm hm hc;obtain⟨z_fr,z_c,z_vn,z_vl,z_pn,z_pl,c_0,c_1,c_2,c_3,c_4,c_5,c_6⟩:=q_;dsimp only[Mg.er]at z_fr z_c z_vn z_vl z_pn z_pl c_0 c_1 c_2 c_3 c_4 c_5 c_6;have e_vl:=congrArg List.length z_vl;simp only[akn]at e_vl;exact wz)|(have n_:=aix c_6 (by first|assumption|exact Classical.not_not.1 (by assumption)|contradiction);obtain⟨j_1,j_2,j_3,j_4⟩:=n_;exact wz)|(have n_:=ae0 c_6 (by first|assumption|exact Classical.not_not.1 (by assumption)|contradiction);obtain⟨j_1,j_2,j_3,j_4⟩:=n_;exact wz)|(have q_:=zq hm hc;obtain⟨z_fr,z_c,z_acc,z_vn,z_vl,z_pn,z_pl,z_has,z_l,c_0,c_1,c_2,c_3,c_4,c_5⟩:=q_;dsimp only[Mg.er]at z_fr z_c z_acc z_vn z_vl z_pn z_pl z_has z_l c_0 c_1 c_2 c_3 c_4 c_5;have n_:=ah c_2;have e_vl:=congrArg List.length z_vl;simp only[akn]at e_vl;have e_l:=congrArg List.length z_l;simp only[akn]at e_l;exact wz)|(have q_:=AW hm hc;obtain⟨z_N,z_fr,z_c,z_b,z_acc,z_pn,z_pl,z_has,z_ml,z_tl,c_0,c_1,c_2,c_3,c_4⟩:=q_;dsimp only[Mg.er]at z_N z_fr z_c z_b z_acc z_pn z_pl z_has z_ml z_tl c_0 c_1 c_2 c_3 c_4;have n_:=ah c_1;have e_ml:=congrArg List.length z_ml;simp only[akn]at e_ml;have e_tl:=congrArg List.length z_tl;simp only[akn]at e_tl;exact wz)|(have q_:=uL hm hc;obtain⟨z_N,z_fr,z_c,z_b,z_acc,z_vn,z_vl,z_has,z_ml,z_l,z_tl,c_0,c_1,c_2⟩:=q_;dsimp only[Mg.er]at z_N z_fr z_c z_b z_acc z_vn z_vl z_has z_ml z_l z_tl c_0 c_1 c_2;have e_vl:=congrArg List.length z_vl;simp only[akn]at e_vl;have e_ml:=congrArg List.length z_ml;simp only[akn]at e_ml;have e_l:=congrArg List.length z_l;simp only[akn]at e_l;have e_tl:=congrArg List.length z_tl;simp only[akn]at e_tl;exact wz)|(have q_:=AU hm hc;obtain⟨z_N,z_fr,z_c,z_b,z_acc,z_vn,z_vl,z_has,z_ml,z_l,z_tl,c_0,c_1,c_2⟩:=q_;dsimp only[Mg.er]at z_N z_fr z_c z_b z_acc z_vn z_vl z_has z_ml z_l z_tl c_0 c_1 c_2;have e_vl:=congrArg List.length z_vl;simp only[akn]at e_vl;have e_ml:=congrArg List.length z_ml;simp only[akn]at e_ml;have e_l:=congrArg List.length z_l;simp only[akn]at e_l;have e_tl:=congrArg List.length z_tl;simp only[akn]at e_tl;exact wz)|fail):g:=h
 exact wz
noncomputable def uw:NN:=bW AH JK [(0,15)]
structure Vw where
 n:Int
 h:Value
 l:List Int
def afA (x:Vw):List PL:=[.int 1 (.ofNat 0),.sint 3 x.n,.imm x.h 2 Int x.l am]
noncomputable abbrev hZ (x0:List Vw):AObj:=.prow 45 3 Vw x0 afA
structure Si where
 N:Int
 mh:Value
 m:List Int
 rh:Value
 log:List Ke
 ba:Int
 com:Int
 sh:Bool
 hs:List (Int×Int)
 prm:Int
 aa:Int
 avh:Value
 av:List Int
 ath:Value
 atl:List Ke
 sa:Int
 me:Int
 th:Value
 met:List Int
 su:List Int
 jo:List Int
 go:List Int
 wa:Bool
 se:Int
 ro:Int
 tr:Int
 wh:Value
 was:List Ke
 be:List Vw
 wc:Int
structure So where
 me:Int
 th:Value
 met:List Int
 su:List Int
 jo:List Int
 go:List Int
 wa:Bool
 se:Int
 ro:Int
 tr:Int
 wh:Value
 was:List Ke
 be:List Vw
 wc:Int
structure Qi where
 b:Int
 ph:Int
 gt:List Int
 best:Int
 hh:Value
 held:Option Vl
 qh:Value
 qth:Value
 qt:List Ke
 cmh:Value
 cm:List Int
 cth:Value
 ct:List Ke
structure Pq where
 b:Int
 ph:Int
 gt:List Int
 best:Int
 held:Option (List Int×List Ke)
 qt:List Ke
 ch:List Int×List Ke
structure St where
 N:Int
 m:List Int
 log:List Ke
 ba:Int
 com:Int
 sh:Bool
 hs:List (Int×Int)
 prm:Int
 aa:Int
 av:List Int×List Ke
 q:Option Pq
 sa:Int
 me:Int
 met:List Int
 su:List Int
 jo:List Int
 go:List Int
 wa:Bool
 se:Int
 ro:Int
 tr:Int
 was:List Ke
 wc:Int
def Qi.er (q:Qi):Pq:=⟨q.b,q.ph,q.gt,q.best,q.held.map Vl.er,q.qt,(q.cm,q.ct)⟩
def Si.er (s:Si) (q:Option Pq):St:=⟨s.N,s.m,s.log,s.ba,s.com,s.sh,s.hs,s.prm,s.aa,(s.av,s.atl),q,s.sa,s.me,s.met,s.su,s.jo,s.go,s.wa,s.se,s.ro,s.tr,s.was,s.wc⟩
def So.er (s:So):St:=⟨0,[],[],0,0,false,[],0,0,([],[]),none,0,s.me,s.met,s.su,s.jo,s.go,s.wa,s.se,s.ro,s.tr,s.was,s.wc⟩
def uX (s:St):Prop:=(s.m.find? fun p=>decide (¬(p∈s.su∨p∈s.go)))=some s.me
def fL (now:Int) (s:St):Prop:=s.sh=true∧s.sa≤now∧12+6*(s.m.idxOf s.me:Int)≤now - s.sa
def eY (now:Int) (s:St):Prop:=s.tr≤now∧(fL now s∨(¬cN s.m s.su s.jo s.go=s.m∧uX s))
def aE (k:Int):Mx:=⟨k,0,0,0,0,0,0,[],0,0,false,[],[],[]⟩
def BB (s:St):Mx:={aE 10 with vn:=s.N,vl:=s.m,l:=s.log.take s.ba.toNat}
structure bA (s:St):Prop where
 r:ROk s.m s.me s.log s.ba s.com s.hs
 n0:0<s.N
 n1:s.N<4294967295
 se:s.se=s.N
 su:NL s.su
 jo:NL s.jo
 go:NL s.go
 met:NL s.met
 log:bS s.log
 was:bS s.was
 wasl:s.was.length≤400
 sa0:0≤s.sa
 sa1:s.sa≤1000000000
 tr0:0≤s.tr
 tr1:s.tr≤1000000100
 ro0:0≤s.ro
 ro1:s.ro<4294967296
 prm0:0≤s.prm
 prm1:s.prm<18446744073709551616
 aa0:0≤s.aa
 aa1:s.aa<18446744073709551616
 av:s.av.1.length≤8∧s.av.2.length≤400
 avk:¬s.aa=0→NL s.av.1∧¬s.av.1=[]∧bS s.av.2
noncomputable def Sn (s:Si) (r:Si) (a:Si) (k0:Nat) (k1:Nat) (k2:Nat) (k3:Nat) (k4:Nat):T:=(.node (.node (.node (.node .leaf (some (bu r.log)) .leaf) (some (aD s.su)) .leaf) (some (bZ r.N r.rh r.m r.me 7 k4 r.ba r.com (r.sh=true) 8)) (.node .leaf (some (aD s.go)) .leaf)) (some (EA s.N s.mh s.m 1 2 s.sa s.me s.th s.met 3 k0 4 k1 5 k2 (s.wa=true) s.se s.ro s.tr s.wh s.was 6 k3 s.wc)) (.node (.node (.node .leaf (some (.kmap true true false (Int×Int) r.hs aY aX)) .leaf) (some (aD s.jo)) .leaf) (some (eL a.prm a.aa a.avh a.av a.ath a.atl)) (.node .leaf (some (hZ s.be)) .leaf)))
noncomputable def dm (s:Si) (r:Si) (a:Si):T:=Sn s r a s.su.length s.jo.length s.go.length s.be.length r.log.length
noncomputable def vy (s:Si) (r:Si) (a:Si) (o:List Ou) (k0:Nat) (k1:Nat) (k2:Nat) (k3:Nat) (k4:Nat):T:=(.node (.node (.node (.node .leaf (some (hZ s.be)) .leaf) (some (eL a.prm a.aa a.avh a.av a.ath a.atl)) .leaf) (some (lm o)) (.node (.node .leaf (some (.kmap true true false (Int×Int) r.hs aY aX)) .leaf) (some (aD s.jo)) .leaf)) (some (EA s.N s.mh s.m 2 3 s.sa s.me s.th s.met 4 k0 5 k1 6 k2 (s.wa=true) s.se s.ro s.tr s.wh s.was 7 k3 s.wc)) (.node (.node (.node .leaf (some (bu r.log)) .leaf) (some (aD s.su)) .leaf) (some (bZ r.N r.rh r.m r.me 8 k4 r.ba r.com (r.sh=true) 9)) (.node .leaf (some (aD s.go)) .leaf)))
noncomputable def fA (s:Si) (r:Si) (a:Si) (o:List Ou):T:=vy s r a o s.su.length s.jo.length s.go.length s.be.length r.log.length
noncomputable def Sq (s:Si) (r:Si) (a:Si) (w:Si) (v:Qi) (k0:Nat) (k1:Nat) (k2:Nat) (k3:Nat) (k4:Nat):T:=(.node (.node (.node (.node .leaf (some (hZ s.be)) .leaf) (some (.blk false 161 11 [[.int 1 (.ofNat 0),.sy (.int 3 w.N),.sy (.imm v.qh 2 Int w.m am),.sy (.int 4 v.b),.sy (.int 0 v.ph),.map 10,.sy (.int 4 v.best),.sy (.vl v.hh true Vl v.held cK),.sy (.imm v.qth 18 Ke v.qt aF),.sy (.imm v.cmh 2 Int v.cm am),.sy (.imm v.cth 18 Ke v.ct aF)]])) .leaf) (some (bZ r.N r.rh r.m r.me 8 k4 r.ba r.com (r.sh=true) 9)) (.node (.node .leaf (some (.kmap true true false (Int×Int) r.hs aY aX)) .leaf) (some (aD s.jo)) .leaf)) (some (pM s.N s.mh s.m 1 2 3 s.sa s.me s.th s.met 4 k0 5 k1 6 k2 (s.wa=true) s.se s.ro s.tr s.wh s.was 7 k3 s.wc)) (.node (.node (.node .leaf (some (bu r.log)) .leaf) (some (aD s.su)) .leaf) (some (eL a.prm a.aa a.avh a.av a.ath a.atl)) (.node (.node .leaf (some (.kmap true true false Int v.gt am cC)) .leaf) (some (aD s.go)) .leaf)))
noncomputable def dl (s:Si) (r:Si) (a:Si) (w:Si) (v:Qi):T:=Sq s r a w v s.su.length s.jo.length s.go.length s.be.length r.log.length
noncomputable def vw (s:Si) (r:Si) (a:Si) (w:Si) (v:Qi) (o:List Ou) (k0:Nat) (k1:Nat) (k2:Nat) (k3:Nat) (k4:Nat):T:=(.node (.node (.node (.node .leaf (some (aD s.go)) .leaf) (some (eL a.prm a.aa a.avh a.av a.ath a.atl)) (.node .leaf (some (.kmap true true false Int v.gt am cC)) .leaf)) (some (lm o)) (.node (.node .leaf (some (bu r.log)) .leaf) (some (aD s.su)) .leaf)) (some (pM s.N s.mh s.m 2 3 4 s.sa s.me s.th s.met 5 k0 6 k1 7 k2 (s.wa=true) s.se s.ro s.tr s.wh s.was 8 k3 s.wc)) (.node (.node (.node .leaf (some (hZ s.be)) .leaf) (some (.blk false 161 11 [[.int 1 (.ofNat 0),.sy (.int 3 w.N),.sy (.imm v.qh 2 Int w.m am),.sy (.int 4 v.b),.sy (.int 0 v.ph),.map 11,.sy (.int 4 v.best),.sy (.vl v.hh true Vl v.held cK),.sy (.imm v.qth 18 Ke v.qt aF),.sy (.imm v.cmh 2 Int v.cm am),.sy (.imm v.cth 18 Ke v.ct aF)]])) .leaf) (some (bZ r.N r.rh r.m r.me 9 k4 r.ba r.com (r.sh=true) 10)) (.node (.node .leaf (some (.kmap true true false (Int×Int) r.hs aY aX)) .leaf) (some (aD s.jo)) .leaf)))
noncomputable def gG (s:Si) (r:Si) (a:Si) (w:Si) (v:Qi) (o:List Ou):T:=vw s r a w v o s.su.length s.jo.length s.go.length s.be.length r.log.length
noncomputable def Sz (s:So) (k0:Nat) (k1:Nat) (k2:Nat) (k3:Nat):T:=(.node (.node (.node .leaf (some (aD s.go)) .leaf) (some (aD s.su)) .leaf) (some (.blk false 86 21 [[.int 1 (.ofNat 0),.int 3 (.ofNat 0),.nilS,.nilP,.nilP,.nilP,.int 0 (.ofNat 0),.int 1 (.ofNat 0),.sy (.int 1 s.me),.int 2 (.ofNat 1),.sy (.imm s.th 2 Int s.met am),.sy (.prow 1 k0),.sy (.prow 2 k1),.sy (.prow 3 k2),.sy (.bool (s.wa=true)),.sy (.int 3 s.se),.sy (.int 3 s.ro),.sy (.int 0 s.tr),.sy (.imm s.wh 18 Ke s.was aF),.sy (.prow 4 k3),.sy (.int 0 s.wc)]])) (.node (.node .leaf (some (hZ s.be)) .leaf) (some (aD s.jo)) .leaf))
noncomputable def da (s:So):T:=Sz s s.su.length s.jo.length s.go.length s.be.length
noncomputable def vv (s:So) (o:List Ou) (k0:Nat) (k1:Nat) (k2:Nat) (k3:Nat):T:=(.node (.node (.node .leaf (some (aD s.jo)) .leaf) (some (lm o)) (.node .leaf (some (hZ s.be)) .leaf)) (some (.blk false 86 21 [[.int 1 (.ofNat 0),.int 3 (.ofNat 0),.nilS,.nilP,.nilP,.nilP,.int 0 (.ofNat 0),.int 1 (.ofNat 0),.sy (.int 1 s.me),.int 2 (.ofNat 1),.sy (.imm s.th 2 Int s.met am),.sy (.prow 2 k0),.sy (.prow 3 k1),.sy (.prow 4 k2),.sy (.bool (s.wa=true)),.sy (.int 3 s.se),.sy (.int 3 s.ro),.sy (.int 0 s.tr),.sy (.imm s.wh 18 Ke s.was aF),.sy (.prow 5 k3),.sy (.int 0 s.wc)]])) (.node (.node .leaf (some (aD s.go)) .leaf) (some (aD s.su)) .leaf))
noncomputable def jc (s:So) (o:List Ou):T:=vv s o s.su.length s.jo.length s.go.length s.be.length
theorem mH {m su go:List Int} {x z:Int} (h: -1≤z∧(z<0→∀x∈m,¬(¬(x∈su∨x∈go)))∧(0≤z→0≤z∧z<(m.length:Int)∧(∀x∈m.take z.toNat,¬(¬(x∈su∨x∈go)))∧∀x,m[z.toNat]?=some x→¬(x∈su∨x∈go))) (hz:0≤z) (hx:m[z.toNat]?=some x):(m.find? fun p=>decide (¬(p∈su∨p∈go)))=some x:=by
 obtain⟨_,h2,h3,h4⟩:=h.2.2 hz
 have hlt:=(List.getElem?_eq_some_iff.1 hx).1
 have e:m=m.take z.toNat++x::m.drop (z.toNat+1):=by rw[←(List.getElem?_eq_some_iff.1 hx).2,List.getElem_cons_drop,List.take_append_drop]
 have hn:(m.take z.toNat).find? (fun p=>decide (¬(p∈su∨p∈go)))=none:=List.find?_eq_none.2 fun y hy=>by simpa using h3 y hy
 rw[e,List.find?_append,hn,Option.none_or,List.find?_cons_of_pos (by simpa using h4 x hx)]
theorem BU {m su go:List Int} {z:Int} (h: -1≤z∧(z<0→∀x∈m,¬(¬(x∈su∨x∈go)))∧(0≤z→0≤z∧z<(m.length:Int)∧(∀x∈m.take z.toNat,¬(¬(x∈su∨x∈go)))∧∀x,m[z.toNat]?=some x→¬(x∈su∨x∈go))) (hz:¬0≤z):(m.find? fun p=>decide (¬(p∈su∨p∈go)))=none:=
 List.find?_eq_none.2 fun y hy=>by simpa using h.2.1 (by omega) y hy
theorem ac6 {now:Int} {s:St} (h:¬s.tr≤now):(false=true)↔eY now s:=⟨fun h=>by simp at h,fun q=>absurd q.1 h⟩
theorem ajC {now:Int} {s:St} (h:s.tr≤now) (w:fL now s):(true=true)↔eY now s:=⟨fun _=>⟨h,.inl w⟩,fun _=>rfl⟩
theorem ajD {now:Int} {s:St} {z:Prop} (h:s.tr≤now) (hw:¬fL now s) (w:¬cN s.m s.su s.jo s.go=s.m) (f:z↔uX s):z↔eY now s:=⟨fun q=>⟨h,.inr ⟨w,f.1 q⟩⟩,fun q=>f.2 (q.2.resolve_left hw).2⟩
theorem ac5 {now:Int} {s:St} (hw:¬fL now s) (h:cN s.m s.su s.jo s.go=s.m):(false=true)↔eY now s:=⟨fun h=>by simp at h,fun q=>(q.2.elim hw fun w=>w.1 h).elim⟩
theorem aaK {now:Int} {s:St} (h:fL now s):(true=true)↔fL now s:=⟨fun _=>h,fun _=>rfl⟩
theorem ahV {now:Int} {s:St} (h:¬fL now s):(false=true)↔fL now s:=⟨fun h=>by simp at h,fun q=>absurd q h⟩
noncomputable def ft_firstG':NV (aA [] [] [] 0x164f119c7d6b14aa5ed97dd0478d53a059286c642585e5dc3ee2ddb385b50f4f79b6b4eaa1fafca9b5916ffd6ead8e0a64d822f9):=⟨_,by conv=>rhs;reduce⟩
noncomputable abbrev Lj:XF:=ft_firstG'.1
theorem BN:aK Tryz.prog 99 Lj=true:=by kernel_rfl
structure Ru where
 q:Nat→Value
 mh:Value
 m:List Int
 me:Int
 susp:List Int
 going:List Int
structure QW where
 z:Prop
theorem JQ:aB Tryz.prog 99 3 (aO (fun p:Ru=>([.ptr 0 0],(.node (.node .leaf (some (aD p.susp)) .leaf) (some (Ar p.q p.mh p.m p.me 1 p.susp.length 2 p.going.length)) (.node .leaf (some (aD p.going)) .leaf)),3)) (fun p=>p.m.length≤8∧p.susp.length≤8∧p.going.length≤8) (fun p K=>aj fun r:QW=>iP (r.z↔(p.m.find? fun y=>decide (¬(y∈p.susp∨y∈p.going)))=some p.me) (K (.sy (.bool r.z)) (.node (.node .leaf (some (aD p.susp)) .leaf) (some (Ar p.q p.mh p.m p.me 1 p.susp.length 2 p.going.length)) (.node .leaf (some (aD p.going)) .leaf)) 3) true)):=nE (nat:=uw) BN fun p K hpre hK=>by
 dsimp only at hpre hK ⊢
 obtain⟨h1,h2,h3⟩:=hpre
 have nnh:=trivial
 have yg {g:Prop} (h:g:=by first|(first|assumption|exact⟨by omega,by omega,by omega⟩)|fail):g:=h
 have yp {g:Prop} (h:g:=by first|(first|exact⟨fun _=>by rw[←(by assumption:_=p.me)];exact mH hi1 (by assumption) (by assumption),fun _=>rfl⟩|exact⟨fun h=>by simp at h,fun h=>by rw[mH hi1 (by assumption) (by assumption)]at h;exact absurd (akH h) (by assumption)⟩|exact⟨fun h=>by simp at h,fun h=>by rw[BU hi1 (by assumption)]at h;cases h⟩)|(first|exact⟨fun _=>by rw[←(by assumption:_=p.me)];exact mH hi (by assumption) (by assumption),fun _=>rfl⟩|exact⟨fun h=>by simp at h,fun h=>by rw[mH hi (by assumption) (by assumption)]at h;exact absurd (akH h) (by assumption)⟩|exact⟨fun h=>by simp at h,fun h=>by rw[BU hi (by assumption)]at h;cases h⟩)|fail):g:=h
 exact wz
noncomputable def uA:NN:=iD uw JQ [(0,4)] [1,3,4,5,6,10,12,14,15,16,17,18,19,20]
noncomputable def ft_wearyG':NV (aA [] [] [] 0xe3e24d6feeddba26facf36a25e66bfb7c696c3d0e161d5c7770f87ab8686284b0b9cdbf18130a5896d59ebf05e7f34e2beec302e0fdeb03294ca5926fc68013a90):=⟨_,by conv=>rhs;reduce⟩
noncomputable abbrev KU:XF:=ft_wearyG'.1
theorem BG:aK Tryz.prog 97 KU=true:=by kernel_rfl
structure Rl where
 q:Nat→Value
 s:Si
 now:Int
structure QB where
 z:Prop
theorem JG:aB Tryz.prog 97 4 (aO (fun p:Rl=>([.ptr 0 0,.sy (.int 0 p.now)],(.node (.node (.node .leaf (some (.kmap true true false (Int×Int) p.s.hs aY aX)) .leaf) (some (bZ p.s.N p.s.rh p.s.m p.s.me 2 p.s.log.length p.s.ba p.s.com (p.s.sh=true) 3)) .leaf) (some (o_v p.s.N p.s.mh p.s.m p.q p.s.sa p.s.me)) (.node .leaf (some (bu p.s.log)) .leaf)),4)) (fun p=>bA (p.s.er none)∧0≤p.now∧p.now≤1000000000) (fun p K=>aj fun r:QB=>iP (r.z↔fL p.now (p.s.er none)) (K (.sy (.bool r.z)) (.node (.node (.node .leaf (some (.kmap true true false (Int×Int) p.s.hs aY aX)) .leaf) (some (bZ p.s.N p.s.rh p.s.m p.s.me 2 p.s.log.length p.s.ba p.s.com (p.s.sh=true) 3)) .leaf) (some (o_v p.s.N p.s.mh p.s.m p.q p.s.sa p.s.me)) (.node .leaf (some (bu p.s.log)) .leaf)) 4) true)):=nE (nat:=uA) BG fun p K hpre hK=>by
 dsimp only at hpre hK ⊢
 obtain⟨hs,g1,g2⟩:=hpre
 have g3:=hs.sa0
 have g4:=hs.sa1
 have hm:=ah hs.r.nl
 have g5:=hs.r.nl
 have g6:=List.ne_nil_of_mem hs.r.me
 have g7:=hs.n0
 have g8:=hs.n1
 have g9:=ah hs.su
 have g10:=ah hs.go
 have g11:=ah hs.jo
 have g12:=hs.jo.2
 have g13:=hs.tr0
 have g14:=hs.tr1
 dsimp only[Si.er]at g3 g4 hm g5 g6 g7 g8 g9 g10 g11 g12 g13 g14
 have nnr:=trivial
 have yp {g:Prop} (h:g:=by first|(have e:=hi.2.2.1 hs.r.me;first|exact⟨fun q=>⟨Classical.not_not.1 (by assumption:¬¬p.s.sh=true),(by assumption:p.s.sa≤p.now),(by show 12+6*((p.s.m.idxOf p.s.me:Nat):Int)≤p.now - p.s.sa;omega)⟩,fun w=>by have w2:12+6*((p.s.m.idxOf p.s.me:Nat):Int)≤p.now - p.s.sa:=w.2.2;omega⟩|exact aaK (s:=p.s.er none) ⟨Classical.not_not.1 (by assumption:¬¬p.s.sh=true),(by assumption:p.s.sa≤p.now),(by show 12+6*((p.s.m.idxOf p.s.me:Nat):Int)≤p.now - p.s.sa;omega)⟩|exact ahV (s:=p.s.er none) (now:=p.now) (by intro w;have w1:=w.1;have w2:=w.2;(try dsimp only[Si.er]at w1 w2);first|omega|exact(by assumption:¬¬¬p.s.sh=true) (fun h=>h w1)))|fail):g:=h
 exact wz
end Go.Proofs.Tryz
