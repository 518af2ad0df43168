/- Definitions and lemmas of the proof, without a condition of their own. -/
import Derived.Test.YtjhpjjbnojbikaaGreatM5b
import Derived.KernelRfl
import Derived.WalkKit
import Derived.ProofKit
import Derived.OpenShut
import Derived.Below
import Derived.LaidLaws
import Derived.RowKit
set_option linter.unusedSimpArgs false
set_option linter.unusedVariables false
open Bool renaming and_eq_true→akD
open List renaming append_assoc→akt,flatten_cons→akq,length_append→akk,length_cons→akl,length_drop→akJ,length_map→akm,length_nil→akn,length_take→akA,map_cons→akr,mem_of_getElem?→akp
open Option.some renaming inj→akH
namespace Go.Proofs.Tryz
open Go Go.RowKit Go.Sy
open Go.Eng hiding aj
set_option linter.unusedVariables false
theorem Qd {f g:Fd} {x:Fl} {j o cp:Nat} {i:Int} (hf:FC (3000 - i) f) (h1:i<3000) (hx:f.L[f.a+j]?=some x) (hj:j=0) (hc:g.er=eW (na f o cp).er x.er∧g.ps=f.ps∧g.a≤g.L.length∧g.L.length≤f.L.length+1000):FC (3000 - (i+1)) g:=by
 have k1:=Ju (o:=o) (cp:=cp) hx hj
 have hL:=hf.L
 have hn:=hf.now
 obtain⟨B,b1,b2⟩:=hf.i
 have p:=ug (o:=o) (cp:=cp) b1 hx hj
 have e2:g.now=f.now:=(congrArg Fx.now hc.1).trans come_ss.2.2
 refine⟨HD (f:=na f o cp) (k1.2.2 (3000 - i) (by omega) (by rw[Int.zero_add];exact hf)).w hc.1 ⟨come_ss.1,come_ss.2.1⟩ hc.2.1 hc.2.2.1 (by omega),⟨B+1,?_,by omega⟩,by omega,by omega⟩
 rw[hc.1]
 exact Fp p.1 p.2 (show f.now≤1000000000 by omega) (by omega)
theorem MQ {f g:Fd} {x:Int} (hf:FC ((f.ps.length:Int) - x) f) (h0:0≤x) (h1:x<(f.ps.length:Int)) (hc:g.er=ep f.er x∧g.ps=f.ps∧g.a≤g.L.length∧g.L.length≤f.L.length+1000):FC ((g.ps.length:Int) - (x+1)) g:=by
 have hp:=hf.w.ps
 rw[hc.2.1]
 exact(Ev ⟨h0,by omega⟩ hc).2.2 _ (by omega) (hf.le (by omega))
theorem Ly {f:Fd} {i:Int} (h0:0≤i) (h1:i≤3000) (h:¬i<3000∨f.L.length - f.a=0):PO f f (fX (3000 - i).toNat f.er) (3000 - i):=by
 refine(PO.refl (k:=3000 - i) (by omega)).eq ?_
 rcases h with h|h
 ·rw[show(3000 - i).toNat=0 by omega];rfl
 ·have e:f.er.fly=[]:=by
   show(f.L.drop f.a).map Fl.er=[]
   rw[List.drop_eq_nil_of_le (by omega)];rfl
  cases(3000 - i).toNat with
  |zero=>rfl
  |succ n=>rw[fX,e]
theorem GB {f g r:Fd} {x:Int} (h0:0≤x) (h1:x<(f.ps.length:Int)) (hw:FW f) (hc:g.er=ep f.er x∧g.ps=f.ps∧g.a≤g.L.length∧g.L.length≤f.L.length+1000)
  (hz:PO g r (fO ((g.ps.length:Int) - (x+1)).toNat (x+1) g.er) ((g.ps.length:Int) - (x+1))):PO f r (fO ((f.ps.length:Int) - x).toNat x f.er) ((f.ps.length:Int) - x):=by
 have hp:=hw.ps
 have k:=Ev ⟨h0,by omega⟩ hc
 rw[hc.2.1]at hz
 refine(k.trans hz (by omega) (by omega)).eq ?_
 rw[show((f.ps.length:Int) - x).toNat=((f.ps.length:Int) - (x+1)).toNat+1 by omega,fO,hc.1]
theorem IZ {f:Fd} {x:Int} (h0:x≤(f.ps.length:Int)) (h:¬x<(f.ps.length:Int)):PO f f (fO ((f.ps.length:Int) - x).toNat x f.er) ((f.ps.length:Int) - x):=by
 refine(PO.refl (by omega)).eq ?_
 rw[show((f.ps.length:Int) - x).toNat=0 by omega]
 rfl
theorem rO {f g h r:Fd} {t T:Int} (h0:0≤t) (h1:t<T) (hw:FW f) (ha:PO f g (fO ((f.ps.length:Int) - 0).toNat 0 f.er) ((f.ps.length:Int) - 0)) (hb:PO g h (fX (3000 - 0:Int).toNat g.er) (3000 - 0))
  (hz:PO h r (cW (T - (t+1)).toNat h.er) ((T - (t+1))*3008)):PO f r (cW (T - t).toNat f.er) ((T - t)*3008):=by
 have hp:=hw.ps
 have h8:=hw.ss
 have k:=(ha.trans hb rfl (by omega)).trans hz rfl (by omega)
 have k2:PO f r (cW (T - (t+1)).toNat h.er) ((T - t)*3008):=⟨k.1,k.2.1,fun c hc hf=>k.2.2 c hc (hf.le (by omega))⟩
 refine k2.eq ?_
 rw[show(T - t).toNat=(T - (t+1)).toNat+1 by omega,cW]
 unfold Jn
 rw[hb.1,ha.1]
 have e:((f.ps.length:Int) - 0).toNat=f.er.ss.length:=by show _=f.ss.length;omega
 rw[e]
 rfl
theorem GM {f:Fd} {t T:Int} (h0:t≤T) (h:¬t<T):PO f f (cW (T - t).toNat f.er) ((T - t)*3008):=by
 refine(PO.refl (by omega)).eq ?_
 rw[show(T - t).toNat=0 by omega]
 rfl
end Go.Proofs.Tryz
namespace Go.Proofs.Tryz
open Go Go.RowKit Go.Sy
open Go.Eng hiding aj
set_option maxRecDepth 1000000
set_option linter.unusedVariables false
set_option maxHeartbeats 4000000
attribute [local irreducible] aq
theorem Jm {f g h:Fd} {t T:Int} {X Y:Fx} (hf:FC ((T - t)*3008) f) (h1:t<T) (h8:f.ps.length≤8) (ha:PO f g X ((f.ps.length:Int) - 0)) (hb:PO g h Y (3000 - 0)):FC ((T - (t+1))*3008) h:=
 hb.2.2 _ (by omega) (ha.2.2 _ (by omega) (hf.le (by omega)))
noncomputable def bd_l_drn':NV (cS [] [] [] 0x10371c470a2a0ee811f665717737e3e3683f1720a1b7ae6af610ab6547c2e18bb259dce43754abc24e2fd3a567e6c121497bbeddb2b1907f7cc40467fe0b0311eb52600264a77445af4f):=⟨_,by conv=>rhs;reduce⟩
noncomputable abbrev CD:XC:=bd_l_drn'.1
noncomputable def bd_l_tks':NV (cS [] [] [] 0x35a5c9cd0b16d919fb88eecb50d2cc83208dfb13c01b1a6d0393abff0651041e):=⟨_,by conv=>rhs;reduce⟩
noncomputable abbrev Cu:XC:=bd_l_tks'.1
noncomputable def bd_l_rnd':NV (fun b0 b1=>cS [] [] [b0,b1] 0x3850961b79951d4695f85a93eb84755244cf1e7d0517c3278166f1d08d1ddbf2a336df31f4fe12e5):=⟨_,by conv=>rhs;reduce⟩
noncomputable abbrev Cx:XC:=bd_l_rnd'.1 Cu CD
noncomputable def ft_rndsG':NV (fun b0=>aA [] [] [b0] 0x115640a1965bf831da64850e):=⟨_,by conv=>rhs;reduce⟩
noncomputable abbrev Ps:XF:=ft_rndsG'.1 Cx
theorem Dw:aK Tryz.prog 15 Ps=true:=by kernel_rfl
structure Gk where
 f:Fd
 T:Int
 t:Int
structure Zz where
 f:Fd
structure Gh where
 f:Fd
 T:Int
 t:Int
 x:Int
structure Zw where
 f:Fd
structure Gr where
 f:Fd
 T:Int
 t:Int
 i:Int
structure ZB where
 f:Fd
noncomputable def tm:bM:=ce (ce (ce bQ 0 (fun p:Gk=>((.cons 4 (.sy (.int 0 p.t)) (.cons 1 (.sy (.int 0 p.T)) (.cons 0 (.ptr 1 0) .nil))),(dy p.f),5)) (fun p=>FC ((p.T - p.t)*3008) p.f∧0≤p.t∧p.t≤p.T∧p.T≤1000) (fun p K=>aj fun r:Zz=>iP (PO p.f r.f (cW (p.T - p.t).toNat p.f.er) ((p.T - p.t)*3008)) (K 2 .nil (dy r.f) 5) true)) 2 (fun p:Gh=>((.cons 5 (.sy (.int 0 p.x)) (.cons 4 (.sy (.int 0 p.t)) (.cons 1 (.sy (.int 0 p.T)) (.cons 0 (.ptr 1 0) .nil)))),(dy p.f),5)) (fun p=>FC ((p.f.ps.length:Int) - p.x) p.f∧0≤p.x∧p.x≤(p.f.ps.length:Int)) (fun p K=>aj fun r:Zw=>iP (PO p.f r.f (fO ((p.f.ps.length:Int) - p.x).toNat p.x p.f.er) ((p.f.ps.length:Int) - p.x)) (K 4 (.cons 4 (.sy (.int 0 p.t)) (.cons 1 (.sy (.int 0 p.T)) (.cons 0 (.ptr 1 0) .nil))) (dy r.f) 5) true)) 1 (fun p:Gr=>((.cons 6 (.sy (.int 0 p.i)) (.cons 4 (.sy (.int 0 p.t)) (.cons 1 (.sy (.int 0 p.T)) (.cons 0 (.ptr 1 0) .nil)))),(dy p.f),5)) (fun p=>FC (3000 - p.i) p.f∧0≤p.i∧p.i≤3000) (fun p K=>aj fun r:ZB=>iP (PO p.f r.f (fX (3000 - p.i).toNat p.f.er) (3000 - p.i)) (K 6 (.cons 4 (.sy (.int 0 p.t)) (.cons 1 (.sy (.int 0 p.T)) (.cons 0 (.ptr 1 0) .nil))) (dy r.f) 5) true)
theorem OW:bg Tryz.prog 54 2 tm true 1 CD:=lL (nat:=jF) (fun p:Gr=>(3000 - p.i).toNat) cq (fun _ _ _ _=>rfl) fun p K hpre hK=>by
 dsimp only at hpre hK ⊢
 obtain⟨hf,y1,y2⟩:=hpre
 have hw:=hf.w
 have hwa:=hw.a
 have hnow:=hf.now
 have hL:=hf.L
 obtain⟨Bq,bq,hB⟩:=hf.i
 have yg {g:Prop} (h:g:=by first|(have hx_:=(by assumption:p.f.L[_]?=some _);have hq_:=ug (o:=0) (cp:=0) bq hx_ rfl;exact Qk (B:=Bq) ⟨hw.ps,hw.dn,hw.ss,by dsimp only;omega,by dsimp only;omega⟩ ⟨hq_.1.ss,hq_.1.dn,hq_.1.s,hq_.1.fly,hq_.1.now⟩ (by omega) (by dsimp only;omega) (by dsimp only;omega) hq_.2)|fail):g:=h
 have yp {g:Prop} (h:g:=by first|(exact Ly (by omega) (by omega) (by omega))|fail):g:=h
 have yb {g:Prop} (h:g:=by first|(have hc_:=hi;have hx_:=(by assumption:p.f.L[_]?=some _);exact⟨Qd hf (by omega) hx_ rfl hc_,by omega,by omega⟩)|fail):g:=h
 have yx {g:Prop} (h:g:=by first|(have hc_:=hi;have hx_:=(by assumption:p.f.L[_]?=some _);exact wW hK fun r hz=>by(try dsimp only[oL,oN]at hz);exact Ir y1 (by omega) hx_ rfl hc_ hz)|fail):g:=h
 have yq {g:Prop} (h:g:=by first|(refine cn (.mk (.mk ..) (.mk _ _ (.mk ..) ..) ..) (h:= ?_);exact wo)|fail):g:=h
 exact wz
theorem OM:bg Tryz.prog 54 2 tm true 2 Cu:=lL (nat:=jF) (fun p:Gh=>((p.f.ps.length:Int) - p.x).toNat) cq (fun _ _ _ _=>rfl) fun p K hpre hK=>by
 dsimp only at hpre hK ⊢
 obtain⟨hf,y1,y2⟩:=hpre
 have hw:=hf.w
 have hwp:=hw.ps
 have hw8:=hw.ss
 have hnow:=hf.now
 have hL:=hf.L
 obtain⟨Bq,bq,hB⟩:=hf.i
 have yg {g:Prop} (h:g:=by first|(exact MR hw bq (by omega) (by omega) (by omega) ⟨by omega,by omega⟩)|fail):g:=h
 have yp {g:Prop} (h:g:=by first|(exact IZ (by omega) (by omega))|fail):g:=h
 have yb {g:Prop} (h:g:=by first|(have hc_:=hi;have hp_:=congrArg List.length hc_.2.1;exact⟨MQ hf (by omega) (by omega) hc_,by omega,by omega⟩)|fail):g:=h
 have yx {g:Prop} (h:g:=by first|(have hc_:=hi;have hp_:=congrArg List.length hc_.2.1;exact wW hK fun r hz=>by(try dsimp only[oL,oN]at hz);exact GB y1 (by omega) hw hc_ hz)|fail):g:=h
 have ym {g:Prop} (h:g:=by first|(have hc_:=hi;have hp_:=congrArg List.length hc_.2.1;omega)|fail):g:=h
 exact wz
theorem OP:bg Tryz.prog 54 2 tm true 0 Cx:=lL (nat:=jF) (fun p:Gk=>(p.T - p.t).toNat) (fun b j x h=>(cu OM (fun h=>(cu OW (fun h=>(by cases h)) h)) h)) (fun _ _ _ _=>rfl) fun p K hpre hK=>by
 dsimp only at hpre hK ⊢
 obtain⟨hf,y1,y2,y3⟩:=hpre
 have hw:=hf.w
 have hwp:=hw.ps
 have hw8:=hw.ss
 have yg {g:Prop} (h:g:=by first|(exact⟨hf.le (by omega),by omega,by omega⟩)|(have ha_:=(by assumption:PO p.f _ (fO _ _ _) _);exact⟨ha_.2.2 _ (by omega) (hf.le (by omega)),by omega,by omega⟩)|fail):g:=h
 have yp {g:Prop} (h:g:=by first|(exact GM (by omega) (by omega))|fail):g:=h
 have yb {g:Prop} (h:g:=by first|(have ha_:=(by assumption:PO p.f _ (fO _ _ _) _);have hb_:=(by assumption:PO _ _ (fX _ _) _);exact⟨Jm hf (by omega) (by omega) ha_ hb_,by omega,by omega,y3⟩)|fail):g:=h
 have yx {g:Prop} (h:g:=by first|(have ha_:=(by assumption:PO p.f _ (fO _ _ _) _);have hb_:=(by assumption:PO _ _ (fX _ _) _);exact wW hK fun r hz=>by(try dsimp only[oL,oN]at hz);exact rO y1 (by omega) hw ha_ hb_ hz)|fail):g:=h
 exact wz
structure rq where
 f:Fd
 T:Int
structure Zm where
 f:Fd
noncomputable def ZW (p:rq):IE:=([.ptr 0 0,.ptr 1 0,.sy (.int 0 p.T)],(dy p.f),5)
theorem AP:dk Tryz.prog 15 2 (aO (fun p:rq=>([.ptr 0 0,.ptr 1 0,.sy (.int 0 p.T)],(dy p.f),5)) (fun p=>FC (p.T*3008) p.f∧0≤p.T∧p.T≤1000) (fun p K=>aj fun r:Zm=>iP (PO p.f r.f (cW p.T.toNat p.f.er) (p.T*3008)) (K (.tup []) (dy r.f) 5) true)):=Kc (nat:=jF) Dw (dC OP) fun p K hpre hK=>by
 dsimp only at hpre hK ⊢
 have nnr:=trivial
 have yg {g:Prop} (h:g:=by first|(exact⟨by rw[Int.sub_zero];exact hpre.1,by omega,hpre.2.1,hpre.2.2⟩)|fail):g:=h
 have yp {g:Prop} (h:g:=by first|(have h_:=hi;rw[Int.sub_zero]at h_;exact h_)|fail):g:=h
 exact wz
noncomputable def mr:NN:=ia jF AP [(0,4),(1,20)]
end Go.Proofs.Tryz
namespace Go.Proofs.Tryz
open Go Go.RowKit Go.Sy
open Go.Eng hiding aj
set_option linter.unusedVariables false
structure Sg where
 k:Int
 x:Int
 y:Int
 i:Int
def ade {α:Type} (l:List α) (k j:Int):List α:=if k=5 then l else l.take j.toNat++l.drop (j.toNat+1)
def tj (x n:Int):Int:=(x.tmod n+n).tmod n
theorem oA (x n:Int) (h:0<n): -n<x.tmod n∧x.tmod n<n:=⟨by have:=Int.lt_tmod_of_pos x h;omega,Int.tmod_lt_of_pos x h⟩
theorem qY (x n:Int) (h:0<n):0≤(x.tmod n+n).tmod n∧(x.tmod n+n).tmod n<n:=⟨Int.tmod_nonneg n (by have:=oA x n h;omega),Int.tmod_lt_of_pos _ h⟩
def ajL (f:Fx) (s:Sg):Fx:=match f.fly[(tj s.i (f.fly.length:Int)).toNat]? with
 |none=>f
 |some t=>if s.k=6 then {f with fly:=ade f.fly s.k (tj s.i (f.fly.length:Int))} else eW {f with fly:=ade f.fly s.k (tj s.i (f.fly.length:Int))} t
def acP:Nat→Int→Fx→Fx
 |0,_,f=>f
 |n+1,x,f=>acP n x (ep f x)
def zy (n:Int):Ke:=⟨n.tmod 16,1+n.tdiv 16⟩
def iS (f:Fx) (s:Sg):Fx:=
 let x:=tj s.x (f.ss.length:Int)
 let a:=aI f.ss x.toNat
 if s.k=0 then ep f x
 else if 1≤s.k∧s.k≤6 then ajL f s
 else if s.k=7 then (if f.dn[x.toNat]?=some false then {f with n:=f.n+1,ss:=f.ss.set x.toNat (mV a (zy (f.n+1)))} else f)
 else if s.k=8 then {f with ss:=f.ss.set x.toNat (nY a (tj s.y (f.ss.length:Int)))}
 else if s.k=9 then {f with ss:=f.ss.set x.toNat (gB a)}
 else if s.k=10 then {f with ss:=f.ss.set x.toNat (fe a)}
 else if s.k=11 then {f with dn:=f.dn.set x.toNat true}
 else if s.k=12 then acP 10 x f
 else f
theorem PO.le {f g:Fd} {X:Fx} {a b:Int} (h:PO f g X a) (hb:a≤b):PO f g X b:=⟨h.1,h.2.1,fun c hc hf=>h.2.2 c hc (hf.le (by omega))⟩
theorem Jt {f:Fd} {i:Nat} {s:St} {m:Int} (hi:i<f.ss.length) (hs:∀B,SB B (aI f.ss i)→SB B s):PO f {f with ss:=f.ss.set i s,n:=m} {f.er with ss:=f.ss.set i s,n:=m} 0:=by
 refine⟨rfl,rfl,fun c hc hf=> ?_⟩
 obtain⟨B,h1,h2⟩:=hf.i
 refine⟨⟨by dsimp only;rw[List.length_set];exact hf.w.ps,by dsimp only;rw[List.length_set];exact hf.w.dn,by dsimp only;rw[List.length_set];exact hf.w.ss,hf.w.a,hf.w.L⟩,⟨B,⟨by show(f.ss.set i s).length≤8;rw[List.length_set];exact h1.ss,by show f.dn.length=(f.ss.set i s).length;rw[List.length_set];exact h1.dn,fun x hx=> ?_,h1.fly,h1.now⟩,by omega⟩,by have:=hf.now;dsimp only;omega,by have:=hf.L;dsimp only;omega⟩
 rcases oB hx with hx|rfl
 ·exact h1.s x hx
 ·exact hs B (h1.s _ (iV hi))
theorem EY {n:Int} (h:0≤n∧n≤2000):vF (zy n):=by
 refine⟨?_,?_,?_⟩<;>simp only[zy]
 ·exact Int.tmod_nonneg _ h.1
 ·have:=Int.tmod_lt_of_pos n (show(0:Int)<16 by decide);omega
 ·rw[Int.tdiv_eq_ediv_of_nonneg h.1];omega
section
variable {f g:Fd} {s:Sg}
theorem ajy {b:Bool} {i:Int} (hi:i=(s.x.tmod (f.ps.length:Int)+(f.ps.length:Int)).tmod (f.ps.length:Int)) (hw:FW f) (h0:0<f.ps.length) (hk:s.k=7) (hn:0≤f.n∧f.n≤1000) (hd:f.dn[i.toNat]?=some b) (hb:¬b=true):
  PO f {f with ss:=f.ss.set i.toNat (mV (aI f.ss i.toNat) (zy (f.n+1))),n:=f.n+1} (iS f.er s) 10:=by
 have hp:=hw.ps
 have m:=qY s.x f.ps.length (by omega)
 rw[←hi]at m
 refine((Jt (by omega) fun B h=>acT h (EY (by omega))).le (by omega)).eq ?_
 have e:b=false:=by simpa using hb
 subst e
 unfold iS tj
 dsimp only
 rw[show(f.er.ss.length:Int)=(f.ps.length:Int) from by show(f.ss.length:Int)=_;omega,←hi,if_neg (by omega),if_neg (by omega),if_pos hk,if_pos (show f.er.dn[i.toNat]?=some false from hd)]
 rfl
theorem ahY {b:Bool} {i:Int} (hi:i=(s.x.tmod (f.ps.length:Int)+(f.ps.length:Int)).tmod (f.ps.length:Int)) (hw:FW f) (hk:s.k=7) (hd:f.dn[i.toNat]?=some b) (hb:¬¬b=true):PO f f (iS f.er s) 10:=by
 have hp:=hw.ps
 refine(PO.refl (by omega)).eq ?_
 have e:b=true:=by simpa using hb
 subst e
 unfold iS tj
 dsimp only
 rw[show(f.er.ss.length:Int)=(f.ps.length:Int) from by show(f.ss.length:Int)=_;omega,←hi,if_neg (by omega),if_neg (by omega),if_pos hk,if_neg (show¬f.er.dn[i.toNat]?=some false from fun q=>by have q2:f.dn[i.toNat]?=some false:=q;rw[hd]at q2;cases q2)]
end
def bn (n:Nat):List Int:=(List.range n).map Int.ofNat
theorem gp {n:Nat}:(bn n).length=n:=by simp[bn]
theorem rP {n:Nat}:bn (n+1)=bn n++[(n:Int)]:=by simp[bn,List.range_succ]
theorem lY {n:Nat} (h:n≤8):NL (bn n):=by
 refine⟨?_,fun x hx=> ?_⟩
 ·unfold bn
  exact List.Pairwise.map _ (fun a b hab e=>hab (Int.ofNat.inj e)) List.nodup_range
 ·obtain⟨y,hy,rfl⟩:=List.mem_map.1 hx
  have:=List.mem_range.1 hy
  exact⟨Int.natCast_nonneg y,show(y:Int)<8 by omega⟩
theorem xF {n:Nat} (h:0<n):¬bn n=[]:=fun e=>by
 have:=congrArg List.length e
 rw[gp]at this
 simp at this;omega
def eG (l all:List Int) (n:Nat):List St:=(bn n).map fun j=>jt (fT j l) all
theorem fQ {l all:List Int} {n:Nat}:(eG l all n).length=n:=by simp[eG,gp]
theorem GJ {l all:List Int} {n:Nat}:eG l all (n+1)=eG l all n++[jt (fT n l) all]:=by simp[eG,rP]
def gA (k m:Nat):Fx:=⟨eG (bn k) (bn (k+m)) (k+m),List.replicate (k+m) false,[],0,0⟩
theorem WQ {l all:List Int} {n:Nat} (hl:NL l) (hne:¬l=[]) (ha:NL all) (hn:n≤8):∀x∈eG l all n,SB 1 x:=fun x hx=>by
 obtain⟨j,hj,rfl⟩:=List.mem_map.1 hx
 exact WO (JB ((lY hn).2 j hj) hl hne) ha
theorem Oz {f:Fd} {k m:Nat} (hk:0<k) (hkm:k+m≤8) (hp:f.ps.length=k+m) (hs:f.ss=eG (bn k) (bn (k+m)) (k+m)) (hd:f.dn=List.replicate (k+m) false) (hL:f.L=[]) (ha:f.a=0) (hn:f.now=0) (hc:f.n=0):f.er=gA k m∧FC 800000 f:=by
 have e:f.er=gA k m:=by
  unfold Fd.er gA
  rw[hs,hd,hL,ha,hn,hc];rfl
 refine⟨e,⟨⟨by rw[hp,hs,fQ],by rw[hd,hs,fQ,List.length_replicate],by rw[hs,fQ];exact hkm,by rw[ha];exact Nat.zero_le _,by rw[hL];exact Nat.zero_le _⟩,⟨1,?_,by decide⟩,by rw[hn];decide,by rw[hL];decide⟩⟩
 rw[e]
 exact⟨by show(eG _ _ _).length≤8;rw[fQ];exact hkm,by show(List.replicate _ _).length=(eG _ _ _).length;rw[fQ,List.length_replicate],WQ (lY (by omega)) (xF hk) (lY hkm) hkm,fun y hy=>(by cases hy),Int.le_refl 0⟩
theorem Ep {ss:List St} {s:St} {n:Nat} (h:n=ss.length):aI (ss++[s]) n=s:=by
 subst h
 unfold aI
 simp
theorem UU {ss:List St} {s t:St} {n:Nat} (h:n=ss.length):(ss++[s]).set n t=ss++[t]:=by
 subst h
 simp
section
variable {k m i:Int} {l b:List Int} {f:Fd} {z:Value}
theorem adH (y5:0≤i) (y8:b=bn i.toNat):(b.length:Int)=i:=by rw[y8,gp];omega
theorem Vp (y5:0≤i) (y1:1≤k) (y7:l=bn (min i k).toNat):(l.length:Int)=min i k:=by rw[y7,gp];omega
theorem Nz (y5:0≤i) (y8:b=bn i.toNat):b++[i]=bn (i+1).toNat:=by
 rw[show(i+1).toNat=i.toNat+1 by omega,rP,←y8,show((i.toNat:Nat):Int)=i by omega]
theorem ah9 (y5:0≤i) (h:i<k) (y7:l=bn (min i k).toNat):l++[i]=bn (min (i+1) k).toNat:=by
 rw[show min (i+1) k=i+1 by omega]
 rw[show min i k=i by omega]at y7
 exact Nz y5 y7
theorem ah8 (y5:0≤i) (y1:1≤k) (h:¬i<k) (y7:l=bn (min i k).toNat):l=bn (min (i+1) k).toNat:=by
 rw[show min (i+1) k=k by omega]
 rwa[show min i k=k by omega]at y7
theorem adI (y1:1≤k) (y2:k≤4) (y3:0≤m) (y4:m≤2) (y5:0≤i) (y6:i≤k+m) (h:¬i<k+m) (y7:l=bn (min i k).toNat) (y8:b=bn i.toNat):l=bn k.toNat∧b=bn (k+m).toNat:=by
 have e:i=k+m:=by omega
 rw[show min i k=k by omega]at y7
 exact⟨y7,by rw[y8,e]⟩
theorem AX (y5:0≤i) (y10:f.ss=eG l b i.toNat):(f.ss.length:Int)=i:=by rw[y10,fQ];omega
theorem aiq (y5:0≤i) (y11:f.dn=List.replicate i.toNat false):(f.dn.length:Int)=i:=by rw[y11,List.length_replicate];omega
theorem ajK (y8:b=bn (k+m).toNat):b.length=(k+m).toNat:=by rw[y8,gp]
theorem Kh (y1:1≤k) (y2:k≤4) (y3:0≤m) (y4:m≤2) (y5:0≤i) (h:i<k+m) (y7:l=bn k.toNat):NL l∧¬l=[]∧(0≤i∧i<8):=by
 subst y7
 exact⟨lY (by omega),xF (by omega),by omega,by omega⟩
theorem WN (y1:1≤k) (y2:k≤4) (y3:0≤m) (y4:m≤2) (y5:0≤i) (h:i<k+m) (y7:l=bn k.toNat) (y8:b=bn (k+m).toNat) (y9:(f.ps.length:Int)=i) (y10:f.ss=eG l b i.toNat):
  (f.ps++[z])[i.toNat]?=some z∧i.toNat<(f.ss++[fT i l]).length∧SI (aI (f.ss++[fT i l]) i.toNat)∧b.length≤1000:=by
 have ls:=AX y5 y10
 have n:=Kh y1 y2 y3 y4 y5 h y7
 have e:i.toNat=f.ps.length:=by omega
 refine⟨by rw[e];simp,by rw[akk,List.length_singleton];omega,?_,by rw[y8,gp];omega⟩
 rw[Ep (by omega)]
 exact(JB n.2.2 n.1 n.2.1).si
theorem WM (y1:1≤k) (y2:k≤4) (y3:0≤m) (y4:m≤2) (y5:0≤i) (h:i<k+m) (y7:l=bn k.toNat) (y8:b=bn (k+m).toNat) (y9:(f.ps.length:Int)=i) (y10:f.ss=eG l b i.toNat) (y11:f.dn=List.replicate i.toNat false) (y12:f.L=[]) (y13:f.a=0) (y14:f.now=0) (y15:f.n=0):
  1≤k∧k≤4∧0≤m∧m≤2∧0≤i+1∧i+1≤k+m∧l=bn k.toNat∧b=bn (k+m).toNat∧((f.ps++[z]).length:Int)=i+1∧(f.ss++[fT i l]).set i.toNat (jt (aI (f.ss++[fT i l]) i.toNat) b)=eG l b (i+1).toNat∧f.dn++[false]=List.replicate (i+1).toNat false∧f.L=[]∧f.a=0∧f.now=0∧f.n=0:=by
 have ls:=AX y5 y10
 refine⟨y1,y2,y3,y4,by omega,by omega,y7,y8,by rw[akk,List.length_singleton];omega,?_,?_,y12,y13,y14,y15⟩
 ·rw[Ep (by omega),UU (by omega),show(i+1).toNat=i.toNat+1 by omega,GJ,←y10,show((i.toNat:Nat):Int)=i by omega]
 ·rw[show(i+1).toNat=i.toNat+1 by omega,List.replicate_succ',←y11]
theorem aei (y1:1≤k) (y2:k≤4) (y3:0≤m) (y4:m≤2) (y5:0≤i) (y6:i≤k+m) (h:¬i<k+m) (y7:l=bn k.toNat) (y8:b=bn (k+m).toNat) (y9:(f.ps.length:Int)=i) (y10:f.ss=eG l b i.toNat) (y11:f.dn=List.replicate i.toNat false) (y12:f.L=[]) (y13:f.a=0) (y14:f.now=0) (y15:f.n=0):
  f.er=gA k.toNat m.toNat∧FC 800000 f:=by
 have e:i.toNat=k.toNat+m.toNat:=by omega
 have e2:(k+m).toNat=k.toNat+m.toNat:=by omega
 rw[e2]at y8
 refine Oz (by omega) (by omega) (by omega) (by rw[y10,y7,y8,e]) (by rw[y11,e]) y12 y13 y14 y15
end
end Go.Proofs.Tryz
namespace Go.Proofs.Tryz
open Go Go.RowKit Go.Sy
open Go.Eng hiding aj
set_option maxRecDepth 1000000
set_option linter.unusedVariables false
set_option maxHeartbeats 4000000
attribute [local irreducible] aq
noncomputable def bd_l_nms':NV (cS [] [] [] 0x1512d6988960ed17453ecc360fbc3824571ea1eb2586683a12c5fae51348f38dda4e503642ec4062b3fe1f14b6638cb1fcc5d376d958a1948b48a162):=⟨_,by conv=>rhs;reduce⟩
noncomputable abbrev Cy:XC:=bd_l_nms'.1
noncomputable def bd_l_sts':NV (cS [] [] [] 0xbf50049aeed3a91ebccfcc8b1a3931ae12dc4c91b7703ecc090fe4158558d82be519557bc7d9fb21a129f25f3f780c0caa49d1b1e350732b104f590395d982dafdec767efe595fef5ee2b52cda51aeeb115f3c86c):=⟨_,by conv=>rhs;reduce⟩
noncomputable abbrev Cv:XC:=bd_l_sts'.1
noncomputable def ft_madeG':NV (fun e0 e1 e2 e3 b0 b1=>aA [e0,e1,e2,e3] [] [b0,b1] 0x3a319f6f5fab963cf3f8d134fe9562e7115ab9d91eaeb0705afb895498441d80aceae22b080f5ea1f3125177fdd8d7f72d408d21fda4ffc803f11a6d):=⟨_,by conv=>rhs;reduce⟩
noncomputable abbrev Py:XF:=ft_madeG'.1 (eB 52 2 am) (eC 36 1 afB) (eC 4 1 TD) (eC 76 33 rf) Cy Cv
theorem DC:aK Tryz.prog 9 Py=true:=by kernel_rfl
structure Gi where
 k:Int
 m:Int
 lh:Value
 l:List Int
 bh:Value
 b:List Int
 f:Fd
 i:Int
structure Zx where
 f:Fd
structure Gl where
 k:Int
 m:Int
 l:List Int
 b:List Int
 i:Int
structure ZA where
 l:List Int
 b:List Int
noncomputable def Bf:bM:=ce (ce bQ 1 (fun p:Gi=>((.cons 9 (.sy (.int 0 p.i)) (.cons 7 (.sy (.imm p.bh 2 Int p.b am)) (.cons 6 (.sy (.imm p.lh 2 Int p.l am)) (.cons 5 (.ptr 1 0) (.cons 1 (.sy (.int 0 p.m)) (.cons 0 (.sy (.int 0 p.k)) .nil)))))),(dy p.f),5)) (fun p=>1≤p.k∧p.k≤4∧0≤p.m∧p.m≤2∧0≤p.i∧p.i≤p.k+p.m∧p.l=bn p.k.toNat∧p.b=bn (p.k+p.m).toNat∧(p.f.ps.length:Int)=p.i∧p.f.ss=eG p.l p.b p.i.toNat∧p.f.dn=List.replicate p.i.toNat false∧p.f.L=[]∧p.f.a=0∧p.f.now=0∧p.f.n=0) (fun p K=>aj fun r:Zx=>iP (r.f.er=gA p.k.toNat p.m.toNat∧FC 800000 r.f) (K 4 (.cons 5 (.ptr 1 0) .nil) (dy r.f) 5) true)) 0 (fun p:Gl=>((.cons 8 (.sy (.int 0 p.i)) (.cons 7 (.sy (.prow 3 p.b.length)) (.cons 6 (.sy (.prow 2 p.l.length)) (.cons 5 (.ptr 1 0) (.cons 1 (.sy (.int 0 p.m)) (.cons 0 (.sy (.int 0 p.k)) .nil)))))),(.node (.node (.node .leaf (some (aD p.b)) .leaf) (some (o_M)) .leaf) (some (.opq (List Value×List St) (([]:List Value),([]:List St)) bK)) (.node .leaf (some (aD p.l)) .leaf)),4)) (fun p=>1≤p.k∧p.k≤4∧0≤p.m∧p.m≤2∧0≤p.i∧p.i≤p.k+p.m∧p.l=bn (min p.i p.k).toNat∧p.b=bn p.i.toNat) (fun p K=>aj fun r:ZA=>iP (r.l=bn p.k.toNat∧r.b=bn (p.k+p.m).toNat) (K 2 (.cons 7 (.sy (.prow 3 r.b.length)) (.cons 6 (.sy (.prow 2 r.l.length)) (.cons 5 (.ptr 1 0) (.cons 1 (.sy (.int 0 p.m)) (.cons 0 (.sy (.int 0 p.k)) .nil))))) (.node (.node (.node .leaf (some (aD r.b)) .leaf) (some (o_M)) .leaf) (some (.opq (List Value×List St) (([]:List Value),([]:List St)) bK)) (.node .leaf (some (aD r.l)) .leaf)) 4) true)
theorem OR:bg Tryz.prog 67 1 Bf true 0 Cy:=lL (nat:=mr) (fun p:Gl=>(p.k+p.m - p.i).toNat) cq (fun _ _ _ _=>rfl) fun p K hpre hK=>by
 dsimp only at hpre hK ⊢
 obtain⟨y1,y2,y3,y4,y5,y6,y7,y8⟩:=hpre
 have lb_:=adH y5 y8
 have ll_:=Vp y5 y1 y7
 have ys {g:Prop} (h:g:=by first|(first|(simp[bU];omega)|(unfold bU;simp only[akk,akl,akn];omega);done)|fail):g:=h
 have yp {g:Prop} (h:g:=by first|(exact adI y1 y2 y3 y4 y5 y6 (by omega) y7 y8)|fail):g:=h
 have yb {g:Prop} (h:g:=by first|(first|exact⟨y1,y2,y3,y4,by omega,by omega,ah9 y5 (by omega) y7,Nz y5 y8⟩|exact⟨y1,y2,y3,y4,by omega,by omega,ah8 y5 y1 (by omega) y7,Nz y5 y8⟩)|fail):g:=h
 have yq {g:Prop} (h:g:=by first|(refine wX [_] (by first|exact sd|exact ys) ?_;exact wz)|fail):g:=h
 exact wz
theorem ON:bg Tryz.prog 67 1 Bf true 1 Cv:=lL (nat:=mr) (fun p:Gi=>(p.k+p.m - p.i).toNat) cq (fun _ _ _ _=>rfl) fun p K hpre hK=>by
 dsimp only at hpre hK ⊢
 obtain⟨y1,y2,y3,y4,y5,y6,y7,y8,y9,y10,y11,y12,y13,y14,y15⟩:=hpre
 have ls_:=AX y5 y10
 have ld_:=aiq y5 y11
 have lb_:=ajK y8
 have ys {g:Prop} (h:g:=by first|(first|(simp[bU];omega)|(unfold bU;simp only[akk,akl,akn];omega);done)|(exact⟨⟨.inr (.inr (.inr ⟨_,_,rfl,rfl,Iff.rfl⟩)),trivial⟩,trivial⟩)|fail):g:=h
 have yg {g:Prop} (h:g:=by first|(exact Kh y1 y2 y3 y4 y5 (by omega) y7)|(exact WN y1 y2 y3 y4 y5 (by omega) y7 y8 y9 y10)|fail):g:=h
 have yp {g:Prop} (h:g:=by first|(exact aei y1 y2 y3 y4 y5 y6 (by omega) y7 y8 y9 y10 y11 y12 y13 y14 y15)|fail):g:=h
 have yb {g:Prop} (h:g:=by first|(exact WM y1 y2 y3 y4 y5 (by omega) y7 y8 y9 y10 y11 y12 y13 y14 y15)|fail):g:=h
 have yx {g:Prop} (h:g:=by first|(exact wW hK fun r hz=>by(try dsimp only[oL,oN]at hz);exact hz)|fail):g:=h
 have yq {g:Prop} (h:g:=by first|(refine afT (.mk ..) (h:= ?_);dsimp only[la];exact wo)|(refine aiD (.mk _ _ p.i.toNat ..) (h:= ?_);dsimp only[nD];exact wo)|(refine wX [_] (by first|exact sd|exact ys) ?_;exact wz)|(exact jS (.mk _ _ _ _ _ _ (.mk ..) ..))|fail):g:=h
 exact wz
structure rA where
 k:Int
 m:Int
structure Zs where
 f:Fd
noncomputable def ZX (p:rA):IE:=([.ptr 0 0,.sy (.int 0 p.k),.sy (.int 0 p.m)],(.node .leaf (some (.opq (List Value×List St) (([]:List Value),([]:List St)) bK)) .leaf),1)
theorem AQ:dk Tryz.prog 9 1 (aO (fun p:rA=>([.ptr 0 0,.sy (.int 0 p.k),.sy (.int 0 p.m)],(.node .leaf (some (.opq (List Value×List St) (([]:List Value),([]:List St)) bK)) .leaf),1)) (fun p=>1≤p.k∧p.k≤4∧0≤p.m∧p.m≤2) (fun p K=>aj fun r:Zs=>iP (r.f.er=gA p.k.toNat p.m.toNat∧FC 800000 r.f) (K (.ptr 1 0) (dy r.f) 5) true)):=Kc (nat:=mr) DC (fun b j x h=>(cu OR (fun h=>(cu ON (fun h=>(by cases h)) h)) h)) fun p K hpre hK=>by
 dsimp only at hpre hK ⊢
 obtain⟨y1,y2,y3,y4⟩:=hpre
 have nnr:=trivial
 have yg {g:Prop} (h:g:=by first|(exact⟨by omega,by omega,by omega,by omega,by omega,by omega,by rw[Int.min_eq_left (by omega)];rfl,rfl⟩)|(exact⟨by omega,by omega,by omega,by omega,by omega,by omega,(hi).1,(hi).2,rfl,rfl,rfl,rfl,rfl,rfl,rfl⟩)|fail):g:=h
 have yp {g:Prop} (h:g:=by first|(exact hi)|fail):g:=h
 have yq {g:Prop} (h:g:=by first|(refine cn (.mk _ _ [] [] ..) (h:= ?_);exact wo)|(refine cn (.mk _ _ _ _ _ _ (.mk [] [] [] _ _ _ _ _ [] ..) ..) (h:= ?_);exact wo)|fail):g:=h
 exact wz
noncomputable def xQ:NN:=ia mr AQ [(0,20),(1,20)]
structure akb (a b:St):Prop where
 same:0<a.N→0<b.N→a.N=b.N→a.m=b.m
 beg:((cO a).take (cG a).toNat).take (min ((cO a).take (cG a).toNat).length ((cO b).take (cG b).toNat).length)=((cO b).take (cG b).toNat).take (min ((cO a).take (cG a).toNat).length ((cO b).take (cG b).toNat).length)
structure nU (f:Fx):Prop where
 com:∀i,i<f.ss.length→0≤cG (aI f.ss i)∧cG (aI f.ss i)≤((cO (aI f.ss i)).length:Int)∧(cO (aI f.ss i)).length≤400
 pair:∀i k,i<f.ss.length→k<i→akb (aI f.ss i) (aI f.ss k)
theorem oS {f:Fd} {k:Int} {i:Nat} (h:FC k f) (hi:i<f.ss.length):SI (aI f.ss i):=by
 obtain⟨B,h1,_⟩:=h.i
 exact(h1.s _ (iV (ss:=f.ss) hi)).si
theorem YO {f:Fd} {l m:List Ke} {a b:Int} {i k:Nat} (hR:nU f.er) (hi:i<f.ss.length) (hk:k<i) (h1:l=cO (aI f.ss i)) (h2:m=cO (aI f.ss k)) (h3:a=cG (aI f.ss i)) (h4:b=cG (aI f.ss k)):
  ((l.drop 0).take (a.toNat - 0)).take (min ((l.drop 0).take (a.toNat - 0)).length ((m.drop 0).take (b.toNat - 0)).length)=((m.drop 0).take (b.toNat - 0)).take (min ((l.drop 0).take (a.toNat - 0)).length ((m.drop 0).take (b.toNat - 0)).length)∧((l.drop 0).take (a.toNat - 0)).length≤400∧((m.drop 0).take (b.toNat - 0)).length≤400:=by
 subst h1 h2 h3 h4
 have q1:(cO (aI f.ss i)).length≤400:=(hR.com i hi).2.2
 have q2:(cO (aI f.ss k)).length≤400:=(hR.com k (by show k<f.ss.length;omega)).2.2
 simp only[List.drop_zero,Nat.sub_zero]
 exact⟨(hR.pair i k hi hk).beg,by rw[akA];omega,by rw[akA];omega⟩
theorem ajA {s:St} (h:SI s) (h0:0<s.N):s.m.length≤8:=ah (h.1 h0).1.r.nl
noncomputable def ft_beginG':NV (aA [] [] [] 0x72eaf07f932d4b3539211c2b854e604c873ffa24d9e22243d2ded):=⟨_,by conv=>rhs;reduce⟩
noncomputable abbrev Lp:XF:=ft_beginG'.1
theorem BP:aK Tryz.prog 31 Lp=true:=by kernel_rfl
structure Ry where
 h:Value
 l:List Ke
 g:Value
 m:List Ke
theorem JV:aB Tryz.prog 31 0 (aO (fun p:Ry=>([.sy (.imm p.h 18 Ke p.l aF),.sy (.imm p.g 18 Ke p.m aF)],.leaf,0)) (fun p=>p.l.take (min p.l.length p.m.length)=p.m.take (min p.l.length p.m.length)∧p.l.length≤400∧p.m.length≤400) (fun p K=>K (.bool true) .leaf 0)):=nE (nat:=xQ) BP fun p K hpre hK=>by
 dsimp only at hpre hK ⊢
 obtain⟨g1,g2,g3⟩:=hpre
 have ys {g:Prop} (h:g:=by first|(first|omega|(simp only[akA,akJ];omega);done)|fail):g:=h
 have yg {g:Prop} (h:g:=by first|(exact⟨by simp only[show Int.toNat 0=0 from rfl,List.drop_zero,Nat.sub_zero];rw[show(min (p.l.length:Int) (p.m.length:Int)).toNat=min p.l.length p.m.length by omega];exact g1,by first|omega|(simp only[akA,akJ];omega)⟩)|fail):g:=h
 exact wz
noncomputable def kn:NN:=bW xQ JV [(0,23),(1,23)]
noncomputable def bd_l_rk':NV (cS [] [] [] 0x100def09b08c401e3337dda768444d48478a769fc0905f9658e125cb1dcce363c7ef8e3b9c7fb2b08129f0acff19ef60bba6952b79a65ae9357ff7e6b991f1bb0bca9634899c3657f9c5c7434a969ac61267cfce1a9f2e841330d7a78b34414a3793df4d657c543aa23a9d7f0aa085882339a33be52bac10ba438a7d8e53c0c77b7fc8b8da419378dcd4):=⟨_,by conv=>rhs;reduce⟩
noncomputable abbrev FN:XC:=bd_l_rk'.1
noncomputable def bd_l_ri':NV (fun b0=>cS [] [] [b0] 0x257e7d785657143b60004b718bfd1fbf2b8d1aaa416d52d2353f801d889af64e0182d0ea122a170ef6a137bff91b9225f23771f066cf785585299c29042d3312):=⟨_,by conv=>rhs;reduce⟩
noncomputable abbrev FO:XC:=bd_l_ri'.1 FN
noncomputable def ft_rightF':NV (fun b0=>aA [] [] [b0] 0x37bf3e63eee1fa0c86fd8778cc81e5567):=⟨_,by conv=>rhs;reduce⟩
noncomputable abbrev La:XF:=ft_rightF'.1 FO
theorem BK:aK Tryz.prog 11 La=true:=by kernel_rfl
structure MF where
 f:Fd
 i:Int
structure ME where
 f:Fd
 i:Int
 ha:Value
 lh:Value
 l:List Ke
 k:Int
noncomputable def yk:bM:=ce (ce bQ 0 (fun p:MF=>((.cons 3 (.sy (.int 0 p.i)) (.cons 0 (.ptr 1 0) .nil)),(dy p.f),5)) (fun p=>FC 0 p.f∧nU p.f.er∧0≤p.i∧p.i≤(p.f.ps.length:Int)) (fun p K=>K 2 .nil (dy p.f) 5)) 1 (fun p:ME=>((.cons 6 (.sy (.int 0 p.k)) (.cons 5 (.sy (.imm p.lh 18 Ke p.l aF)) (.cons 4 (hv p.ha) (.cons 3 (.sy (.int 0 p.i)) (.cons 0 (.ptr 1 0) .nil))))),(dy p.f),5)) (fun p=>FC 0 p.f∧nU p.f.er∧0≤p.i∧p.i<(p.f.ps.length:Int)∧p.f.ps[p.i.toNat]?=some p.ha∧p.l=cO (aI p.f.ss p.i.toNat)∧0≤p.k∧p.k≤p.i) (fun p K=>K 4 (.cons 3 (.sy (.int 0 p.i)) (.cons 0 (.ptr 1 0) .nil)) (dy p.f) 5)
theorem WX:bg Tryz.prog 81 2 yk true 1 FN:=lL (nat:=kn) (fun p:ME=>(p.i - p.k).toNat) cq (fun _ _ _ _=>rfl) fun p K hpre hK=>by
 dsimp only at hpre hK ⊢
 obtain⟨hf,hR,y1,y2,y3,y4,y5,y6⟩:=hpre
 have hw:=hf.w
 have hwp:=hw.ps
 have hw8:=hw.ss
 have q1:0≤cG (aI p.f.ss p.i.toNat)∧cG (aI p.f.ss p.i.toNat)≤((cO (aI p.f.ss p.i.toNat)).length:Int)∧(cO (aI p.f.ss p.i.toNat)).length≤400:=hR.com p.i.toNat (by show _<p.f.ss.length;omega)
 have e1_:=congrArg List.length y4
 have hsi:=oS hf (i:=p.i.toNat) (by omega)
 have nnq:=trivial
 have ys {g:Prop} (h:g:=by first|(have q2:0≤cG (aI p.f.ss p.k.toNat)∧cG (aI p.f.ss p.k.toNat)≤((cO (aI p.f.ss p.k.toNat)).length:Int)∧(cO (aI p.f.ss p.k.toNat)).length≤400:=hR.com p.k.toNat (by show _<p.f.ss.length;omega);have e2_:=congrArg List.length (by assumption:_=cO (aI p.f.ss p.k.toNat));omega)|fail):g:=h
 have yd {g:Prop} (h:g:=by first|(exfalso;first|omega|(have s_:(aI p.f.ss p.i.toNat).m=(aI p.f.ss p.k.toNat).m:=(hR.pair p.i.toNat p.k.toNat (by show _<p.f.ss.length;omega) (by omega)).same (by assumption) (by assumption) (by show(aI p.f.ss p.i.toNat).N=(aI p.f.ss p.k.toNat).N;omega);exact hc ((And.right (by assumption:_=(aI p.f.ss p.i.toNat).N∧_=(aI p.f.ss p.i.toNat).m)).trans (s_.trans (And.right (by assumption:_=(aI p.f.ss p.k.toNat).N∧_=(aI p.f.ss p.k.toNat).m)).symm))))|fail):g:=h
 have yg {g:Prop} (h:g:=by first|(first|exact⟨y3,by omega,hsi⟩|exact⟨by assumption,by omega,oS hf (by omega)⟩)|(refine Nat.le_trans (Nat.le_of_eq (congrArg List.length (And.right (by assumption:_=(aI p.f.ss p.i.toNat).N∧_=(aI p.f.ss p.i.toNat).m)))) (Nat.le_trans (ajA hsi (by first|assumption|exact(by assumption:_↔0<(aI p.f.ss p.i.toNat).N).1 (by assumption))) (show 8≤1000000 by decide)))|(exact YO (i:=p.i.toNat) (k:=p.k.toNat) hR (by omega) (by omega) y4 (by assumption) (by assumption) (by assumption))|fail):g:=h
 have yb {g:Prop} (h:g:=by first|(exact⟨hf,hR,y1,y2,y3,y4,by omega,by omega⟩)|fail):g:=h
 have yq {g:Prop} (h:g:=by first|(refine TI (.mk _ _ p.k.toNat ..) (h:= ?_);dsimp only[kE,uh,Bp];exact wo)|(refine Iu (.mk _ _ p.i.toNat ..) (h:= ?_);dsimp only[iY,pH,uR];exact wo)|(refine Iu (.mk _ _ p.k.toNat ..) (h:= ?_);dsimp only[iY,pH,uR];exact wo)|(refine zH (.mk _ _ p.i.toNat ..) (h:= ?_);dsimp only[hX,nB,pY];exact wo)|(refine zH (.mk _ _ p.k.toNat ..) (h:= ?_);dsimp only[hX,nB,pY];exact wo)|(refine vk (.mk _ _ p.i.toNat ..) (h:= ?_);dsimp only[gw,kY,nL];exact wo)|(refine vk (.mk _ _ p.k.toNat ..) (h:= ?_);dsimp only[gw,kY,nL];exact wo)|fail):g:=h
 exact wz
theorem WY:bg Tryz.prog 81 2 yk true 0 FO:=lL (nat:=kn) (fun p:MF=>((p.f.ps.length:Int) - p.i).toNat) (dC WX) (fun _ _ _ _=>rfl) fun p K hpre hK=>by
 dsimp only at hpre hK ⊢
 obtain⟨hf,hR,y1,y2⟩:=hpre
 have hw:=hf.w
 have hwp:=hw.ps
 have hw8:=hw.ss
 have yd {g:Prop} (h:g:=by first|(exfalso;have q1:0≤cG (aI p.f.ss p.i.toNat)∧cG (aI p.f.ss p.i.toNat)≤((cO (aI p.f.ss p.i.toNat)).length:Int)∧(cO (aI p.f.ss p.i.toNat)).length≤400:=hR.com p.i.toNat (by show _<p.f.ss.length;omega);have e2_:=congrArg List.length (by assumption:_=cO (aI p.f.ss p.i.toNat));omega)|fail):g:=h
 have yg {g:Prop} (h:g:=by first|(first|exact⟨y3,by omega,hsi⟩|exact⟨by assumption,by omega,oS hf (by omega)⟩)|(exact⟨hf,hR,by omega,by omega,by assumption,by assumption,by omega,by omega⟩)|fail):g:=h
 have yb {g:Prop} (h:g:=by first|(exact⟨hf,hR,by omega,by omega⟩)|fail):g:=h
 have yq {g:Prop} (h:g:=by first|(refine TI (.mk _ _ p.i.toNat ..) (h:= ?_);dsimp only[kE,uh,Bp];exact wo)|(refine vk (.mk _ _ p.i.toNat ..) (h:= ?_);dsimp only[gw,kY,nL];exact wo)|fail):g:=h
 exact wz
structure Rp where
 f:Fd
theorem JL:dk Tryz.prog 11 2 (aO (fun p:Rp=>([.ptr 0 0,.ptr 1 0],(dy p.f),5)) (fun p=>FC 0 p.f∧nU p.f.er) (fun p K=>K (.bool true) (dy p.f) 5)):=Kc (nat:=kn) BK (dC WY) fun p K hpre hK=>by
 dsimp only at hpre hK ⊢
 obtain⟨hf,hR⟩:=hpre
 have yg {g:Prop} (h:g:=by first|(exact⟨hf,hR,by omega,by omega⟩)|fail):g:=h
 exact wz
noncomputable def GX:NN:=ia kn JL [(0,4)]
end Go.Proofs.Tryz
namespace Go.Proofs.Tryz
open Go Go.RowKit Go.Sy
open Go.Eng hiding aj
set_option linter.unusedVariables false
def s7:Sg:=⟨7,0,0,0⟩
def pZ:Nat→Fx→Fx
 |0,f=>f
 |n+1,f=>iS (pZ n f) s7
def TJ (g:St→St) (i:Nat) (f:Fx):Fx:={f with ss:=f.ss.set i (g (aI f.ss i))}
def X4 (k n:Nat):Fx:=cW 30 (TJ gB k (cW 5 (pZ n (gA k 1))))
def X6 (k n lv:Nat):Fx:=cW 40 (TJ fe lv (X4 k n))
structure C4 (k n:Nat) (f:Fx):Prop where
 c:∀i,i<k+1→(aI f.ss i).N=2∧((aI f.ss i).m.length:Int)=k+1∧cG (aI f.ss i)=n
structure C6 (k n lv:Nat) (f:Fx):Prop where
 c:∀i,i<k+1→((0<(aI f.ss i).N)↔¬i=lv)∧(¬i=lv→(aI f.ss i).N=3∧((aI f.ss i).m.length:Int)=k)∧cG (aI f.ss i)=n
structure JP (k n lv:Nat):Prop where
 a:C4 k n (X4 k n)
 b:¬k=1→C6 k n lv (X6 k n lv)
 r:nU (X6 k n lv)
theorem ahZ {f:Fx} (h:0≤f.n):0≤(iS f s7).n∧(iS f s7).n≤f.n+1:=by
 unfold iS
 dsimp only
 rw[if_neg (show¬s7.k=0 by decide),if_neg (show¬(1≤s7.k∧s7.k≤6) by decide),if_pos (show s7.k=7 from rfl)]
 split
 ·exact⟨by dsimp only;omega,by dsimp only;omega⟩
 ·omega
theorem PO.fc {f g:Fd} {X:Fx} {k c:Int} (h:PO f g X k) (hf:FC (k+c) f) (hc:0≤c):FC c g:=h.2.2 c hc hf
theorem Oy {f:Fd} {k m:Nat} (h:f.er=gA k m) (hf:FC 800000 f):f.ps.length=k+m∧f.n=0:=by
 refine⟨?_,congrArg Fx.n h⟩
 have e:f.ss.length=(eG (bn k) (bn (k+m)) (k+m)).length:=congrArg (fun x=>x.ss.length) h
 rw[hf.w.ps,e,fQ]
theorem Xo {f g:Fd} {X:Fx} {i k:Int} (h5:0≤i) (he:f.er=pZ i.toNat X) (hn:0≤f.n∧f.n≤i) (hp:(f.ps.length:Int)=k+1) {c:Int} (hc:0≤c) (hf:FC (10+c) f) (h:PO f g (iS f.er s7) 10):g.er=pZ (i+1).toNat X∧FC c g∧(g.ps.length:Int)=k+1∧0≤g.n∧g.n≤i+1:=by
 have e:g.n=(iS f.er s7).n:=congrArg Fx.n h.1
 have q:=ahZ (f:=f.er) hn.1
 have q2:f.er.n=f.n:=rfl
 refine⟨?_,h.fc hf hc,by rw[h.2.1];exact hp,by omega,by omega⟩
 rw[show(i+1).toNat=i.toNat+1 by omega,pZ,h.1,he]
theorem fC {f:Fd} {i:Nat} {c:Int} {s:St} (hi:i<f.ss.length) (hs:∀B,SB B (aI f.ss i)→SB B s) (hc:0≤c) (hf:FC c f):FC c {f with ss:=f.ss.set i s}:=(Jt (m:=f.n) hi hs).fc (by rw[Int.zero_add];exact hf) hc
theorem k4 (z:Int): -4<z.tmod 4∧z.tmod 4<4∧0≤(z.tmod 4+4).tmod 4∧(z.tmod 4+4).tmod 4<4:=⟨(oA z 4 (by decide)).1,(oA z 4 (by decide)).2,(qY z 4 (by decide)).1,(qY z 4 (by decide)).2⟩
theorem k20 (z:Int): -20<z.tmod 20∧z.tmod 20<20∧0≤(z.tmod 20+20).tmod 20∧(z.tmod 20+20).tmod 20<20:=⟨(oA z 20 (by decide)).1,(oA z 20 (by decide)).2,(qY z 20 (by decide)).1,(qY z 20 (by decide)).2⟩
theorem kl (z k:Int) (h:0≤k): -(k+1)<z.tmod (k+1)∧z.tmod (k+1)<k+1∧0≤((z.tmod (k+1)+k)+1).tmod (k+1)∧((z.tmod (k+1)+k)+1).tmod (k+1)<k+1:=by
 have m:=oA z (k+1) (by omega)
 exact⟨m.1,m.2,Int.tmod_nonneg _ (by omega),Int.tmod_lt_of_pos _ (by omega)⟩
theorem qL {f2 f3 f4:Fd} {k n:Int} {i:Nat} {a b:Int} (h2:f2.er=pZ n.toNat (gA k.toNat 1)) (h3:PO f2 f3 (cW 5 f2.er) a) (hi:i=k.toNat) (h4:PO {f3 with ss:=f3.ss.set i (gB (aI f3.ss i))} f4 (cW 30 ({f3 with ss:=f3.ss.set i (gB (aI f3.ss i))}:Fd).er) b):f4.er=X4 k.toNat n.toNat:=by
 subst hi
 refine h4.1.trans ?_
 show cW 30 (TJ gB k.toNat f3.er)=_
 rw[h3.1,h2];rfl
theorem RG {f4 f5:Fd} {k n l:Int} {b:Int} (h4:f4.er=X4 k.toNat n.toNat) (h5:PO {f4 with ss:=f4.ss.set l.toNat (fe (aI f4.ss l.toNat))} f5 (cW 40 ({f4 with ss:=f4.ss.set l.toNat (fe (aI f4.ss l.toNat))}:Fd).er) b):f5.er=X6 k.toNat n.toNat l.toNat:=by
 refine h5.1.trans ?_
 show cW 40 (TJ fe l.toNat f4.er)=_
 rw[h4];rfl
end Go.Proofs.Tryz
namespace Go.Proofs.Tryz
open Go Go.RowKit Go.Sy
open Go.Eng hiding aj
set_option maxRecDepth 1000000
set_option linter.unusedVariables false
set_option maxHeartbeats 4000000
attribute [local irreducible] aq
noncomputable def ft_knows':NV (aA [] [] [] 0x2b93343686a3da0e3a02b0c712353686cf3605bae9cef850825836a62b64f359c9fd40679eba89d4f41e263f19e57d4201e8c562b3365210e3b3ccafeb23a10e5070766e3b96905a1867):=⟨_,by conv=>rhs;reduce⟩
noncomputable abbrev PA:XF:=ft_knows'.1
theorem DE:aK Tryz.prog 8 PA=true:=by kernel_rfl
abbrev aap:=Unit
theorem NU:aB Tryz.prog 8 0 (aO (fun p:aap=>([],.leaf,0)) (fun _=>True) (fun p K=>K (.bool true) .leaf 0)):=nE (nat:=TT) DE fun p K hpre hK=>by
 dsimp only at hpre hK ⊢
 exact wz
noncomputable def xS:NN:=bW GX NU []
theorem k16 {n:Int} (h:0≤n):0≤n.tmod 16∧n.tmod 16<16∧0≤n.tdiv 16∧n.tdiv 16≤n:=⟨Int.tmod_nonneg _ h,Int.tmod_lt_of_pos n (by decide),by rw[Int.tdiv_eq_ediv_of_nonneg h];omega,by rw[Int.tdiv_eq_ediv_of_nonneg h];omega⟩
noncomputable def ft_do7':NV (aA [] [] [] 0x97d014758ae1d5f2993b38b294f858dbeddcd162573d18906595bfa645708a6dbf89ed9dfdbb34cc5a895579d5fca0badc2ff305d6e9022f81540addc7811c9ba4a0945ee678f6bff830ad4df9bdc0e237d448b6d248bce2652aa5c3262ad7f7b9cb8a4c54fb07b9b77d7f4528ab96176bbb5d0f42f599b162d0a4bb1f13cc33a886196c43b9918cd55b0cfa37b1d3a19ecbaced90bde7a16c818fb222cb2623f403cba554dd8b06ab7d40b4dfc15f5b84a81fbdd38a0f65466cc2cb1ac2f50e1ede48d2987244f3b67cec63a155dd4978d8d44b775cdde89d454078d1be41342d139e5ff0aff8604e94786e3071a79918c9619dcea56511c19ede795a6b3b0844d79d8d46a4642a2bf6ce1f19634f27ca26cdb607f9b283748504eb49aa5157207bcd68723668bce3169eee17328bab9c32c8249c8478893eea599992ebf74d04b045025e951a3b727722e015f16af9592f6f0572f2452861a1264415d750783f1b6c29a14a856ac2a6bdfe35d3df58dce1f15fdd0ae81767388097ffe219468dc1cbda9a886a7e7d7b0df5637fdf59c59d2fc18977d5d6f588cd61d475e5769401e212):=⟨_,by conv=>rhs;reduce⟩
noncomputable abbrev afg:XF:=ft_do7'.1
theorem Lm:aK Tryz.prog 10 afg=true:=by kernel_rfl
structure ajp where
 f:Fd
structure ai0 where
 f:Fd
theorem ad1:dk Tryz.prog 10 2 (aO (fun p:ajp=>([.ptr 0 0,.ptr 1 0,.agg [.int 0 (.ofNat 7),.int 0 (.ofNat 0),.int 0 (.ofNat 0),.int 0 (.ofNat 0)]],(dy p.f),5)) (fun p=>FC 10 p.f∧0<p.f.ps.length∧0≤p.f.n∧p.f.n≤1000) (fun p K=>aj fun r:ai0=>iP (PO p.f r.f (iS p.f.er s7) 10) (K (.tup []) (dy r.f) 5) true)):=nQE (nat:=xS) Lm fun p K hpre hK=>by
 dsimp only at hpre hK ⊢
 obtain⟨hf,hp0,c0,c1⟩:=hpre
 have hw:=hf.w
 have hwp:=hw.ps
 have hw8:=hw.ss
 have hnow:=hf.now
 have hL:=hf.L
 obtain⟨Bq,bq,hB⟩:=hf.i
 have m0:=oA 0 p.f.ps.length (by omega)
 have m1:=qY 0 p.f.ps.length (by omega)
 have hwd:=hw.dn
 have nnx:=trivial
 have ys {g:Prop} (h:g:=by first|(simp only[mP];first|omega|(have t5:=k16 (n:=p.f.n+1) (by omega);omega);done)|(decide)|(have e2l:x3=x2:=akH ((by assumption:_=some x3).symm.trans (by assumption:_=some x2));subst e2l;rfl)|fail):g:=h
 have yg {g:Prop} (h:g:=by first|(exact⟨by assumption,by omega,(bq.s _ (iV (n:=(Int.tmod _ (p.f.ps.length:Int)).toNat) (by show _<p.f.ss.length;omega))).si,EY (by omega)⟩)|fail):g:=h
 have yp {g:Prop} (h:g:=by first|(first|exact ajy (s:=s7) rfl hw hp0 rfl ⟨c0,c1⟩ (by assumption) (by assumption)|exact ahY (s:=s7) rfl hw rfl (by assumption) (by assumption))|fail):g:=h
 have yz {g:Prop} (h:g:=by first|(have e2l:x3=x2:=akH ((by assumption:_=some x3).symm.trans (by assumption:_=some x2));subst e2l;rfl)|fail):g:=h
 have yq {g:Prop} (h:g:=by first|(refine aiC (.mk _ _ ((((0:Int).tmod (p.f.ps.length:Int)+(p.f.ps.length:Int)).tmod (p.f.ps.length:Int)).toNat) _ (.mk ..) ..) (h:= ?_);dsimp only[nC,Ak,Kx];exact wo)|fail):g:=h
 exact wz
noncomputable def VE:NN:=ia xS ad1 [(0,4),(1,15)]
structure nV where
 f:Fd
 T:Nat
structure Me where
 f:Fd
def vT (p:nV) (r:Me):Prop:=PO p.f r.f (cW p.T p.f.er) ((p.T:Int)*3008)
noncomputable def lR (p:nV):IE:=([.ptr 0 0,.ptr 1 0,.int 0 (.ofNat p.T)],(dy p.f),5)
noncomputable def EX (p:nV) (K:KE) (r:Me):Bool:=K (.tup []) (dy r.f) 5
noncomputable def kZ (p:nV) (K:KE):Bool:=aj fun r=>iP (vT p r) (EX p K r) true
def kW (p:nV):Prop:=FC ((p.T:Int)*3008) p.f∧p.T≤1000
theorem afS {s:IE} {K:KE} (w:nV) (e:∀t,lR w=t→s=t:=by first|(intro t h;dsimp only[lR,dy,Fm]at h;subst h;exact rfl)|fail) (g:kW w:=by first|((try dsimp only[kW,oL,oN,Int.reduceNegSucc]);first|done|exact yg|trivial|assumption|omega)|fail) (h:kZ w K=true):Cl s lR kW kZ K:=wS w e g h
theorem Vk:dk Tryz.prog 15 2 (fg lR (iu kW kZ)):=by
 intro us xs E ρ G F M nx w K R hE hs hd hk0 hr
 obtain⟨p,hk1⟩:=bj hk0
 obtain⟨hI,hk2⟩:=ai hk1
 obtain⟨hpre,hk3⟩:=ai (show ac (aq (kW p)) (kZ p K)=true from hk2)
 clear hk0 hk1 hk2
 have e1:us=(lR p).1:=congrArg Prod.fst hI
 have e2:M=(lR p).2.1:=congrArg (fun x=>x.2.1) hI
 have e3:nx=(lR p).2.2:=congrArg (fun x=>x.2.2) hI
 subst e1;subst e2;subst e3
 have hd2:ax E ρ (ZW (⟨p.f,(p.T:Int)⟩:rq)).1=some xs:=hd
 exact AP _ xs E ρ G F _ _ w K R hE hs hd2 (aW (⟨p.f,(p.T:Int)⟩:rq) (aM rfl (aM ⟨hpre.1,Int.natCast_nonneg _,by have:=hpre.2;dsimp only;omega⟩ (aP fun r=>iI (fun h=>dx (show vT p ⟨r.f⟩ from h) (aU hk3 ⟨r.f⟩)) (fun _=>rfl))))) hr
noncomputable def NA:NN:=ia VE Vk [(0,4),(1,1)]
structure kP where
 k:Int
 m:Nat
structure Gc where
 f:Fd
def sP (p:kP) (r:Gc):Prop:=r.f.er=gA p.k.toNat p.m∧FC 800000 r.f
noncomputable def jg (p:kP):IE:=([.ptr 0 0,.sy (.int 0 p.k),.int 0 (.ofNat p.m)],(.node .leaf (some (.opq (List Value×List St) (([]:List Value),([]:List St)) bK)) .leaf),1)
noncomputable def Bs (p:kP) (K:KE) (r:Gc):Bool:=K (.ptr 1 0) (dy r.f) 5
noncomputable def jB (p:kP) (K:KE):Bool:=aj fun r=>iP (sP p r) (Bs p K r) true
def jy (p:kP):Prop:=1≤p.k∧p.k≤4∧p.m≤2
theorem YI {s:IE} {K:KE} (w:kP) (e:∀t,jg w=t→s=t:=by first|(intro t h;dsimp only[jg]at h;subst h;exact rfl)|fail) (g:jy w:=by first|((try dsimp only[jy,oL,oN,Int.reduceNegSucc]);first|done|exact yg|trivial|assumption|omega)|fail) (h:jB w K=true):Cl s jg jy jB K:=wS w e g h
theorem Nw:dk Tryz.prog 9 1 (fg jg (iu jy jB)):=by
 intro us xs E ρ G F M nx w K R hE hs hd hk0 hr
 obtain⟨p,hk1⟩:=bj hk0
 obtain⟨hI,hk2⟩:=ai hk1
 obtain⟨hpre,hk3⟩:=ai (show ac (aq (jy p)) (jB p K)=true from hk2)
 clear hk0 hk1 hk2
 have e1:us=(jg p).1:=congrArg Prod.fst hI
 have e2:M=(jg p).2.1:=congrArg (fun x=>x.2.1) hI
 have e3:nx=(jg p).2.2:=congrArg (fun x=>x.2.2) hI
 subst e1;subst e2;subst e3
 have hd2:ax E ρ (ZX (⟨p.k,(p.m:Int)⟩:rA)).1=some xs:=hd
 exact AQ _ xs E ρ G F _ _ w K R hE hs hd2 (aW (⟨p.k,(p.m:Int)⟩:rA) (aM rfl (aM ⟨hpre.1,hpre.2.1,Int.natCast_nonneg _,by have:=hpre.2.2;dsimp only;omega⟩ (aP fun r=>iI (fun h=>dx (show sP p ⟨r.f⟩ from h) (aU hk3 ⟨r.f⟩)) (fun _=>rfl))))) hr
noncomputable def my:NN:=ia NA Nw [(0,20),(1,1)]
attribute [local irreducible] cW gA iS
noncomputable def bd_l_ja':NV (cS [] [] [] 0x89b96197e69727690147b746fdcc7289435786506af9fe108c4ea5bb60f9ed28):=⟨_,by conv=>rhs;reduce⟩
noncomputable abbrev FR:XC:=bd_l_ja'.1
noncomputable def bd_l_jb':NV (cS [] [] [] 0x3b0ee91e8eb262b82252b51ec77120a7718707b9b389da6d45c295fd7dbda3c726d17721c659aa36012e7e051aabae6e05ff27aa14d4245376238269da98270e44244a6ddf8697a51fac7ba8bff735a7ebb0779a211f):=⟨_,by conv=>rhs;reduce⟩
noncomputable abbrev FQ:XC:=bd_l_jb'.1
noncomputable def bd_l_jc':NV (cS [] [] [] 0x47645a7d93ed36793fd1dd38bc0d91fdcce6f1decf88e0ac94347c4decd2c9b18866c862991f49920a4d95a40b680c621d4164042c374c727e002219f75307185a375074c2e69afb593226a9385df848c802cb11963a0616ddf2208be2a630863089627821e16e63a8f0748c4616117a5eb4ef29f50a1cfdd):=⟨_,by conv=>rhs;reduce⟩
noncomputable abbrev FP:XC:=bd_l_jc'.1
noncomputable def ft_joins':NV (fun b0 b1 b2=>aA [] [] [b0,b1,b2] 0x3310c2ca1dbe02a4e88a62951a5c5be93840c3233e4b872eccc15983c5185ffabe13ddb59350b7cffeadb2a82f6800cf6b1dbe229bb865160cae8f07103f4d32a767093d3d6461d2d9be0114a8c3df16aa02df3fe06c176727ecfe603094e5754aedd9135a20e611547e74cb6c99c83d14cb380dc2c7dfa464ede156cb65dc2dc99a531325d6ad65cf543e282b30dccd91eda2c2b436b2aa0f3c6b588a25d5):=⟨_,by conv=>rhs;reduce⟩
noncomputable abbrev PB:XF:=ft_joins'.1 FR FQ FP
theorem DF:aK Tryz.prog 6 PB=true:=by kernel_rfl
structure MG where
 f:Fd
 n:Int
 lv:Int
 k:Int
 i:Int
structure MH where
 f:Fd
 n:Int
 lv:Int
 k:Int
 i:Int
structure MI where
 f:Fd
 n:Int
 lv:Int
 k:Int
 i:Int
structure agv where
 f:Fd
noncomputable def tp:bM:=ce (ce (ce bQ 2 (fun p:MG=>((.cons 11 (.sy (.int 0 p.i)) (.cons 8 (.ptr 1 0) (.cons 7 (.sy (.int 0 p.k)) (.cons 2 (.sy (.int 0 p.lv)) (.cons 1 (.sy (.int 0 p.n)) .nil))))),(dy p.f),5)) (fun p=>1≤p.k∧p.k≤4∧0≤p.n∧p.n<20∧0≤p.i∧p.i≤p.k+1∧FC 0 p.f∧(p.f.ps.length:Int)=p.k+1∧0≤p.lv∧C6 p.k.toNat p.n.toNat p.lv.toNat p.f.er) (fun p K=>K 6 (.cons 8 (.ptr 1 0) .nil) (dy p.f) 5)) 1 (fun p:MH=>((.cons 10 (.sy (.int 0 p.i)) (.cons 8 (.ptr 1 0) (.cons 7 (.sy (.int 0 p.k)) (.cons 2 (.sy (.int 0 p.lv)) (.cons 1 (.sy (.int 0 p.n)) .nil))))),(dy p.f),5)) (fun p=>1≤p.k∧p.k≤4∧0≤p.n∧p.n<20∧0≤p.i∧p.i≤p.k+1∧FC 0 p.f∧(p.f.ps.length:Int)=p.k+1∧C4 p.k.toNat p.n.toNat p.f.er) (fun p K=>K 4 (.cons 8 (.ptr 1 0) (.cons 7 (.sy (.int 0 p.k)) (.cons 2 (.sy (.int 0 p.lv)) (.cons 1 (.sy (.int 0 p.n)) .nil)))) (dy p.f) 5)) 0 (fun p:MI=>((.cons 9 (.sy (.int 0 p.i)) (.cons 8 (.ptr 1 0) (.cons 7 (.sy (.int 0 p.k)) (.cons 2 (.sy (.int 0 p.lv)) (.cons 1 (.sy (.int 0 p.n)) .nil))))),(dy p.f),5)) (fun p=>1≤p.k∧p.k≤4∧0≤p.n∧p.n<20∧0≤p.i∧p.i≤p.n∧p.f.er=pZ p.i.toNat (gA p.k.toNat 1)∧FC (300000+10*(p.n - p.i)) p.f∧(p.f.ps.length:Int)=p.k+1∧0≤p.f.n∧p.f.n≤p.i) (fun p K=>aj fun r:agv=>iP (r.f.er=pZ p.n.toNat (gA p.k.toNat 1)∧FC (300000+10*(p.n - p.n)) r.f∧(r.f.ps.length:Int)=p.k+1∧0≤r.f.n∧r.f.n≤p.n) (K 2 (.cons 8 (.ptr 1 0) (.cons 7 (.sy (.int 0 p.k)) (.cons 2 (.sy (.int 0 p.lv)) (.cons 1 (.sy (.int 0 p.n)) .nil)))) (dy r.f) 5) true)
theorem Xb:bg Tryz.prog 174 1 tp true 0 FR:=lL (nat:=my) (fun p:MI=>(p.n - p.i).toNat) cq (fun _ _ _ _=>rfl) fun p K hpre hK=>by
 dsimp only at hpre hK ⊢
 obtain⟨y1,y2,y3,y4,y5,y6,hE,hF,hP,hN,hM⟩:=hpre
 have yg {g:Prop} (h:g:=by first|(exact⟨hF.le (by omega),by omega,by omega,by omega⟩)|fail):g:=h
 have yp {g:Prop} (h:g:=by first|(have e_:p.i=p.n:=(by omega);exact⟨e_▸hE,hF.le (by omega),hP,by omega,by omega⟩)|fail):g:=h
 have yb {g:Prop} (h:g:=by first|(obtain⟨a_,b_,c_,d_,e_⟩:=Xo y5 hE ⟨hN,hM⟩ hP (c:=300000+10*(p.n - (p.i+1))) (by omega) (hF.le (by omega)) hi;exact⟨y1,y2,y3,y4,by omega,by omega,a_,b_,c_,d_,e_⟩)|fail):g:=h
 have yx {g:Prop} (h:g:=by first|(exact wW hK fun r hz=>by(try dsimp only[oL,oN]at hz);exact hz)|fail):g:=h
 exact wz
theorem Xa:bg Tryz.prog 174 1 tp true 1 FQ:=lL (nat:=my) (fun p:MH=>(p.k+1 - p.i).toNat) cq (fun _ _ _ _=>rfl) fun p K hpre hK=>by
 dsimp only at hpre hK ⊢
 obtain⟨y1,y2,y3,y4,y5,y6,hF,hP,hC⟩:=hpre
 have nnr:=trivial
 have nnh:=trivial
 have ys {g:Prop} (h:g:=by first|(first|omega|(have g3_:r3.f.ps.length=r2.f.ps.length:=congrArg List.length hi3.2.1;have d2_:=hi2.2.2.1;omega)|(have g3_:r3.f.ps.length=r2.f.ps.length:=congrArg List.length hi3.2.1;have d2_:=hi2.2.2.1;have g4_:r4.f.ps.length=r3.f.ps.length:=congrArg List.length hi5.2.1;omega))|(first|omega|(have g3_:r3.f.ps.length=r2.f.ps.length:=congrArg List.length hi.2.1;have d2_:=hi1.2.2.1;omega)|(have g3_:r3.f.ps.length=r2.f.ps.length:=congrArg List.length hi.2.1;have d2_:=hi1.2.2.1;have g4_:r4.f.ps.length=r3.f.ps.length:=congrArg List.length hi5.2.1;omega))|(first|omega|(have g3_:r3.f.ps.length=r2.f.ps.length:=congrArg List.length hi2.2.1;have d2_:=hi1.2.2.1;omega)|(have g3_:r3.f.ps.length=r2.f.ps.length:=congrArg List.length hi2.2.1;have d2_:=hi1.2.2.1;have g4_:r4.f.ps.length=r3.f.ps.length:=congrArg List.length hi3.2.1;omega))|fail):g:=h
 have yd {g:Prop} (h:g:=by first|(exfalso;have c_:(aI p.f.ss p.i.toNat).N=2∧((aI p.f.ss p.i.toNat).m.length:Int)=(p.k.toNat:Int)+1∧cG (aI p.f.ss p.i.toNat)=(p.n.toNat:Int):=hC.c p.i.toNat (by omega);first|omega|(have m_:=congrArg List.length (And.right (by assumption:_=(aI p.f.ss p.i.toNat).N∧_=(aI p.f.ss p.i.toNat).m));omega))|fail):g:=h
 have yg {g:Prop} (h:g:=by first|(exact⟨by assumption,by have:=hF.w.ps;omega,oS hF (by have:=hF.w.ps;omega)⟩)|fail):g:=h
 have yb {g:Prop} (h:g:=by first|(exact⟨y1,y2,y3,y4,by omega,by omega,hF,hP,hC⟩)|fail):g:=h
 have yq {g:Prop} (h:g:=by first|(refine zH (.mk _ _ p.i.toNat ..) (h:= ?_);dsimp only[hX,nB,pY];exact wo)|(refine vk (.mk _ _ p.i.toNat ..) (h:= ?_);dsimp only[gw,kY,nL];exact wo)|fail):g:=h
 exact wz
theorem WZ:bg Tryz.prog 174 1 tp true 2 FP:=lL (nat:=my) (fun p:MG=>(p.k+1 - p.i).toNat) cq (fun _ _ _ _=>rfl) fun p K hpre hK=>by
 dsimp only at hpre hK ⊢
 obtain⟨y1,y2,y3,y4,y5,y6,hF,hP,hV,hC⟩:=hpre
 have nnr:=trivial
 have nnh:=trivial
 have nnc:=trivial
 have ys {g:Prop} (h:g:=by first|(first|omega|(have g3_:r3.f.ps.length=r2.f.ps.length:=congrArg List.length hi3.2.1;have d2_:=hi2.2.2.1;omega)|(have g3_:r3.f.ps.length=r2.f.ps.length:=congrArg List.length hi3.2.1;have d2_:=hi2.2.2.1;have g4_:r4.f.ps.length=r3.f.ps.length:=congrArg List.length hi5.2.1;omega))|(first|omega|(have g3_:r3.f.ps.length=r2.f.ps.length:=congrArg List.length hi.2.1;have d2_:=hi1.2.2.1;omega)|(have g3_:r3.f.ps.length=r2.f.ps.length:=congrArg List.length hi.2.1;have d2_:=hi1.2.2.1;have g4_:r4.f.ps.length=r3.f.ps.length:=congrArg List.length hi3.2.1;omega))|(first|omega|(have g3_:r3.f.ps.length=r2.f.ps.length:=congrArg List.length hi2.2.1;have d2_:=hi1.2.2.1;omega)|(have g3_:r3.f.ps.length=r2.f.ps.length:=congrArg List.length hi2.2.1;have d2_:=hi1.2.2.1;have g4_:r4.f.ps.length=r3.f.ps.length:=congrArg List.length hi3.2.1;omega))|(first|omega|(have g3_:r3.f.ps.length=r2.f.ps.length:=congrArg List.length hi.2.1;have d2_:=hi1.2.2.1;omega)|(have g3_:r3.f.ps.length=r2.f.ps.length:=congrArg List.length hi.2.1;have d2_:=hi1.2.2.1;have g4_:r4.f.ps.length=r3.f.ps.length:=congrArg List.length hi5.2.1;omega))|(first|omega|(have g3_:r3.f.ps.length=r2.f.ps.length:=congrArg List.length hi2.2.1;have d2_:=hi1.2.2.1;omega)|(have g3_:r3.f.ps.length=r2.f.ps.length:=congrArg List.length hi2.2.1;have d2_:=hi1.2.2.1;have g4_:r4.f.ps.length=r3.f.ps.length:=congrArg List.length hi5.2.1;omega))|fail):g:=h
 have yd {g:Prop} (h:g:=by first|(exfalso;have c_:(0<(aI p.f.ss p.i.toNat).N↔¬p.i.toNat=p.lv.toNat)∧(¬p.i.toNat=p.lv.toNat→(aI p.f.ss p.i.toNat).N=3∧((aI p.f.ss p.i.toNat).m.length:Int)=(p.k.toNat:Int))∧cG (aI p.f.ss p.i.toNat)=(p.n.toNat:Int):=hC.c p.i.toNat (by omega);obtain⟨ca_,cb_,cc_⟩:=c_;first|omega|exact ca_.1 (hi.1 hc2) (by omega)|exact hc2 (hi.2 (ca_.2 (by omega)))|(have d_:=cb_ (by omega);first|omega|(have m_:=congrArg List.length (And.right (by assumption:_=(aI p.f.ss p.i.toNat).N∧_=(aI p.f.ss p.i.toNat).m));omega)))|(exfalso;have c_:(0<(aI p.f.ss p.i.toNat).N↔¬p.i.toNat=p.lv.toNat)∧(¬p.i.toNat=p.lv.toNat→(aI p.f.ss p.i.toNat).N=3∧((aI p.f.ss p.i.toNat).m.length:Int)=(p.k.toNat:Int))∧cG (aI p.f.ss p.i.toNat)=(p.n.toNat:Int):=hC.c p.i.toNat (by omega);obtain⟨ca_,cb_,cc_⟩:=c_;first|omega|exact ca_.1 (hi2.1 hc2) (by omega)|exact hc2 (hi2.2 (ca_.2 (by omega)))|(have d_:=cb_ (by omega);first|omega|(have m_:=congrArg List.length (And.right (by assumption:_=(aI p.f.ss p.i.toNat).N∧_=(aI p.f.ss p.i.toNat).m));omega)))|fail):g:=h
 have yg {g:Prop} (h:g:=by first|(exact⟨by assumption,by have:=hF.w.ps;omega,oS hF (by have:=hF.w.ps;omega)⟩)|fail):g:=h
 have yb {g:Prop} (h:g:=by first|(exact⟨y1,y2,y3,y4,by omega,by omega,hF,hP,hV,hC⟩)|fail):g:=h
 have yq {g:Prop} (h:g:=by first|(refine Iu (.mk _ _ p.i.toNat ..) (h:= ?_);dsimp only[iY,pH,uR];exact wo)|(refine zH (.mk _ _ p.i.toNat ..) (h:= ?_);dsimp only[hX,nB,pY];exact wo)|(refine vk (.mk _ _ p.i.toNat ..) (h:= ?_);dsimp only[gw,kY,nL];exact wo)|fail):g:=h
 exact wz
structure aaq where
 fo:Int
 n:Int
 lv:Int
structure ZC where
 ps:List Value
 ss:List St
theorem na_joins:dk Tryz.prog 6 1 (aO (fun p:aaq=>([.ptr 0 0,.sy (.int 0 p.fo),.sy (.int 0 p.n),.sy (.int 0 p.lv)],(.node .leaf (some (.opq (List Value×List St) (([]:List Value),([]:List St)) bK)) .leaf),1)) (fun p=>∀k n lv:Nat,1≤k→k≤4→n<20→lv≤k→JP k n lv) (fun p K=>aj fun r:ZC=>K (.bool true) (.node .leaf (some (.opq (List Value×List St) (r.ps,r.ss) bK)) .leaf) 1)):=Kc (nat:=my) DF (fun b j x h=>(cu Xb (fun h=>(cu Xa (fun h=>(cu WZ (fun h=>(by cases h)) h)) h)) h)) fun p K hpre hK=>by
 dsimp only at hpre hK ⊢
 have t1:=k4 p.fo
 have t2:=k20 p.n
 have t3:=kl p.lv ((1:Int)+(Int.tmod ((Int.tmod p.fo (4:Int))+(4:Int)) (4:Int))) (by omega)
 have nnr:=trivial
 have nnh:=trivial
 have ys {g:Prop} (h:g:=by first|(decide)|(first|omega|(have g3_:r3.f.ps.length=r2.f.ps.length:=congrArg List.length hi.2.1;have d2_:=hi2.2.2.1;omega)|(have g3_:r3.f.ps.length=r2.f.ps.length:=congrArg List.length hi.2.1;have d2_:=hi2.2.2.1;have g4_:r4.f.ps.length=r3.f.ps.length:=congrArg List.length hi5.2.1;omega))|(first|omega|(have g3_:r3.f.ps.length=r2.f.ps.length:=congrArg List.length hi3.2.1;have d2_:=hi2.2.2.1;omega)|(have g3_:r3.f.ps.length=r2.f.ps.length:=congrArg List.length hi3.2.1;have d2_:=hi2.2.2.1;have g4_:r4.f.ps.length=r3.f.ps.length:=congrArg List.length hi.2.1;omega))|fail):g:=h
 have yg {g:Prop} (h:g:=by first|(exact⟨by omega,by omega,by omega⟩)|(have m_:=Oy hi.1 hi.2;exact⟨by omega,by omega,by omega,by omega,by omega,by omega,hi.1,hi.2.le (by omega),by omega,by omega,by omega⟩)|(first|exact⟨hi.2.1.le (by omega),by omega⟩|(have f3_:FC 270000 r3.f:=hi3.fc (hi.2.1.le (by omega)) (by omega);have w3_:=f3_.w.ps;have g3_:r3.f.ps.length=r2.f.ps.length:=congrArg List.length hi3.2.1;have d2_:=hi.2.2.1;have l3_:((1:Int)+(Int.tmod ((Int.tmod p.fo (4:Int))+(4:Int)) (4:Int))).toNat<r3.f.ss.length:=(by omega);exact⟨(fC l3_ (fun B h=>ie h) (by omega) f3_).le (by omega),by omega⟩)|(have f3_:FC 270000 r3.f:=hi3.fc (hi.2.1.le (by omega)) (by omega);have w3_:=f3_.w.ps;have g3_:r3.f.ps.length=r2.f.ps.length:=congrArg List.length hi3.2.1;have d2_:=hi.2.2.1;have l3_:((1:Int)+(Int.tmod ((Int.tmod p.fo (4:Int))+(4:Int)) (4:Int))).toNat<r3.f.ss.length:=(by omega);have s3_:=fC l3_ (fun B h=>ie h) (by omega) f3_;have f4_:FC 150000 r4.f:=hi5.fc (s3_.le (by omega)) (by omega);have w4_:=f4_.w.ps;have g4_:r4.f.ps.length=r3.f.ps.length:=congrArg List.length hi5.2.1;have x4_:=qL (k:=((1:Int)+(Int.tmod ((Int.tmod p.fo (4:Int))+(4:Int)) (4:Int)))) (n:=(Int.tmod ((Int.tmod p.n (20:Int))+(20:Int)) (20:Int))) hi.1 hi3 rfl hi5;have l4_:(Int.tmod (((Int.tmod p.lv (((1:Int)+(Int.tmod ((Int.tmod p.fo (4:Int))+(4:Int)) (4:Int)))+(1:Int)))+((1:Int)+(Int.tmod ((Int.tmod p.fo (4:Int))+(4:Int)) (4:Int))))+(1:Int)) (((1:Int)+(Int.tmod ((Int.tmod p.fo (4:Int))+(4:Int)) (4:Int)))+(1:Int))).toNat<r4.f.ss.length:=(by omega);exact⟨(fC l4_ (fun B h=>oC h) (by omega) f4_).le (by omega),by omega⟩))|(have f3_:FC 270000 r3.f:=hi3.fc (hi2.2.1.le (by omega)) (by omega);have w3_:=f3_.w.ps;have g3_:r3.f.ps.length=r2.f.ps.length:=congrArg List.length hi3.2.1;have d2_:=hi2.2.2.1;have l3_:((1:Int)+(Int.tmod ((Int.tmod p.fo (4:Int))+(4:Int)) (4:Int))).toNat<r3.f.ss.length:=(by omega);exact⟨hi,l3_,oS f3_ l3_⟩)|(first|exact⟨hi2.2.1.le (by omega),by omega⟩|(have f3_:FC 270000 r3.f:=hi3.fc (hi2.2.1.le (by omega)) (by omega);have w3_:=f3_.w.ps;have g3_:r3.f.ps.length=r2.f.ps.length:=congrArg List.length hi3.2.1;have d2_:=hi2.2.2.1;have l3_:((1:Int)+(Int.tmod ((Int.tmod p.fo (4:Int))+(4:Int)) (4:Int))).toNat<r3.f.ss.length:=(by omega);exact⟨(fC l3_ (fun B h=>ie h) (by omega) f3_).le (by omega),by omega⟩)|(have f3_:FC 270000 r3.f:=hi3.fc (hi2.2.1.le (by omega)) (by omega);have w3_:=f3_.w.ps;have g3_:r3.f.ps.length=r2.f.ps.length:=congrArg List.length hi3.2.1;have d2_:=hi2.2.2.1;have l3_:((1:Int)+(Int.tmod ((Int.tmod p.fo (4:Int))+(4:Int)) (4:Int))).toNat<r3.f.ss.length:=(by omega);have s3_:=fC l3_ (fun B h=>ie h) (by omega) f3_;have f4_:FC 150000 r4.f:=hi5.fc (s3_.le (by omega)) (by omega);have w4_:=f4_.w.ps;have g4_:r4.f.ps.length=r3.f.ps.length:=congrArg List.length hi5.2.1;have x4_:=qL (k:=((1:Int)+(Int.tmod ((Int.tmod p.fo (4:Int))+(4:Int)) (4:Int)))) (n:=(Int.tmod ((Int.tmod p.n (20:Int))+(20:Int)) (20:Int))) hi2.1 hi3 rfl hi5;have l4_:(Int.tmod (((Int.tmod p.lv (((1:Int)+(Int.tmod ((Int.tmod p.fo (4:Int))+(4:Int)) (4:Int)))+(1:Int)))+((1:Int)+(Int.tmod ((Int.tmod p.fo (4:Int))+(4:Int)) (4:Int))))+(1:Int)) (((1:Int)+(Int.tmod ((Int.tmod p.fo (4:Int))+(4:Int)) (4:Int)))+(1:Int))).toNat<r4.f.ss.length:=(by omega);exact⟨(fC l4_ (fun B h=>oC h) (by omega) f4_).le (by omega),by omega⟩))|(have f3_:FC 270000 r3.f:=hi3.fc (hi2.2.1.le (by omega)) (by omega);have w3_:=f3_.w.ps;have g3_:r3.f.ps.length=r2.f.ps.length:=congrArg List.length hi3.2.1;have d2_:=hi2.2.2.1;have l3_:((1:Int)+(Int.tmod ((Int.tmod p.fo (4:Int))+(4:Int)) (4:Int))).toNat<r3.f.ss.length:=(by omega);have s3_:=fC l3_ (fun B h=>ie h) (by omega) f3_;have f4_:FC 150000 r4.f:=hi.fc (s3_.le (by omega)) (by omega);have w4_:=f4_.w.ps;have g4_:r4.f.ps.length=r3.f.ps.length:=congrArg List.length hi.2.1;have x4_:=qL (k:=((1:Int)+(Int.tmod ((Int.tmod p.fo (4:Int))+(4:Int)) (4:Int)))) (n:=(Int.tmod ((Int.tmod p.n (20:Int))+(20:Int)) (20:Int))) hi2.1 hi3 rfl hi;have l4_:(Int.tmod (((Int.tmod p.lv (((1:Int)+(Int.tmod ((Int.tmod p.fo (4:Int))+(4:Int)) (4:Int)))+(1:Int)))+((1:Int)+(Int.tmod ((Int.tmod p.fo (4:Int))+(4:Int)) (4:Int))))+(1:Int)) (((1:Int)+(Int.tmod ((Int.tmod p.fo (4:Int))+(4:Int)) (4:Int)))+(1:Int))).toNat<r4.f.ss.length:=(by omega);exact⟨by omega,by omega,by omega,by omega,by omega,by omega,f4_.le (by omega),by omega,x4_▸(hpre (((1:Int)+(Int.tmod ((Int.tmod p.fo (4:Int))+(4:Int)) (4:Int)))).toNat ((Int.tmod ((Int.tmod p.n (20:Int))+(20:Int)) (20:Int))).toNat 0 (by omega) (by omega) (by omega) (by omega)).a⟩)|(have f3_:FC 270000 r3.f:=hi3.fc (hi2.2.1.le (by omega)) (by omega);have w3_:=f3_.w.ps;have g3_:r3.f.ps.length=r2.f.ps.length:=congrArg List.length hi3.2.1;have d2_:=hi2.2.2.1;have l3_:((1:Int)+(Int.tmod ((Int.tmod p.fo (4:Int))+(4:Int)) (4:Int))).toNat<r3.f.ss.length:=(by omega);have s3_:=fC l3_ (fun B h=>ie h) (by omega) f3_;have f4_:FC 150000 r4.f:=hi5.fc (s3_.le (by omega)) (by omega);have w4_:=f4_.w.ps;have g4_:r4.f.ps.length=r3.f.ps.length:=congrArg List.length hi5.2.1;have x4_:=qL (k:=((1:Int)+(Int.tmod ((Int.tmod p.fo (4:Int))+(4:Int)) (4:Int)))) (n:=(Int.tmod ((Int.tmod p.n (20:Int))+(20:Int)) (20:Int))) hi2.1 hi3 rfl hi5;have l4_:(Int.tmod (((Int.tmod p.lv (((1:Int)+(Int.tmod ((Int.tmod p.fo (4:Int))+(4:Int)) (4:Int)))+(1:Int)))+((1:Int)+(Int.tmod ((Int.tmod p.fo (4:Int))+(4:Int)) (4:Int))))+(1:Int)) (((1:Int)+(Int.tmod ((Int.tmod p.fo (4:Int))+(4:Int)) (4:Int)))+(1:Int))).toNat<r4.f.ss.length:=(by omega);exact⟨hi,l4_,oS f4_ l4_⟩)|(have f3_:FC 270000 r3.f:=hi3.fc (hi2.2.1.le (by omega)) (by omega);have w3_:=f3_.w.ps;have g3_:r3.f.ps.length=r2.f.ps.length:=congrArg List.length hi3.2.1;have d2_:=hi2.2.2.1;have l3_:((1:Int)+(Int.tmod ((Int.tmod p.fo (4:Int))+(4:Int)) (4:Int))).toNat<r3.f.ss.length:=(by omega);have s3_:=fC l3_ (fun B h=>ie h) (by omega) f3_;have f4_:FC 150000 r4.f:=hi5.fc (s3_.le (by omega)) (by omega);have w4_:=f4_.w.ps;have g4_:r4.f.ps.length=r3.f.ps.length:=congrArg List.length hi5.2.1;have x4_:=qL (k:=((1:Int)+(Int.tmod ((Int.tmod p.fo (4:Int))+(4:Int)) (4:Int)))) (n:=(Int.tmod ((Int.tmod p.n (20:Int))+(20:Int)) (20:Int))) hi2.1 hi3 rfl hi5;have l4_:(Int.tmod (((Int.tmod p.lv (((1:Int)+(Int.tmod ((Int.tmod p.fo (4:Int))+(4:Int)) (4:Int)))+(1:Int)))+((1:Int)+(Int.tmod ((Int.tmod p.fo (4:Int))+(4:Int)) (4:Int))))+(1:Int)) (((1:Int)+(Int.tmod ((Int.tmod p.fo (4:Int))+(4:Int)) (4:Int)))+(1:Int))).toNat<r4.f.ss.length:=(by omega);have s4_:=fC l4_ (fun B h=>oC h) (by omega) f4_;have f5_:FC 0 r5.f:=hi.fc (s4_.le (by omega)) (by omega);have g5_:r5.f.ps.length=r4.f.ps.length:=congrArg List.length hi.2.1;have x6_:=RG (l:=(Int.tmod (((Int.tmod p.lv (((1:Int)+(Int.tmod ((Int.tmod p.fo (4:Int))+(4:Int)) (4:Int)))+(1:Int)))+((1:Int)+(Int.tmod ((Int.tmod p.fo (4:Int))+(4:Int)) (4:Int))))+(1:Int)) (((1:Int)+(Int.tmod ((Int.tmod p.fo (4:Int))+(4:Int)) (4:Int)))+(1:Int)))) x4_ hi;have j_:=hpre (((1:Int)+(Int.tmod ((Int.tmod p.fo (4:Int))+(4:Int)) (4:Int)))).toNat ((Int.tmod ((Int.tmod p.n (20:Int))+(20:Int)) (20:Int))).toNat ((Int.tmod (((Int.tmod p.lv (((1:Int)+(Int.tmod ((Int.tmod p.fo (4:Int))+(4:Int)) (4:Int)))+(1:Int)))+((1:Int)+(Int.tmod ((Int.tmod p.fo (4:Int))+(4:Int)) (4:Int))))+(1:Int)) (((1:Int)+(Int.tmod ((Int.tmod p.fo (4:Int))+(4:Int)) (4:Int)))+(1:Int)))).toNat (by omega) (by omega) (by omega) (by omega);exact⟨f5_,x6_▸j_.r⟩)|(have f3_:FC 270000 r3.f:=hi3.fc (hi2.2.1.le (by omega)) (by omega);have w3_:=f3_.w.ps;have g3_:r3.f.ps.length=r2.f.ps.length:=congrArg List.length hi3.2.1;have d2_:=hi2.2.2.1;have l3_:((1:Int)+(Int.tmod ((Int.tmod p.fo (4:Int))+(4:Int)) (4:Int))).toNat<r3.f.ss.length:=(by omega);have s3_:=fC l3_ (fun B h=>ie h) (by omega) f3_;have f4_:FC 150000 r4.f:=hi5.fc (s3_.le (by omega)) (by omega);have w4_:=f4_.w.ps;have g4_:r4.f.ps.length=r3.f.ps.length:=congrArg List.length hi5.2.1;have x4_:=qL (k:=((1:Int)+(Int.tmod ((Int.tmod p.fo (4:Int))+(4:Int)) (4:Int)))) (n:=(Int.tmod ((Int.tmod p.n (20:Int))+(20:Int)) (20:Int))) hi2.1 hi3 rfl hi5;have l4_:(Int.tmod (((Int.tmod p.lv (((1:Int)+(Int.tmod ((Int.tmod p.fo (4:Int))+(4:Int)) (4:Int)))+(1:Int)))+((1:Int)+(Int.tmod ((Int.tmod p.fo (4:Int))+(4:Int)) (4:Int))))+(1:Int)) (((1:Int)+(Int.tmod ((Int.tmod p.fo (4:Int))+(4:Int)) (4:Int)))+(1:Int))).toNat<r4.f.ss.length:=(by omega);have s4_:=fC l4_ (fun B h=>oC h) (by omega) f4_;have f5_:FC 0 r5.f:=hi.fc (s4_.le (by omega)) (by omega);have g5_:r5.f.ps.length=r4.f.ps.length:=congrArg List.length hi.2.1;have x6_:=RG (l:=(Int.tmod (((Int.tmod p.lv (((1:Int)+(Int.tmod ((Int.tmod p.fo (4:Int))+(4:Int)) (4:Int)))+(1:Int)))+((1:Int)+(Int.tmod ((Int.tmod p.fo (4:Int))+(4:Int)) (4:Int))))+(1:Int)) (((1:Int)+(Int.tmod ((Int.tmod p.fo (4:Int))+(4:Int)) (4:Int)))+(1:Int)))) x4_ hi;have j_:=hpre (((1:Int)+(Int.tmod ((Int.tmod p.fo (4:Int))+(4:Int)) (4:Int)))).toNat ((Int.tmod ((Int.tmod p.n (20:Int))+(20:Int)) (20:Int))).toNat ((Int.tmod (((Int.tmod p.lv (((1:Int)+(Int.tmod ((Int.tmod p.fo (4:Int))+(4:Int)) (4:Int)))+(1:Int)))+((1:Int)+(Int.tmod ((Int.tmod p.fo (4:Int))+(4:Int)) (4:Int))))+(1:Int)) (((1:Int)+(Int.tmod ((Int.tmod p.fo (4:Int))+(4:Int)) (4:Int)))+(1:Int)))).toNat (by omega) (by omega) (by omega) (by omega);exact⟨by omega,by omega,by omega,by omega,by omega,by omega,f5_,by omega,by omega,x6_▸j_.b (by omega)⟩)|fail):g:=h
 have yq {g:Prop} (h:g:=by first|(refine cn () (h:= ?_);exact wo)|(refine YI (.mk ..) (h:= ?_);dsimp only[jB,sP,Bs];exact wo)|(refine afS (.mk (.mk ..) ..) (h:= ?_);dsimp only[kZ,vT,EX];exact wo)|(refine aiF (.mk _ _ (((1:Int)+(Int.tmod ((Int.tmod p.fo (4:Int))+(4:Int)) (4:Int))).toNat) ..) (h:= ?_);dsimp only[nH];exact wo)|(refine aiE (.mk _ _ ((Int.tmod (((Int.tmod p.lv (((1:Int)+(Int.tmod ((Int.tmod p.fo (4:Int))+(4:Int)) (4:Int)))+(1:Int)))+((1:Int)+(Int.tmod ((Int.tmod p.fo (4:Int))+(4:Int)) (4:Int))))+(1:Int)) (((1:Int)+(Int.tmod ((Int.tmod p.fo (4:Int))+(4:Int)) (4:Int)))+(1:Int))).toNat) ..) (h:= ?_);dsimp only[nG];exact wo)|fail):g:=h
 exact wz
end Go.Proofs.Tryz
namespace Go.Proofs.Tryz
open Go Go.RowKit Go.Sy
open Go.Eng hiding aj
set_option linter.unusedVariables false
instance akh:DecidableEq Ke:=fun a b=>if h:a.v=b.v∧a.w=b.w then isTrue (by obtain⟨h1,h2⟩:=h;cases a;cases b;simp_all) else isFalse (fun e=>h (by rw[e];exact⟨rfl,rfl⟩))
def eK (a b:St):Bool:=(decide (0<a.N∧0<b.N∧a.N=b.N→a.m=b.m))&&decide (((cO a).take (cG a).toNat).take (min ((cO a).take (cG a).toNat).length ((cO b).take (cG b).toNat).length)=((cO b).take (cG b).toNat).take (min ((cO a).take (cG a).toNat).length ((cO b).take (cG b).toNat).length))
def Jo (f:Fx):Bool:=(List.range f.ss.length).all fun i=>decide (0≤cG (aI f.ss i)∧cG (aI f.ss i)≤((cO (aI f.ss i)).length:Int)∧(cO (aI f.ss i)).length≤400)&&(List.range i).all fun k=>eK (aI f.ss i) (aI f.ss k)
def c4B (k n:Nat) (f:Fx):Bool:=(List.range (k+1)).all fun i=>decide ((aI f.ss i).N=2∧((aI f.ss i).m.length:Int)=k+1∧cG (aI f.ss i)=n)
def c6B (k n lv:Nat) (f:Fx):Bool:=(List.range (k+1)).all fun i=>decide ((0<(aI f.ss i).N)↔¬i=lv)&&decide (¬i=lv→(aI f.ss i).N=3∧((aI f.ss i).m.length:Int)=k)&&decide (cG (aI f.ss i)=n)
def afz (k n lv:Nat) (f:Fx):Bool:=(decide (k=1)||c6B k n lv f)&&Jo f
def bw (k n:Nat):Bool:=c4B k n (X4 k n)&&(List.range (k+1)).all fun lv=>afz k n lv (X6 k n lv)
theorem Nl {f:Fx} (h:Jo f=true):nU f:=by
 have h2:=List.all_eq_true.1 h
 refine⟨fun i hi=> ?_,fun i k hi hk=> ?_⟩
 ·have:=h2 i (List.mem_range.2 hi)
  rw[akD]at this
  exact of_decide_eq_true this.1
 ·have:=h2 i (List.mem_range.2 hi)
  rw[akD]at this
  have h3:=List.all_eq_true.1 this.2 k (List.mem_range.2 hk)
  unfold eK at h3
  rw[akD]at h3
  exact⟨fun a b c=>of_decide_eq_true h3.1 ⟨a,b,c⟩,of_decide_eq_true h3.2⟩
theorem jp_of {k n lv:Nat} (h:bw k n=true) (hl:lv≤k):JP k n lv:=by
 unfold bw at h
 rw[akD]at h
 have h2:=List.all_eq_true.1 h.2 lv (List.mem_range.2 (by omega))
 unfold afz at h2
 rw[akD,Bool.or_eq_true]at h2
 refine⟨⟨fun i hi=>of_decide_eq_true (List.all_eq_true.1 h.1 i (List.mem_range.2 hi))⟩,fun hk=>⟨fun i hi=> ?_⟩,Nl h2.2⟩
 have h3:=h2.1.resolve_left (fun e=>hk (of_decide_eq_true e))
 have h4:=List.all_eq_true.1 h3 i (List.mem_range.2 hi)
 rw[akD,akD]at h4
 exact⟨of_decide_eq_true h4.1.1,of_decide_eq_true h4.1.2,of_decide_eq_true h4.2⟩
end Go.Proofs.Tryz
