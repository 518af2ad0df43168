/- Definitions and lemmas of the proof, without a condition of their own. -/
import Derived.Test.YtjhpjjbnojbikaaGreatM4b
import Derived.KernelRfl
set_option linter.unusedSimpArgs false
set_option linter.unusedVariables false
open List renaming eq_nil_of_length_eq_zero→akG,length_append→akk,length_cons→akl,length_drop→akJ,length_map→akm,length_nil→akn,length_take→akA,map_append→aky
open Nat renaming le_refl→akB
open Option.some renaming inj→akH
namespace Go.Proofs.Tryz
open Go Go.RowKit Go.Sy
open Go.Eng hiding aj
set_option maxRecDepth 1000000
set_option linter.unusedVariables false
set_option maxHeartbeats 4000000
attribute [local irreducible] aq
noncomputable def wk:NN:=bW tf adV [(0,4),(1,20)]
def qP (now:Int) (s:St):St:={s with sa:=if s.sh=true then s.sa else now,sh:=true}
def eV (s:St):Int×(List Int×List Ke)×Bool:=if s.aa=0 then (0,([],[]),false) else (s.aa,s.av,true)
def og (s:St) (v:Pq) (x:Int) (l:List Ke) (acc:Int) (u:List Int×List Ke) (has:Bool):Pq:=
 let r:=kV s.m v.ph v.gt v.best v.held v.qt x l acc u has
 {v with gt:=r.1,best:=r.2.1,held:=r.2.2.1,qt:=r.2.2.2}
def gI (now:Int) (s:St) (v:Pq):St×Pq:=if ¬v.b=0∧s.prm≤v.b then
  (qP now {s with prm:=v.b},og s v s.me (s.log.drop s.ba.toNat) (eV s).1 (eV s).2.1 (eV s).2.2)
 else (s,v)
def ey (now:Int) (s:St):St×List (Int×Mx):=
 if s.ro=4294967295 then (s,[]) else
 let w:=gI now {s with ro:=s.ro+1,tr:=now+10} ⟨(s.ro+1)*256+s.me,0,[],0,none,[],([],[])⟩
 let r:=dK now w.1 w.2
 (r.1,eO w.1.N w.1.me w.1.m w.2++r.2)
def qJ (s:St):Prop:=¬s.aa=0→(s.av.2.length:Int)≤400 - s.ba
theorem Jg {s:Si} (hs:bA (s.er none)) {x t:Int} (h:0≤x∧x<4294967296∧0≤t∧t≤1000000100):bA (({s with ro:=x,tr:=t}:Si).er none):=
 ⟨hs.r,hs.n0,hs.n1,hs.se,hs.su,hs.jo,hs.go,hs.met,hs.log,hs.was,hs.wasl,hs.sa0,hs.sa1,h.2.2.1,h.2.2.2,h.1,h.2.1,hs.prm0,hs.prm1,hs.aa0,hs.aa1,hs.av,hs.avk⟩
theorem sL {s:St} (hs:ROk s.m s.me s.log s.ba s.com s.hs) (ha:qJ s) {b:Int} (h:0<b∧b<18446744073709551616):PQOk s ⟨b,0,[],0,none,[],([],[])⟩:=by
 have h1:=hs.ba1
 have h2:=hs.len
 exact⟨h.1,h.2,show(0:Int)≤0 by decide,show(0:Int)≤2 by decide,.nil,fun x hx=>(by cases hx),show(0:Int)≤0 by decide,show(0:Int)<18446744073709551616 by decide,by show((0:Nat):Int)≤_;omega,fun x hx=>(by cases hx),fun u hu=>(by cases hu),.inl ⟨rfl,rfl⟩,ha⟩
theorem Ai {s:St} {v:Pq} {x acc:Int} {l:List Ke} {u:List Int×List Ke} {has:Bool} (hv:PQOk s v) (hl:bS l∧(l.length:Int)≤400 - s.ba) (ha:0≤acc∧acc<18446744073709551616)
  (hu:has=true→NL u.1∧¬u.1=[]∧bS u.2∧(u.2.length:Int)≤400 - s.ba):PQOk s (og s v x l acc u has):=by
 unfold og kV
 dsimp only
 split
 ·rename_i hc
  have hn:=Cd (m:=s.m) (ph:=v.ph) (x:=x) (z:=0) hv.nd hv.sub
  unfold fw at hn
  rw[if_pos hc]at hn
  refine⟨hv.b0,hv.b1,hv.ph0,hv.ph1,hn.1,hn.2,?_,?_,?_,?_,fun w hw=> ?_,hv.ch,hv.avl⟩
  ·show 0≤(if has=true∧(v.held=none∨v.best<acc) then acc else v.best);split;exact ha.1;exact hv.best0
  ·show(if has=true∧(v.held=none∨v.best<acc) then acc else v.best)<_;split;exact ha.2;exact hv.best1
  ·show((if v.qt.length<l.length then l else v.qt).length:Int)≤_;split;exact hl.2;exact hv.qt
  ·show bS (if v.qt.length<l.length then l else v.qt);split;exact hl.1;exact hv.qtk
  ·have hw:(if has=true∧(v.held=none∨v.best<acc) then some u else v.held)=some w:=hw
   split at hw
   ·rename_i q
    cases hw
    exact hu q.1
   ·exact hv.held w hw
 ·exact hv
theorem sB {now:Int} {s:St} {b:Int} (hs:bA s) (hn:0≤now∧now≤1000000000) (hb:0≤b∧b<18446744073709551616):bA (qP now {s with prm:=b}):=by
 have h1:=hs.sa0
 have h2:=hs.sa1
 exact⟨hs.r,hs.n0,hs.n1,hs.se,hs.su,hs.jo,hs.go,hs.met,hs.log,hs.was,hs.wasl,by show 0≤(if s.sh=true then s.sa else now);split<;>omega,by show(if s.sh=true then s.sa else now)≤(1000000000:Int);split<;>omega,hs.tr0,hs.tr1,hs.ro0,hs.ro1,hb.1,hb.2,hs.aa0,hs.aa1,hs.av,hs.avk⟩
theorem gv {s s1:St} {v:Pq} (h:PQOk s v) (h1:s1.m=s.m) (h2:s1.ba=s.ba) (h3:s1.aa=s.aa) (h4:s1.av=s.av):PQOk s1 v:=
 ⟨h.b0,h.b1,h.ph0,h.ph1,h.nd,fun x hx=>by rw[h1];exact h.sub x hx,h.best0,h.best1,by rw[h2];exact h.qt,h.qtk,fun u hu=>by rw[h2];exact h.held u hu,by rw[h2];exact h.ch,by rw[h2,h3,h4];exact h.avl⟩
theorem Xw {s:St} (hs:bA s) (ha:qJ s):0≤(eV s).1∧(eV s).1<18446744073709551616∧((eV s).2.2=true→NL (eV s).2.1.1∧¬(eV s).2.1.1=[]∧bS (eV s).2.1.2∧((eV s).2.1.2.length:Int)≤400 - s.ba):=by
 unfold eV
 split
 ·exact⟨by decide,by decide,fun h=>(by cases h)⟩
 ·rename_i h
  exact⟨hs.aa0,hs.aa1,fun _=>⟨(hs.avk h).1,(hs.avk h).2.1,(hs.avk h).2.2,ha h⟩⟩
theorem Ei {s:St} (hs:bA s):bS (s.log.drop s.ba.toNat)∧((s.log.drop s.ba.toNat).length:Int)≤400 - s.ba:=by
 have h1:=hs.r.ba0
 have h2:=hs.r.ba1
 have h3:=hs.r.len
 exact⟨fun x hx=>hs.log x (List.mem_of_mem_drop hx),by rw[akJ];omega⟩
theorem Iy {now:Int} {s:St} {v:Pq} (hs:bA s) (hv:PQOk s v) (hn:0≤now∧now≤1000000000):bA (gI now s v).1∧PQOk (gI now s v).1 (gI now s v).2:=by
 unfold gI
 split
 ·have hh:=Xw hs hv.avl
  exact⟨sB hs hn ⟨Int.le_of_lt hv.b0,hv.b1⟩,gv (Ai hv (Ei hs) ⟨hh.1,hh.2.1⟩ hh.2.2) rfl rfl rfl rfl⟩
 ·exact⟨hs,hv⟩
theorem FS (now:Int) (s:St) (v:Pq):(gI now s v).1.N=s.N∧(gI now s v).1.se=s.se:=by
 unfold gI
 split<;>exact⟨rfl,rfl⟩
theorem LW {now:Int} {s r:Si} {v w:Qi} (hs:bA (s.er none)) (hv:PQOk (s.er none) v.er) (n1:0≤now) (n2:now≤1000000000) (e:(r.er none,w.er)=gI now (s.er none) v.er) (hb:r.be=s.be):
  (r.er none,w.er)=gI now (s.er none) v.er∧r.be=s.be∧bA (r.er none)∧PQOk (r.er none) w.er∧r.N=s.N∧r.se=s.se:=by
 have h:=Iy hs hv ⟨n1,n2⟩
 have h2:=FS now (s.er none) v.er
 rw[←e]at h h2
 exact⟨e,hb,h.1,h.2,h2.1,h2.2⟩
theorem aiG {now:Int} {s:Si} {v:Qi} (h:v.b=0∨v.b<s.prm):(s.er none,v.er)=gI now (s.er none) v.er:=by
 unfold gI
 rw[if_neg fun q=>by
  have q1:¬v.b=0:=q.1
  have q2:s.prm≤v.b:=q.2
  omega]
theorem Xx {s:Si} (h:s.aa=0):((0:Int),(([]:List Int),([]:List Ke)),false)=eV (s.er none):=by unfold eV;rw[if_pos (show(s.er none).aa=0 from h)]
theorem Pe {s:Si} {um:List Int} {ut:List Ke} (h:¬s.aa=0∧um=s.av∧ut=s.atl):(s.aa,(um,ut),true)=eV (s.er none):=by unfold eV;rw[if_neg (show¬(s.er none).aa=0 from h.1),h.2.1,h.2.2];rfl
theorem af0 {now:Int} {s:Si} {v:Qi} {sa acc:Int} {um:List Int} {ut tl q2:List Ke} {has:Bool} {g2:List Int} {b2:Int} {h2:Option Vl} {qh qth cmh cth hh:Value} {R:Prop} (hb:¬v.b=0∧s.prm≤v.b) (hsa:sa=if s.sh=true then s.sa else now) (hd:(acc,(um,ut),has)=eV (s.er none))
  (ht:tl=(s.log.drop s.ba.toNat).take (s.log.length - s.ba.toNat)∧R) (hp:(g2,b2,h2.map Vl.er,q2)=kV s.m v.ph v.gt v.best (v.held.map Vl.er) v.qt s.me tl acc (um,ut) has):
  (({s with sh:=true,prm:=v.b,sa:=sa}:Si).er none,(⟨v.b,v.ph,g2,b2,hh,h2,qh,qth,q2,cmh,v.cm,cth,v.ct⟩:Qi).er)=gI now (s.er none) v.er:=by
 unfold gI
 rw[if_pos (show¬v.er.b=0∧(s.er none).prm≤v.er.b from hb),←hd]
 have e1:tl=s.log.drop s.ba.toNat:=by rw[ht.1,List.take_of_length_le (by rw[akJ];exact akB _)]
 rw[e1]at hp
 unfold og
 rw[show kV (s.er none).m v.er.ph v.er.gt v.er.best v.er.held v.er.qt (s.er none).me ((s.er none).log.drop (s.er none).ba.toNat) acc (um,ut) has=(g2,b2,h2.map Vl.er,q2) from hp.symm,hsa]
 rfl
theorem FL {now:Int} {s:Si} (h:s.ro=4294967295):(s.er none,([]:List Ou).map Ou.er)=ey now (s.er none):=by unfold ey;rw[if_pos (show(s.er none).ro=4294967295 from h)];rfl
theorem FM {now z:Int} {s r:Si} {v w:Qi} {x:St} {o1 o2 o:List Ou} (hro:¬s.ro=4294967295) (hz:v.b=z∧z=(s.ro+1)*256+s.me) (hv:v.ph=0∧v.best=0∧v.held=none∧v.gt=[]∧v.qt=[]∧v.cm=[]∧v.ct=[]) (h1:(r.er none,w.er)=gI now (({s with ro:=s.ro+1,tr:=now+10}:Si).er none) v.er)
  (h2:o1.map Ou.er=eO r.N r.me r.m w.er) (h3:(x,o2.map Ou.er)=dK now (r.er none) w.er) (ho:o=o1++o2):(x,o.map Ou.er)=ey now (s.er none):=by
 have e:v.er=⟨(s.ro+1)*256+s.me,0,[],0,none,[],([],[])⟩:=by
  obtain⟨a1,a2,a3,a4,a5,a6,a7⟩:=hv
  unfold Qi.er
  rw[hz.1,hz.2,a1,a2,a3,a4,a5,a6,a7];rfl
 rw[e]at h1
 unfold ey
 rw[if_neg (show¬(s.er none).ro=4294967295 from hro)]
 dsimp only
 rw[show gI now {s.er none with ro:=(s.er none).ro+1,tr:=now+10} ⟨((s.er none).ro+1)*256+(s.er none).me,0,[],0,none,[],([],[])⟩=(r.er none,w.er) from h1.symm]
 dsimp only
 rw[←h3,ho,aky,h2]
 rfl
theorem kC {me:Int} {x:Mx} {l:List Int}:(cI me x l).length≤l.length:=by unfold cI;rw[akm];exact List.length_filter_le _ _
theorem Oo {ph:Int} {m gt:List Int}:(gK ph m gt).length≤m.length:=by
 unfold gK
 split
 ·exact Nat.zero_le _
 ·exact List.length_filter_le _ _
theorem lO {N me:Int} {m:List Int} {v:Pq}:(eO N me m v).length≤m.length:=Nat.le_trans kC Oo
theorem rk {now:Int} {s:St} {v:Pq}:(ja now s v).2.length≤s.m.length+v.ch.1.length:=by
 unfold ja
 rw[akk]
 exact Nat.add_le_add kC (Nat.le_trans kC (List.length_filter_le _ _))
theorem ul {now:Int} {s:St} {v:Pq} (hs:bA s) (hv:PQOk s v):(dK now s v).2.length≤16:=by
 have h1:=ah hs.r.nl
 unfold dK
 split
 ·have hp:=ah (Af hs hv).1
  dsimp only
  split
  ·split
   ·exact Nat.le_trans lO (by dsimp only;omega)
   ·split
    ·exact Nat.le_trans rk (by dsimp only;omega)
    ·exact Nat.zero_le _
  ·split
   ·exact Nat.le_trans lO (by dsimp only;omega)
   ·split
    ·exact Nat.le_trans rk (by dsimp only;omega)
    ·exact Nat.zero_le _
 ·split
  ·have:=(hv.chl hs.r.ba0).1
   exact Nat.le_trans rk (by omega)
  ·exact Nat.zero_le _
theorem kK {N me:Int} {m:List Int} {v:Pq} {o:List Ou} (h:o.map Ou.er=eO N me m v):o.length≤m.length:=by
 have:=congrArg List.length h
 rw[akm]at this
 rw[this];exact lO
theorem Ez {now:Int} {s x:St} {v:Pq} {o:List Ou} (hs:bA s) (hv:PQOk s v) (h:(x,o.map Ou.er)=dK now s v):o.length≤16:=by
 have e:=congrArg (fun z=>z.2.length) h
 have e2:=ul (now:=now) hs hv
 dsimp only at e
 rw[akm]at e
 omega
theorem Qs {x y:Int} (h1:0≤x) (h2:x<4294967295) (h3:0≤y∧y<8) {z:Int} (e:z=(x+1)*256+y):0<z∧z<18446744073709551616:=by omega
noncomputable def bd_b1G':NV (fun e0 e1=>cS [e0,e1] [] [] 0xdf5db176ddbf6693c06a43ec97b75460a863a97b8629917ffef670946bd8be2ab8f1f048dee820d6a861ca378b75cf2a22739ea0cfa654f892001bdfae564891ac8561cc2691ec5df720ae9c31edebc88202f0cf0d423a586113846732734366d85d9ab81665e604262beb3ed640d4025b89):=⟨_,by conv=>rhs;reduce⟩
noncomputable abbrev LV:XC:=bd_b1G'.1 (eC 52 2 am) (eC 68 18 aF)
noncomputable def ft_begG':NV (fun e0 b0=>aA [e0] [] [b0] 0xd2d49baef7a133765c116a0b2a05a1517b09b6a116b0a7e4c4d0e4a3ebf8b0de9b3d6282bb5901e0afd46e76a16bdfcc953e37161c1c8dc0efb2a74403e2d10daefb03d2708f7d614bdfedf384a67b66a6abf9256df4f9170f1c70641fac09ccee8013d9dc7943d4b78ba0d3b4d7):=⟨_,by conv=>rhs;reduce⟩
noncomputable abbrev Yd:XF:=ft_begG'.1 (eB 118 33 cB) LV
theorem Ie:aK Tryz.prog 73 Yd=true:=by kernel_rfl
structure aju where
 s:Si
 v:Qi
 now:Int
structure ai5 where
 s:Si
 v:Qi
noncomputable def WU:bM:=ce bQ 1 (fun p:aju=>((.cons 1 (.sy (.int 0 p.now)) (.cons 0 (.ptr 0 0) .nil)),(dl p.s p.s p.s p.s p.v),11)) (fun p=>bA (p.s.er none)∧PQOk (p.s.er none) p.v.er∧0≤p.now∧p.now≤1000000000) (fun p K=>aj fun r:ai5=>iP ((r.s.er none,r.v.er)=gI p.now (p.s.er none) p.v.er∧r.s.be=p.s.be∧bA (r.s.er none)∧PQOk (r.s.er none) r.v.er∧r.s.N=p.s.N∧r.s.se=p.s.se) (K 0 (.cons 1 (.sy (.int 0 p.now)) (.cons 0 (.ptr 0 0) .nil)) (dl r.s r.s r.s r.s r.v) 11) true)
theorem aeE:bg Tryz.prog 104 1 WU false 1 LV:=lP (nat:=wk) cq (fun _ _ _ _=>rfl) fun p K hpre hK=>by
 dsimp only at hpre hK ⊢
 obtain⟨hs,hv,n1,n2⟩:=hpre
 have hq:=PQOk.qok hs hv
 have av1:=hs.av.1
 have av2:=hs.av.2
 have hl_:=hs.r.len
 have ba0:=hs.r.ba0
 have ba1:=hs.r.ba1
 have mb:=hs.r.nl.2 _ hs.r.me
 dsimp only[Si.er]at av1 av2 hl_ ba0 ba1 mb
 have g3:=hs.sa0
 have g4:=hs.sa1
 have hm:=ah hs.r.nl
 have g5:=hs.r.nl
 have g6:=List.ne_nil_of_mem hs.r.me
 have g7:=hs.n0
 have g8:=hs.n1
 have g9:=ah hs.su
 have g10:=ah hs.go
 have g11:=ah hs.jo
 have g12:=hs.jo.2
 have g13:=hs.tr0
 have g14:=hs.tr1
 dsimp only[Si.er]at g3 g4 hm g5 g6 g7 g8 g9 g10 g11 g12 g13 g14
 have nnr:=trivial
 have ys {g:Prop} (h:g:=by first|(first|omega|(simp;done)|(simp;omega)|(simp only[akA];omega);done)|fail):g:=h
 have yg {g:Prop} (h:g:=by first|(first|assumption|exact⟨by omega,by omega⟩)|(first|omega|(simp only[akA,akJ];omega))|(refine⟨?_,?_,?_,?_⟩<;>first|assumption|omega|exact Nat.zero_le _|(have e:=(by assumption:¬p.s.aa=0∧_∧_);rw[e.2.1];omega)|(have e:=(by assumption:¬p.s.aa=0∧_∧_);rw[e.2.2];omega))|fail):g:=h
 have yp {g:Prop} (h:g:=by first|(first|exact LW (s:=p.s) (v:=p.v) hs hv n1 n2 (aiG (s:=p.s) (v:=p.v) (by assumption)) rfl|exact LW (s:=p.s) (v:=p.v) hs hv n1 n2 (af0 (s:=p.s) (v:=p.v) (by assumption:¬p.v.b=0∧_) (by first|exact(if_neg (by assumption)).symm|exact(if_pos (Classical.not_not.1 (by assumption))).symm) (by first|exact Xx (by assumption)|exact Pe (by assumption:¬p.s.aa=0∧_∧_)) (by assumption:_=List.take _ (List.drop _ _)∧_) hi) rfl)|fail):g:=h
 have yz {g:Prop} (h:g:=by first|(first|omega|(simp;done)|(simp;omega)|(simp only[akA];omega);done)|fail):g:=h
 have yq {g:Prop} (h:g:=by first|(refine cn (.mk _ _ _ _ _ _ _ _ _ _ _ _ _ _ _ _ _ _ _ _ [] _ [] ..) (h:= ?_);exact wo)|fail):g:=h
 exact wz
structure ahP where
 s:Si
 now:Int
structure ag1 where
 s:Si
 v:Qi
 o:List Ou
structure ZS where
 s:Si
 o:List Ou
structure ZR where
 s:So
 o:List Ou
theorem WC:aB Tryz.prog 73 1 (aO (fun p:ahP=>([.ptr 0 0,.sy (.int 0 p.now)],(dm p.s p.s p.s),9)) (fun p=>bA (p.s.er none)∧qJ (p.s.er none)∧((p.s.be.length:Int)≤p.s.se∧0<p.s.N)∧0≤p.now∧p.now≤1000000000∧p.s.N+1<4294967295) (fun p K=>ac (aj fun r:ag1=>iP (((r.s.er (some r.v.er)),r.o.map Ou.er)=ey p.now (p.s.er none)∧(r.s.be.length:Int)≤r.s.se∧0<r.s.N) (K (.sy (.prow 1 r.o.length)) (gG r.s r.s r.s r.s r.v r.o) 12) true) (ac (aj fun r:ZS=>iP (((r.s.er none),r.o.map Ou.er)=ey p.now (p.s.er none)∧(r.s.be.length:Int)≤r.s.se∧0<r.s.N) (K (.sy (.prow 1 r.o.length)) (fA r.s r.s r.s r.o) 10) true) (aj fun r:ZR=>iP ((r.s.er,r.o.map Ou.er)=ey p.now (p.s.er none)∧(r.s.be.length:Int)≤r.s.se) (K (.sy (.prow 1 r.o.length)) (jc r.s r.o) 6) true)))):=nF (nat:=wk) Ie (dC aeE) fun p K hpre hK=>by
 dsimp only at hpre hK ⊢
 obtain⟨hK0,hKr0⟩:=ae hK
 obtain⟨hK1,hKr1⟩:=ae hKr0
 have hK2:=hKr1
 obtain⟨hs,ha,b1,n1,n2,t3⟩:=hpre
 have mb:=hs.r.nl.2 _ hs.r.me
 have ro0:=hs.ro0
 have ro1:=hs.ro1
 dsimp only[Si.er]at mb ro0 ro1
 have g3:=hs.sa0
 have g4:=hs.sa1
 have hm:=ah hs.r.nl
 have g5:=hs.r.nl
 have g6:=List.ne_nil_of_mem hs.r.me
 have g7:=hs.n0
 have g8:=hs.n1
 have g9:=ah hs.su
 have g10:=ah hs.go
 have g11:=ah hs.jo
 have g12:=hs.jo.2
 have g13:=hs.tr0
 have g14:=hs.tr1
 dsimp only[Si.er]at g3 g4 hm g5 g6 g7 g8 g9 g10 g11 g12 g13 g14
 have nnr:=trivial
 have nnh:=trivial
 have nnl:=trivial
 have ys {g:Prop} (h:g:=by first|(have l1:=kK (by assumption:_=eO _ _ _ _);have l2:=Ez hs3 hv3 (by assumption:_=dK _ _ _∧_).1;simp[bU];omega;done)|fail):g:=h
 have yg {g:Prop} (h:g:=by first|(refine⟨?_,?_,?_,?_⟩<;>omega)|(refine⟨?_,?_,?_,?_⟩<;>first|assumption|omega)|(have e:=(by assumption:r2.gt=[]∧_);have hb:=Qs hs.ro0 (by dsimp only[Si.er];omega) mb hi1;(try dsimp only[Si.er]at hb);refine⟨Jg hs ⟨by omega,by omega,by omega,by omega⟩,?_,n1,n2⟩;have q:=sL (s:=({p.s with ro:=p.s.ro+(1:Int),tr:=p.now+(10:Int)}:Si).er none) hs.r ha hb;unfold Qi.er;dsimp only;rw[e.1,e.2.1,e.2.2.1,e.2.2.2];exact q)|(refine⟨?_,?_,?_⟩<;>omega)|(exact⟨hs3,hv3,⟨by rw[hb2];omega,by omega⟩,n1,n2,by omega⟩)|fail):g:=h
 have yp {g:Prop} (h:g:=by first|(first|(exfalso;omega)|exact⟨FL (by assumption),b1⟩|exact⟨FM (by assumption) ⟨rfl,hi1⟩ (by have e:=(by assumption:r2.gt=[]∧_);exact⟨rfl,rfl,rfl,e.1,e.2.1,e.2.2.1,e.2.2.2⟩) hb1 (by assumption:_=eO _ _ _ _) (by assumption:_=dK _ _ _∧_).1 (by first|rfl|exact jb (by assumption)),(by assumption:_=dK _ _ _∧_).2⟩)|(first|(exfalso;omega)|exact⟨FL (by assumption),b1⟩|exact⟨FM (by assumption) ⟨rfl,hi3⟩ (by have e:=(by assumption:r2.gt=[]∧_);exact⟨rfl,rfl,rfl,e.1,e.2.1,e.2.2.1,e.2.2.2⟩) hb1 (by assumption:_=eO _ _ _ _) (by assumption:_=dK _ _ _∧_).1 (by first|rfl|exact jb (by assumption)),(by assumption:_=dK _ _ _∧_).2⟩)|fail):g:=h
 have yz {g:Prop} (h:g:=by first|(have l1:=kK (by assumption:_=eO _ _ _ _);have l2:=Ez hs3 hv3 (by assumption:_=dK _ _ _∧_).1;simp[bU];omega;done)|fail):g:=h
 have yn {g:Prop} (h:g:=by first|(obtain⟨hb1,hb2,hs3,hv3,hb4,hb5⟩:=hi;have hq3:=PQOk.qok hs3 hv3;have qc3:=hq3.cm;have qt3:=hq3.ct;have hm3:=ah hq3.nl;exact wz)|fail):g:=h
 have yq {g:Prop} (h:g:=by first|(refine LJ (.mk ..) (h:= ?_);dsimp only[jp,oq,uS];exact wo)|(refine cn (.mk _ _ _ _ (.mk _ _ _ r3.v.best r3.v.hh r3.v.held ..) ..) (h:= ?_);exact wo)|(refine wX _ (by first|exact sd|exact ys) ?_;exact wz)|fail):g:=h
 exact wz
noncomputable def AF:NN:=bW wk WC [(0,4),(1,20)]
def mG (aa:Int) (u:List Int×List Ke):Int×(List Int×List Ke)×Bool:=if aa=0 then (0,([],[]),false) else (aa,u,true)
def qS (N b:Int) (l:List Ke) (h:Int×(List Int×List Ke)×Bool):Mx:={aE 8 with N:=N,b:=b,acc:=h.1,has:=h.2.2,ml:=h.2.1.1,l:=l,tl:=h.2.1.2}
theorem Pf {aa:Int} {u:List Int×List Ke} (h:aa=0):((0:Int),(([]:List Int),([]:List Ke)),false)=mG aa u:=by unfold mG;rw[if_pos h]
theorem KT {aa:Int} {um av:List Int} {ut atl:List Ke} (h:¬aa=0∧um=av∧ut=atl):(aa,(um,ut),true)=mG aa (av,atl):=by unfold mG;rw[if_neg h.1,h.2.1,h.2.2]
theorem prw {N b acc:Int} {l t:List Ke} {ml:List Int} {tl:List Ke} {has:Bool} {h1 h2 h3 h4:Value} {x:Int×(List Int×List Ke)×Bool} {n:Nat} {R:Prop} (ht:l=t.take n∧R) (hn:t.length≤n) (hx:(acc,(ml,tl),has)=x):Mg.er ⟨8,N,0,0,b,acc,0,h1,[],0,0,has,h2,ml,h3,l,h4,tl⟩=qS N b t x:=by
 rw[ht.1,List.take_of_length_le hn,←hx];rfl
def fk (now:Int) (q:Option Pq) (tr b:Int):Option Pq×Int:=match q with
 |some v=>if v.b<b then (none,now+10) else (some v,tr)
 |none=>(none,tr)
def mU (now:Int) (s:St) (b:Int):St:={s with q:=(fk now s.q s.tr b).1,tr:=(fk now s.q s.tr b).2}
theorem Gv {now tr b:Int} {v:Pq} (h:v.b<b):(none,now+10)=fk now (some v) tr b:=by unfold fk;dsimp only;rw[if_pos h]
theorem Gw {now tr b:Int} {v:Pq} (h:¬v.b<b):(some v,tr)=fk now (some v) tr b:=by unfold fk;dsimp only;rw[if_neg h]
def dt (now:Int) (s:St) (fr:Int) (m:Mx):St×List (Int×Mx):=
 if ¬fr∈s.m then (s,[]) else
 if m.b=0∨m.b<s.prm then (s,[(fr,{aE 7 with N:=s.N,b:=s.prm})]) else
 (mU now (qP now (if m.k=5 then {s with prm:=m.b} else {s with prm:=m.b,aa:=m.b,av:=(m.ml,m.tl)})) m.b,
  [(fr,if m.k=5 then qS s.N m.b (s.log.drop s.ba.toNat) (mG s.aa s.av) else {aE 6 with N:=s.N,b:=m.b})])
theorem FT {now fr:Int} {s:Si} {q:Option Pq} {m:Mg} (h:¬fr∈s.m):(s.er q,([]:List Ou).map Ou.er)=dt now (s.er q) fr m.er:=by
 unfold dt
 rw[if_pos (show¬fr∈(s.er q).m from h)];rfl
theorem CH {now fr:Int} {s:Si} {q:Option Pq} {m z:Mg} (h:fr∈s.m) (hb:m.b=0∨m.b<s.prm) (hz:z.er={aE 7 with N:=s.N,b:=s.prm}):(s.er q,[(⟨fr,z⟩:Ou)].map Ou.er)=dt now (s.er q) fr m.er:=by
 unfold dt
 rw[if_neg (show¬¬fr∈(s.er q).m from fun g=>g h),if_pos (show m.er.b=0∨m.er.b<(s.er q).prm from hb)]
 show(_,[(fr,z.er)])=_
 rw[hz];rfl
theorem TL {now fr sa tr:Int} {s:Si} {q q2:Option Pq} {m z:Mg} (h:fr∈s.m) (hb:¬m.b=0∧s.prm≤m.b) (hk:m.k=5) (hs:sa=if s.sh=true then s.sa else now) (hy:(q2,tr)=fk now q s.tr m.b) (hz:z.er=qS s.N m.b (s.log.drop s.ba.toNat) (mG s.aa (s.av,s.atl))):
  (({s with prm:=m.b,sh:=true,sa:=sa,tr:=tr}:Si).er q2,[(⟨fr,z⟩:Ou)].map Ou.er)=dt now (s.er q) fr m.er:=by
 unfold dt mU
 rw[if_neg (show¬¬fr∈(s.er q).m from fun g=>g h),if_neg (show¬(m.er.b=0∨m.er.b<(s.er q).prm) from fun g=>g.elim hb.1 (fun g=>by
  have g:m.b<s.prm:=g
  omega)),if_pos (show m.er.k=5 from hk),if_pos (show m.er.k=5 from hk)]
 show(_,[(fr,z.er)])=_
 rw[hz,hs,show q2=(fk now q s.tr m.b).1 from congrArg Prod.fst hy,show tr=(fk now q s.tr m.b).2 from congrArg Prod.snd hy];rfl
theorem TK {now fr sa tr:Int} {s:Si} {q q2:Option Pq} {m z:Mg} {avh ath:Value} {av:List Int} {atl:List Ke} (h:fr∈s.m) (hb:(¬m.b=0∧s.prm≤m.b)∧av=m.ml∧atl=m.tl) (hk:¬m.k=5) (hs:sa=if s.sh=true then s.sa else now) (hy:(q2,tr)=fk now q s.tr m.b) (hz:z.er={aE 6 with N:=s.N,b:=m.b}):
  (({s with prm:=m.b,aa:=m.b,avh:=avh,av:=av,ath:=ath,atl:=atl,sh:=true,sa:=sa,tr:=tr}:Si).er q2,[(⟨fr,z⟩:Ou)].map Ou.er)=dt now (s.er q) fr m.er:=by
 obtain⟨hb,e1,e2⟩:=hb
 subst e1;subst e2
 unfold dt mU
 rw[if_neg (show¬¬fr∈(s.er q).m from fun g=>g h),if_neg (show¬(m.er.b=0∨m.er.b<(s.er q).prm) from fun g=>g.elim hb.1 (fun g=>by
  have g:m.b<s.prm:=g
  omega)),if_neg (show¬m.er.k=5 from hk),if_neg (show¬m.er.k=5 from hk)]
 show(_,[(fr,z.er)])=_
 rw[hz,hs,show q2=(fk now q s.tr m.b).1 from congrArg Prod.fst hy,show tr=(fk now q s.tr m.b).2 from congrArg Prod.snd hy];rfl
noncomputable def ft_shutG':NV (aA [] [] [] 0xa8dbe62a35173bbfafc86d01170cc8f382fb669f535f3b332a0d5f9):=⟨_,by conv=>rhs;reduce⟩
noncomputable abbrev Pr:XF:=ft_shutG'.1
theorem Dv:aK Tryz.prog 103 Pr=true:=by kernel_rfl
structure aai where
 q:Nat→Value
 N:Int
 m:List Int
 me:Int
 rh:Value
 log:List Ke
 ba:Int
 com:Int
 sh:Bool
 hs:List (Int×Int)
 sa:Int
 now:Int
structure Zl where
 sa:Int
theorem NM:aB Tryz.prog 103 4 (aO (fun p:aai=>([.ptr 0 0,.sy (.int 0 p.now)],(.node (.node (.node .leaf (some (.kmap true true false (Int×Int) p.hs aY aX)) .leaf) (some (bZ p.N p.rh p.m p.me 2 p.log.length p.ba p.com (p.sh=true) 3)) .leaf) (some (o_D p.q p.sa)) (.node .leaf (some (bu p.log)) .leaf)),4)) (fun _=>True) (fun p K=>aj fun r:Zl=>iP (r.sa=if p.sh=true then p.sa else p.now) (K (.tup []) (.node (.node (.node .leaf (some (.kmap true true false (Int×Int) p.hs aY aX)) .leaf) (some (bZ p.N p.rh p.m p.me 2 p.log.length p.ba p.com (true=true) 3)) .leaf) (some (o_D p.q r.sa)) (.node .leaf (some (bu p.log)) .leaf)) 4) true)):=nE (nat:=AF) Dv fun p K hpre hK=>by
 dsimp only at hpre hK ⊢
 have yp {g:Prop} (h:g:=by first|(first|exact(if_neg (by assumption)).symm|exact(if_pos (Classical.not_not.1 (by assumption))).symm)|fail):g:=h
 exact wz
noncomputable def xL:NN:=iD AF NM [(0,4),(1,20)] [0,1,2,4,5,7,8,9,10,11,12,13,14,15,16,17,18,19,20]
noncomputable def ft_prmsG':NV (fun e0 e1=>aA [e0,e1] [] [] 0x3b4258e29b18f22bb6a91d6b634d9de8460a1a93897134af3d3145ef9cd142b8c122825cc72182e68e7b8637e59a69befc34994427d46a93695664d4c200ba0f2dce05471ee4b29e15aae960251a446590c14b9058ab35a7fbb9dfd0cdbbd9643962fa57f2cc9777ced444dc2de2711381bdd4de2841308802cf4f9c5eea6a85b9ac81150c9438dd7bd6e108f12b71fe3ad3f77762fb5513233ba08f2120ecd86):=⟨_,by conv=>rhs;reduce⟩
noncomputable abbrev Pu:XF:=ft_prmsG'.1 (eC 52 2 am) (eC 68 18 aF)
theorem Dy:aK Tryz.prog 140 Pu=true:=by kernel_rfl
structure aak where
 q:Nat→Value
 N:Int
 m:List Int
 me:Int
 rh:Value
 log:List Ke
 ba:Int
 com:Int
 sh:Bool
 hs:List (Int×Int)
 prm:Int
 aa:Int
 avh:Value
 av:List Int
 ath:Value
 atl:List Ke
 oN:Int
 ob:Int
structure Zp where
 z:Mg
theorem NP:aB Tryz.prog 140 5 (aO (fun p:aak=>([.ptr 0 0,.agg [.int 1 (.ofNat 6),.int 1 (.ofNat 0),.int 1 (.ofNat 0),.sy (.int 3 p.oN),.int 3 (.ofNat 0),.int 3 (.ofNat 0),.int 3 (.ofNat 0),.sy (.int 4 p.ob),.int 4 (.ofNat 0),.int 1 (.ofNat 0),.int 2 (.ofNat 0),.int 3 (.ofNat 0),.int 1 (.ofNat 0),.int 1 (.ofNat 0),.int 1 (.ofNat 0),.int 1 (.ofNat 0),.int 1 (.ofNat 0),.int 1 (.ofNat 0),.int 1 (.ofNat 0),.nilS,.int 1 (.ofNat 0),.str [],.int 1 (.ofNat 0),.int 3 (.ofNat 0),.nilS,.int 1 (.ofNat 0),.int 2 (.ofNat 0),.bool false,.nilS,.nilS,.nilS]],(.node (.node (.node .leaf (some (bu p.log)) .leaf) (some (bZ p.N p.rh p.m p.me 3 p.log.length p.ba p.com (p.sh=true) 4)) .leaf) (some (o_E p.q)) (.node (.node .leaf (some (.kmap true true false (Int×Int) p.hs aY aX)) .leaf) (some (eL p.prm p.aa p.avh p.av p.ath p.atl)) .leaf)),5)) (fun p=>ROk p.m p.me p.log p.ba p.com p.hs∧p.av.length≤8∧p.atl.length≤400) (fun p K=>aj fun r:Zp=>iP (r.z.er=qS p.oN p.ob (p.log.drop p.ba.toNat) (mG p.aa (p.av,p.atl))) (K (jU r.z.k r.z.N r.z.fr r.z.c r.z.b r.z.acc [] r.z.vn r.z.vh r.z.vl r.z.pn r.z.pl (r.z.has=true) r.z.mh r.z.ml r.z.h r.z.l r.z.th r.z.tl) (.node (.node (.node .leaf (some (bu p.log)) .leaf) (some (bZ p.N p.rh p.m p.me 3 p.log.length p.ba p.com (p.sh=true) 4)) .leaf) (some (o_E p.q)) (.node (.node .leaf (some (.kmap true true false (Int×Int) p.hs aY aX)) .leaf) (some (eL p.prm p.aa p.avh p.av p.ath p.atl)) .leaf)) 5) true)):=nE (nat:=xL) Dy fun p K hpre hK=>by
 dsimp only at hpre hK ⊢
 obtain⟨hpre,av1,av2⟩:=hpre
 have hl_:=hpre.len
 have ba0:=hpre.ba0
 have ba1:=hpre.ba1
 have hm:=ah hpre.nl
 have hne:=List.length_pos_iff.2 (List.ne_nil_of_mem hpre.me)
 have nnx:=trivial
 have nnr:=trivial
 have ys {g:Prop} (h:g:=by first|(first|omega|(simp;done)|(simp;omega)|(simp only[akA];omega);done)|fail):g:=h
 have yg {g:Prop} (h:g:=by first|(first|assumption|exact⟨by omega,by omega⟩)|(first|omega|(simp only[akA,akJ];omega))|fail):g:=h
 have yp {g:Prop} (h:g:=by first|(exact prw (by assumption:_=List.take _ (List.drop _ _)∧_) (by rw[akJ];exact akB _) (by first|exact Pf (by assumption)|exact KT (by assumption:¬p.aa=0∧_∧_)))|fail):g:=h
 have ye {g:Prop} (h:g:=by first|(exact cQ hK (.mk (.mk _ _ _ _ _ _ _ _ [] _ _ _ _ [] _ _ _ [] ..) ..))|(exact cQ hK (.mk (.mk _ _ _ _ _ _ _ _ [] ..) ..))|fail):g:=h
 exact wz
noncomputable def xN:NN:=iD xL NP [(0,4),(1,15)] [0,1,2,5,6,7,8,9,10,11,12,13,14,15,16,17,18,19,20]
noncomputable def GP (M:T) (i r:Nat):Bool:=match M.get i with
 |some (.blk _ _ _ (el::_))=>match bP el r with
  |some (.ptr _ _)=>true
  |_=>false
 |_=>false
noncomputable def ft_askedn':NV (fun e0 e1 e2=>aA [e0,e1,e2] [] [] 0x5d9e834bb803d9b4b749ac7ba19d26fa908c149783f3b744afac9373971d590b29433c1b78958d0798d00af50f52372b8bceda123595d7ec99579df37c7dc7b353beb0b3dc5a14f226ec2c62ae2672b839539012c00f2d6e8d536fa8ac43a9ced63829f7f5254168f53a3eeb4c150a26a612de532ef28322c524fe6ca78e8438b572994e9574907207b5beda6a6c25df58fab88e1d776c74950c13d549fd8fcbdfa391b8364754d6d8d848e9916efb28af8e8f6ff50afb3a5f32d9b2d7ea92f63bf461b3b271f097a643b1954eda0b86e2954f38610d84796be951793e0974d97125b7d4cd3b9e6152c34b506093607b524d0de008610bf054ae8c8d17f64f2583fdd993a):=⟨_,by conv=>rhs;reduce⟩
noncomputable abbrev Lq:XF:=ft_askedn'.1 (eC 52 2 am) (eC 68 18 aF) (eB 118 33 cB)
theorem qg:aK Tryz.prog 116 Lq=true:=by kernel_rfl
structure RA where
 s:Si
 now:Int
 fr:Int
 m:Mg
structure Rd where
 s:Si
 o:List Ou
theorem JX:aB Tryz.prog 116 1 (aO (fun p:RA=>([.ptr 0 0,.sy (.int 0 p.now),eu p.fr,jU p.m.k p.m.N p.m.fr p.m.c p.m.b p.m.acc [] p.m.vn p.m.vh p.m.vl p.m.pn p.m.pl (p.m.has=true) p.m.mh p.m.ml p.m.h p.m.l p.m.th p.m.tl],(dm p.s p.s p.s),9)) (fun p=>bA (p.s.er none)∧((p.s.be.length:Int)≤p.s.se∧0<p.s.N)∧0≤p.now∧p.now≤1000000000∧p.m.ml.length≤1000∧p.m.tl.length≤1000) (fun p K=>aj fun r:Rd=>iP (((r.s.er none),r.o.map Ou.er)=dt p.now (p.s.er none) p.fr p.m.er∧(r.s.be.length:Int)≤r.s.se∧0<r.s.N) (K (.sy (.prow 1 r.o.length)) (fA r.s r.s r.s r.o) 10) true)):=nE (nat:=xN) qg fun p K hpre hK=>by
 dsimp only at hpre hK ⊢
 obtain⟨hs,b1,n1,n2,l1,l2⟩:=hpre
 have av1:=hs.av.1
 have av2:=hs.av.2
 dsimp only[Si.er]at av1 av2
 have g3:=hs.sa0
 have g4:=hs.sa1
 have hm:=ah hs.r.nl
 have g5:=hs.r.nl
 have g6:=List.ne_nil_of_mem hs.r.me
 have g7:=hs.n0
 have g8:=hs.n1
 have g9:=ah hs.su
 have g10:=ah hs.go
 have g11:=ah hs.jo
 have g12:=hs.jo.2
 have g13:=hs.tr0
 have g14:=hs.tr1
 dsimp only[Si.er]at g3 g4 hm g5 g6 g7 g8 g9 g10 g11 g12 g13 g14
 have nnr:=trivial
 have nnq:=trivial
 have yg {g:Prop} (h:g:=by first|(first|exact⟨hs.r,av1,av2⟩|exact absurd (by assumption:p.m.k=5) (by assumption))|(first|assumption|exact⟨by omega,by omega⟩)|fail):g:=h
 have yp {g:Prop} (h:g:=by first|(first|exact absurd (by assumption:p.m.k=5) (by assumption)|exact⟨FT (by assumption),b1⟩|exact⟨CH (Classical.not_not.1 (by assumption)) (by assumption) rfl,b1⟩|exact⟨TL (s:=p.s) (m:=p.m) (Classical.not_not.1 (by assumption)) (by assumption) (by assumption) (by assumption) rfl (by assumption),b1⟩|exact⟨TK (s:=p.s) (m:=p.m) (Classical.not_not.1 (by assumption)) (by assumption) (by assumption) (by assumption) rfl rfl,b1⟩)|fail):g:=h
 have yq {g:Prop} (h:g:=by first|(refine wX [(.mk _ (.mk ..) ..)] (by first|exact sd|exact ys) ?_;exact wz)|fail):g:=h
 exact wz
noncomputable def uE:NN:=fK xN JX [(0,4),(1,20),(2,15),(3,15)] (fun us M=>Ny (GP M 0 5))
structure Rz where
 s:Si
 v:Qi
 now:Int
 fr:Int
 m:Mg
structure Rc where
 s:Si
 v:Qi
 o:List Ou
structure Mp where
 s:Si
 o:List Ou
theorem JW:aB Tryz.prog 116 1 (aO (fun p:Rz=>([.ptr 0 0,.sy (.int 0 p.now),eu p.fr,jU p.m.k p.m.N p.m.fr p.m.c p.m.b p.m.acc [] p.m.vn p.m.vh p.m.vl p.m.pn p.m.pl (p.m.has=true) p.m.mh p.m.ml p.m.h p.m.l p.m.th p.m.tl],(dl p.s p.s p.s p.s p.v),11)) (fun p=>bA (p.s.er none)∧((p.s.be.length:Int)≤p.s.se∧0<p.s.N)∧0≤p.now∧p.now≤1000000000∧p.m.ml.length≤1000∧p.m.tl.length≤1000) (fun p K=>ac (aj fun r:Rc=>iP (((r.s.er (some r.v.er)),r.o.map Ou.er)=dt p.now (p.s.er (some p.v.er)) p.fr p.m.er∧(r.s.be.length:Int)≤r.s.se∧0<r.s.N) (K (.sy (.prow 1 r.o.length)) (gG r.s r.s r.s r.s r.v r.o) 12) true) (aj fun r:Mp=>iP (((r.s.er none),r.o.map Ou.er)=dt p.now (p.s.er (some p.v.er)) p.fr p.m.er∧(r.s.be.length:Int)≤r.s.se∧0<r.s.N) (K (.sy (.prow 1 r.o.length)) (fA r.s r.s r.s r.o) 10) true))):=nE (nat:=uE) qg fun p K hpre hK=>by
 dsimp only at hpre hK ⊢
 obtain⟨hK0,hKr0⟩:=ae hK
 have hK1:=hKr0
 obtain⟨hs,b1,n1,n2,l1,l2⟩:=hpre
 have av1:=hs.av.1
 have av2:=hs.av.2
 dsimp only[Si.er]at av1 av2
 have g3:=hs.sa0
 have g4:=hs.sa1
 have hm:=ah hs.r.nl
 have g5:=hs.r.nl
 have g6:=List.ne_nil_of_mem hs.r.me
 have g7:=hs.n0
 have g8:=hs.n1
 have g9:=ah hs.su
 have g10:=ah hs.go
 have g11:=ah hs.jo
 have g12:=hs.jo.2
 have g13:=hs.tr0
 have g14:=hs.tr1
 dsimp only[Si.er]at g3 g4 hm g5 g6 g7 g8 g9 g10 g11 g12 g13 g14
 have nnr:=trivial
 have nnq:=trivial
 have yg {g:Prop} (h:g:=by first|(first|exact⟨hs.r,av1,av2⟩|exact absurd (by assumption:p.m.k=5) (by assumption))|(first|assumption|exact⟨by omega,by omega⟩)|fail):g:=h
 have yp {g:Prop} (h:g:=by first|(first|exact absurd (by assumption:p.m.k=5) (by assumption)|exact⟨FT (by assumption),b1⟩|exact⟨CH (Classical.not_not.1 (by assumption)) (by assumption) rfl,b1⟩|exact⟨TL (s:=p.s) (m:=p.m) (Classical.not_not.1 (by assumption)) (by assumption) (by assumption) (by assumption) (by first|exact Gv (by assumption)|exact Gw (by assumption)) (by assumption),b1⟩|exact⟨TK (s:=p.s) (m:=p.m) (Classical.not_not.1 (by assumption)) (by assumption) (by assumption) (by assumption) (by first|exact Gv (by assumption)|exact Gw (by assumption)) rfl,b1⟩)|fail):g:=h
 have ye {g:Prop} (h:g:=by first|(exact cQ hK0 (.mk (.mk ..) (.mk ..) [] ..))|fail):g:=h
 have yq {g:Prop} (h:g:=by first|(refine wX [(.mk _ (.mk ..) ..)] (by first|exact sd|exact ys) ?_;exact wz)|fail):g:=h
 exact wz
noncomputable def uD:NN:=fK uE JW [(0,4),(1,20),(2,15),(3,15)] (fun us M=>GP M 0 5)
def dw (N me:Int) (m:List Int) (log:List Ke) (ba:Int) (jo:List Int) (p:Int):List Int×List (Int×Mx):=if p∈m then (jo,cI me {aE 10 with vn:=N,vl:=m,l:=log.take ba.toNat} [p]) else (dU jo p,[])
theorem Ec {me p:Int} {x:Mx} (h:¬p=me):[(p,x)]=cI me x [p]:=by simp[cI,h]
theorem zW {me p:Int} {x:Mx} (h:p=me):([]:List (Int×Mx))=cI me x [p]:=by simp[cI,h]
theorem ait {N me ba p:Int} {m jo:List Int} {log:List Ke} {z:Mg} (h:p∈m) (hn:¬p=me) (hz:z.er={aE 10 with vn:=N,vl:=m,l:=log.take ba.toNat}):(jo,[(⟨p,z⟩:Ou)].map Ou.er)=dw N me m log ba jo p:=by
 unfold dw
 rw[if_pos h,←Ec hn,←hz];rfl
theorem aiu {N me ba p:Int} {m jo:List Int} {log:List Ke} (h:p∈m) (hn:p=me):(jo,([]:List Ou).map Ou.er)=dw N me m log ba jo p:=by
 unfold dw
 rw[if_pos h,←zW hn];rfl
theorem KA {N me ba p:Int} {m jo l:List Int} {log:List Ke} (h:¬p∈m) (e:l=dU jo p):(l,([]:List Ou).map Ou.er)=dw N me m log ba jo p:=by
 unfold dw
 rw[if_neg h,e];rfl
theorem Gz {l:List Int} {x z:Int} (h: -1≤z∧(z= -1→∀y∈l,¬y=x)∧(¬z= -1→0≤z∧z<(l.length:Int)∧(∀y∈l.take z.toNat,¬y=x)∧∀y,l[z.toNat]?=some y→y=x)) (hz:0≤z):l.set z.toNat x=l∧l=dU l x:=by
 obtain⟨h1,h2,_,h4⟩:=h.2.2 (by omega)
 have hlt:z.toNat<l.length:=by omega
 have e:=h4 _ (List.getElem?_eq_getElem hlt)
 unfold dU
 rw[if_pos (by rw[←e];exact List.getElem_mem hlt)]
 exact⟨by rw[←e,List.set_getElem_self],rfl⟩
theorem Xi {l:List Int} {x z:Int} (hl:NL l) (hx:0≤x∧x<8) (h: -1≤z∧(z= -1→∀y∈l,¬y=x)∧(¬z= -1→0≤z∧z<(l.length:Int)∧(∀y∈l.take z.toNat,¬y=x)∧∀y,l[z.toNat]?=some y→y=x)) (hz:¬0≤z):(l.length:Int)<8:=by
 have hn:NL (x::l):=⟨List.nodup_cons.2 ⟨fun q=>h.2.1 (by omega) x q rfl,hl.1⟩,fun y hy=>by
  rcases List.mem_cons.1 hy with rfl|hy
  ·exact hx
  ·exact hl.2 y hy⟩
 have:=ah hn
 rw[akl]at this
 omega
noncomputable def ft_joinG':NV (fun e0=>aA [e0] [] [] 0x12583bec7ecadec6c0116796d61862682e793d9c78f2678b8688f66c11e6ee7c76c5e5e05e6b71e3cb213a4ba4905453a3ebab136299f40c9afe7ddf0141cbab8abb9ce2084f9933dcb5ee9a64271795de0ed1bb69dbea769de53dcf502ecee4d8a120670d2ca5d050a6fb1895a3500b3542b4e1cf1c94cecacd92ae57c5c996fa315655d655553205312770d6aea23625):=⟨_,by conv=>rhs;reduce⟩
noncomputable abbrev PC:XF:=ft_joinG'.1 (eB 118 33 cB)
theorem DG:aK Tryz.prog 77 PC=true:=by kernel_rfl
structure aar where
 q:Nat→Value
 N:Int
 mh:Value
 m:List Int
 me:Int
 rh:Value
 log:List Ke
 ba:Int
 com:Int
 sh:Bool
 hs:List (Int×Int)
 jo:List Int
 p:Int
structure ZD where
 jo:List Int
 o:List Ou
theorem NW:aB Tryz.prog 77 1 (aO (fun p:aar=>([.ptr 0 0,eu p.p],(.node (.node (.node .leaf (some (bu p.log)) .leaf) (some (bZ p.N p.rh p.m p.me 3 p.log.length p.ba p.com (p.sh=true) 4)) .leaf) (some (o_w p.N p.mh p.m 1 p.q p.me 2 p.jo.length)) (.node (.node .leaf (some (.kmap true true false (Int×Int) p.hs aY aX)) .leaf) (some (aD p.jo)) .leaf)),5)) (fun p=>ROk p.m p.me p.log p.ba p.com p.hs∧NL p.jo∧0≤p.p∧p.p<8) (fun p K=>aj fun r:ZD=>iP ((r.jo,r.o.map Ou.er)=dw p.N p.me p.m p.log p.ba p.jo p.p) (K (.sy (.prow 1 r.o.length)) (.node (.node (.node .leaf (some (aD r.jo)) .leaf) (some (lm r.o)) (.node .leaf (some (.kmap true true false (Int×Int) p.hs aY aX)) .leaf)) (some (o_w p.N p.mh p.m 2 p.q p.me 3 r.jo.length)) (.node (.node .leaf (some (bu p.log)) .leaf) (some (bZ p.N p.rh p.m p.me 4 p.log.length p.ba p.com (p.sh=true) 5)) .leaf)) 6) true)):=nE (nat:=uD) DG fun p K hpre hK=>by
 dsimp only at hpre hK ⊢
 obtain⟨hpre,hj,hp⟩:=hpre
 have g4:=hpre.len
 have g5:=hpre.ba0
 have g6:=hpre.ba1
 have g7:=ah hj
 have hm:=ah hpre.nl
 have hne:=List.length_pos_iff.2 (List.ne_nil_of_mem hpre.me)
 have nnq:=trivial
 have ys {g:Prop} (h:g:=by first|(exact(Gz (by assumption: -1≤_∧_) (by assumption)).1)|(simp[bU];omega;done)|fail):g:=h
 have yg {g:Prop} (h:g:=by first|(refine⟨?_,?_,?_,?_⟩<;>omega)|(first|omega|assumption|exact⟨by omega,by omega⟩)|fail):g:=h
 have yp {g:Prop} (h:g:=by first|(first|exact ait (by assumption) (by assumption) (by assumption:_={aE 10 with vn:=p.N,vl:=p.m,l:=p.log.take p.ba.toNat})|exact aiu (by assumption) (by first|assumption|exact Classical.not_not.1 (by assumption))|exact KA (by assumption) (Gz (by assumption: -1≤_∧_) (by assumption)).2|exact KA (by assumption) (IY (by assumption: -1≤_∧_) (by omega))|exact absurd (Xi hj hp (by assumption: -1≤_∧_) (by assumption)) (by assumption))|fail):g:=h
 have yz {g:Prop} (h:g:=by first|(exact(Gz (by assumption: -1≤_∧_) (by assumption)).1)|(simp[bU];omega;done)|fail):g:=h
 have ye {g:Prop} (h:g:=by first|(exact cQ hK (.mk _ [] ..))|fail):g:=h
 have yq {g:Prop} (h:g:=by first|(refine wX [(.mk _ (.mk ..) ..)] (by first|exact sd|exact ys) ?_;exact wz)|(refine wX _ (by first|exact sd|exact ys) ?_;exact wz)|(refine wX p.jo (by first|exact sd|exact ys) ?_;exact wz)|(refine wX [_] (by first|exact sd|exact ys) ?_;exact wz)|fail):g:=h
 exact wz
noncomputable def xT:NN:=iD uD NW [(0,4),(1,15)] [4,5,6,7,10,11,13,14,15,16,17,18,19,20]
def eU (N me:Int) (m:List Int) (log:List Ke) (ba com:Int) (sh:Bool) (se fr:Int) (x:Mx):(List Ke×Int)×List (Int×Mx):=
 if x.N=N then (if m.head?=some me∨¬m.head?=some fr then ((log,com),[]) else (gE m me log ba com sh x.fr x.l x.c,[(fr,{aE 4 with N:=N,fr:=((gE m me log ba com sh x.fr x.l x.c).1.length:Int)})]))
 else if x.N≤se then ((log,com),[]) else ((log,com),[(fr,{aE 4 with N:=N})])
theorem aiI {N me ba com se fr:Int} {m:List Int} {log:List Ke} {sh:Bool} {x:Mx} (h:x.N=N) (h2:m.head?=some me∨¬m.head?=some fr):((log,com),([]:List Ou).map Ou.er)=eU N me m log ba com sh se fr x:=by
 unfold eU
 rw[if_pos h,if_pos h2];rfl
theorem af9 {N me ba com se fr c2:Int} {m:List Int} {log l2:List Ke} {sh:Bool} {x:Mx} {z:Mg} (h:x.N=N) (h1:¬m.head?=some me) (h2:m.head?=some fr) (ht:(l2,c2)=gE m me log ba com sh x.fr x.l x.c) (hz:z.er={aE 4 with N:=N,fr:=(l2.length:Int)}):((l2,c2),[(⟨fr,z⟩:Ou)].map Ou.er)=eU N me m log ba com sh se fr x:=by
 unfold eU
 rw[if_pos h,if_neg (fun g=>g.elim h1 fun g=>g h2),←ht,←hz];rfl
theorem YV {N me ba com se fr:Int} {m:List Int} {log:List Ke} {sh:Bool} {x:Mx} (h:¬x.N=N) (h1:x.N≤se):((log,com),([]:List Ou).map Ou.er)=eU N me m log ba com sh se fr x:=by
 unfold eU
 rw[if_neg h,if_pos h1];rfl
theorem aga {N me ba com se fr:Int} {m:List Int} {log:List Ke} {sh:Bool} {x:Mx} {z:Mg} (h:¬x.N=N) (h1:¬x.N≤se) (hz:z.er={aE 4 with N:=N}):((log,com),[(⟨fr,z⟩:Ou)].map Ou.er)=eU N me m log ba com sh se fr x:=by
 unfold eU
 rw[if_neg h,if_neg h1,←hz];rfl
theorem UM {m:List Int} {me ba com fr c c2:Int} {log l l2:List Ke} {sh:Bool} {hs:List (Int×Int)} (h:ROk m me log ba com hs) (e:(l2,c2)=gE m me log ba com sh fr l c):l2.length≤400:=by
 have h2:=(ir (sh:=sh) (fr:=fr) (l:=l) (c:=c) h).len
 rw[←e]at h2
 dsimp only at h2
 omega
noncomputable def ft_appdG':NV (fun e0 e1 e2=>aA [e0,e1,e2] [] [] 0xd9f07548d8ae0148a2c0366113a91c52d39d222ee00588cae5253be700d4d2e1d71f940423afb382ed1e0dc21d809f01cd9e48ec632aaf1ad7480e164f429b908814db560b96b45f21f1f7c86e8ea77795e91c6212728be1294b2f4563e15f909455721b165100bcf5b82136e803407f01e0bdc84c5a8b027d3461d84dce79e55ca118c1f8a57b8de7d8b0eb555e0a15b7c628761177739673d0e2169b549250e86fe40449d3a74c58b07ab9da4be18e48c52ae1e86eb0d50b8f3c26c1f642ed7950aef8c7ea4cbbd14744d3):=⟨_,by conv=>rhs;reduce⟩
noncomputable abbrev PS:XF:=ft_appdG'.1 (eC 52 2 am) (eC 68 18 aF) (eB 118 33 cB)
theorem sg:aK Tryz.prog 75 PS=true:=by kernel_rfl
structure aaH where
 q:Nat→Value
 N:Int
 mh:Value
 m:List Int
 me:Int
 rh:Value
 log:List Ke
 ba:Int
 com:Int
 sh:Bool
 hs:List (Int×Int)
 se:Int
 fr:Int
 x:Mg
structure ZU where
 log:List Ke
 com:Int
 o:List Ou
theorem Ok:aB Tryz.prog 75 1 (aO (fun p:aaH=>([.ptr 0 0,eu p.fr,jU p.x.k p.x.N p.x.fr p.x.c p.x.b p.x.acc [] p.x.vn p.x.vh p.x.vl p.x.pn p.x.pl (p.x.has=true) p.x.mh p.x.ml p.x.h p.x.l p.x.th p.x.tl],(.node (.node (.node .leaf (some (.kmap true true false (Int×Int) p.hs aY aX)) .leaf) (some (bZ p.N p.rh p.m p.me 2 p.log.length p.ba p.com (p.sh=true) 3)) .leaf) (some (o_x p.N p.mh p.m 1 p.q p.me p.se)) (.node .leaf (some (bu p.log)) .leaf)),4)) (fun p=>ROk p.m p.me p.log p.ba p.com p.hs∧0<p.N∧TV p.x.er∧0≤p.fr∧p.fr<8) (fun p K=>aj fun r:ZU=>iP (((r.log,r.com),r.o.map Ou.er)=eU p.N p.me p.m p.log p.ba p.com p.sh p.se p.fr p.x.er) (K (.sy (.prow 1 r.o.length)) (.node (.node (.node .leaf (some (bu r.log)) .leaf) (some (lm r.o)) .leaf) (some (o_x p.N p.mh p.m 2 p.q p.me p.se)) (.node (.node .leaf (some (.kmap true true false (Int×Int) p.hs aY aX)) .leaf) (some (bZ p.N p.rh p.m p.me 3 r.log.length p.ba r.com (p.sh=true) 4)) .leaf)) 5) true)):=nE (nat:=xT) sg fun p K hpre hK=>by
 dsimp only at hpre hK ⊢
 obtain⟨hpre,hN,hM,f1,f2⟩:=hpre
 obtain⟨z_b,z_acc,z_vn,z_vl,z_pn,z_pl,z_has,z_ml,z_tl,c_0,c_1,c_2,c_3,c_4,c_5,c_6⟩:=hM
 dsimp only[Mg.er]at c_0 c_1 c_2 c_3 c_4 c_5 c_6
 have mb:=hpre.nl.2 _ hpre.me
 have g4:=hpre.len
 have g5:=hpre.ba0
 have g6:=hpre.ba1
 have hm:=ah hpre.nl
 have hne:=List.length_pos_iff.2 (List.ne_nil_of_mem hpre.me)
 have nnr:=trivial
 have ys {g:Prop} (h:g:=by first|(simp only[mP];first|omega|(have hz:=UM hpre (by assumption);omega);done)|fail):g:=h
 have yg {g:Prop} (h:g:=by first|(exact⟨hpre,by omega,by omega,by omega,by omega⟩)|fail):g:=h
 have yp {g:Prop} (h:g:=by first|(first|(exfalso;omega)|exact aiI (by assumption) (by first|exact .inl ((fF (by assumption)).1 (by assumption))|exact .inr (fun g=>absurd ((fF (by assumption)).2 g) (by assumption)))|exact af9 (by assumption) (fun g=>absurd ((fF (by assumption)).2 g) (by assumption)) ((fF (by assumption)).1 (by first|assumption|exact Classical.not_not.1 (by assumption))) (by assumption) rfl|exact YV (by assumption) (by assumption)|exact aga (by assumption) (by assumption) rfl)|fail):g:=h
 have ye {g:Prop} (h:g:=by first|(exact cQ hK (.mk _ _ [] ..))|fail):g:=h
 have yq {g:Prop} (h:g:=by first|(refine wX [(.mk _ (.mk ..) ..)] (by first|exact sd|exact ys) ?_;exact wz)|fail):g:=h
 exact wz
noncomputable def yf:NN:=iD xT Ok [(0,4),(1,15),(2,15)] [4,5,6,10,11,12,13,14,16,17,18,19,20]
def oZ (me se fr:Int) (x:Mx):List (Int×Mx):=if x.N≤se then [] else [(fr,{aE 11 with pn:=me,pl:=1})]
theorem af8 {me se fr:Int} {x:Mx} (h:x.N≤se):([]:List Ou).map Ou.er=oZ me se fr x:=by unfold oZ;rw[if_pos h];rfl
theorem YU {me se fr:Int} {x:Mx} {z:Mg} (h:¬x.N≤se) (hz:z.er={aE 11 with pn:=me,pl:=1}):[(⟨fr,z⟩:Ou)].map Ou.er=oZ me se fr x:=by unfold oZ;rw[if_neg h,←hz];rfl
structure aaG where
 s:So
 fr:Int
 m:Mg
structure ZT where
 o:List Ou
theorem Oj:aB Tryz.prog 75 1 (aO (fun p:aaG=>([.ptr 0 0,eu p.fr,jU p.m.k p.m.N p.m.fr p.m.c p.m.b p.m.acc [] p.m.vn p.m.vh p.m.vl p.m.pn p.m.pl (p.m.has=true) p.m.mh p.m.ml p.m.h p.m.l p.m.th p.m.tl],(da p.s),5)) (fun _=>True) (fun p K=>aj fun r:ZT=>iP (r.o.map Ou.er=oZ p.s.me p.s.se p.fr p.m.er) (K (.sy (.prow 1 r.o.length)) (jc p.s r.o) 6) true)):=nE (nat:=yf) sg fun p K hpre hK=>by
 dsimp only at hpre hK ⊢
 have yp {g:Prop} (h:g:=by first|(first|exact af8 (by assumption)|exact YU (by assumption) rfl)|fail):g:=h
 have yq {g:Prop} (h:g:=by first|(refine wX [(.mk _ (.mk ..) ..)] (by first|exact sd|exact ys) ?_;exact wz)|fail):g:=h
 exact wz
noncomputable def yc:NN:=fK yf Oj [(0,4),(1,15),(2,15)] (fun us M=>Hy M 0 1)
def tU (s:St) (v:Pq) (x:Int):Pq:={v with ph:=(ez s.m v.ph v.gt x).1,gt:=(ez s.m v.ph v.gt x).2}
def gU (now:Int) (s:St) (fr:Int) (m:Mx):St×List (Int×Mx):=
 if m.k=4 then ({s with com:=(jR s.m s.me s.log s.com s.hs fr m.fr).1,hs:=(jR s.m s.me s.log s.com s.hs fr m.fr).2},[])
 else if m.k=5∨m.k=9 then dt now s fr m
 else match s.q with
 |none=>(s,[])
 |some v=>if m.k=7 then (mU now s m.b,[]) else if ¬m.b=v.b then (s,[])
  else if m.k=8 then dK now {s with q:=none} (og s v fr m.l m.acc (m.ml,m.tl) m.has)
  else dK now {s with q:=none} (tU s v fr)
def fZ (now:Int) (s:St) (fr:Int) (m:Mx):St×List (Int×Mx):=
 if 0<m.b∧(400 - s.ba<(m.l.length:Int)∨400 - s.ba<(m.tl.length:Int)) then (s,[]) else gU now {s with ro:=max s.ro (m.b / 256 % 4294967296)} fr m
theorem Cb {now fr:Int} {s:Si} {q:Option Pq} {m:Mg} (h:0<m.b∧(400 - s.ba<(m.l.length:Int)∨400 - s.ba<(m.tl.length:Int))):(s.er q,([]:List Ou).map Ou.er)=fZ now (s.er q) fr m.er:=by
 unfold fZ
 rw[if_pos (show 0<m.er.b∧(400 - (s.er q).ba<(m.er.l.length:Int)∨400 - (s.er q).ba<(m.er.tl.length:Int)) from h)];rfl
theorem iL {now fr r:Int} {s:Si} {q:Option Pq} {m:Mg} {y:St×List (Int×Mx)} (h:¬(0<m.b∧(400 - s.ba<(m.l.length:Int)∨400 - s.ba<(m.tl.length:Int)))) (hr:r=m.b / 256 % 4294967296) (hy:y=gU now (({s with ro:=max s.ro r}:Si).er q) fr m.er):y=fZ now (s.er q) fr m.er:=by
 unfold fZ
 rw[if_neg (show¬(0<m.er.b∧(400 - (s.er q).ba<(m.er.l.length:Int)∨400 - (s.er q).ba<(m.er.tl.length:Int))) from h),hy,hr];rfl
theorem afM {now fr com:Int} {hs:List (Int×Int)} {s:Si} {q:Option Pq} {m:Mg} (hk:m.k=4) (h:(com,hs)=jR s.m s.me s.log s.com s.hs fr m.fr):(({s with com:=com,hs:=hs}:Si).er q,([]:List Ou).map Ou.er)=gU now (s.er q) fr m.er:=by
 unfold gU
 rw[if_pos (show m.er.k=4 from hk),show jR (s.er q).m (s.er q).me (s.er q).log (s.er q).com (s.er q).hs fr m.er.fr=(com,hs) from h.symm];rfl
theorem LF {now fr:Int} {s:Si} {q:Option Pq} {m:Mg} {y:St×List (Int×Mx)} (hk:m.k=5∨m.k=9) (h:y=dt now (s.er q) fr m.er):y=gU now (s.er q) fr m.er:=by
 unfold gU
 rw[if_neg (show¬m.er.k=4 from fun g=>by
  have g:m.k=4:=g
  omega),if_pos (show m.er.k=5∨m.er.k=9 from hk),h]
theorem nS {now fr:Int} {s:Si} {q:Option Pq} {m:Mg} (h4:¬m.k=4) (h5:¬m.k=5) (h9:¬m.k=9):gU now (s.er q) fr m.er=match q with
 |none=>(s.er none,[])
 |some v=>if m.k=7 then (mU now (s.er (some v)) m.b,[]) else if ¬m.b=v.b then (s.er (some v),[])
  else if m.k=8 then dK now (s.er none) (og (s.er none) v fr m.l m.acc (m.ml,m.tl) m.has)
  else dK now (s.er none) (tU (s.er none) v fr):=by
 unfold gU
 rw[if_neg (show¬m.er.k=4 from h4),if_neg (show¬(m.er.k=5∨m.er.k=9) from fun g=>g.elim h5 h9)]
 cases q<;>rfl
theorem YA {now fr:Int} {s:Si} {m:Mg} (h4:¬m.k=4) (h5:¬m.k=5) (h9:¬m.k=9):(s.er none,([]:List Ou).map Ou.er)=gU now (s.er none) fr m.er:=by rw[nS h4 h5 h9];rfl
theorem aj4 {now fr tr:Int} {s:Si} {q2:Option Pq} {v:Pq} {m:Mg} (h4:¬m.k=4) (h5:¬m.k=5) (h9:¬m.k=9) (h7:m.k=7) (hy:(q2,tr)=fk now (some v) s.tr m.b):(({s with tr:=tr}:Si).er q2,([]:List Ou).map Ou.er)=gU now (s.er (some v)) fr m.er:=by
 rw[nS h4 h5 h9]
 dsimp only
 rw[if_pos h7]
 unfold mU
 rw[show fk now (s.er (some v)).q (s.er (some v)).tr m.b=(q2,tr) from hy.symm];rfl
theorem aj2 {now fr:Int} {s:Si} {v:Pq} {m:Mg} (h4:¬m.k=4) (h5:¬m.k=5) (h9:¬m.k=9) (h7:¬m.k=7) (hb:¬m.b=v.b):(s.er (some v),([]:List Ou).map Ou.er)=gU now (s.er (some v)) fr m.er:=by
 rw[nS h4 h5 h9]
 dsimp only
 rw[if_neg h7,if_pos hb];rfl
theorem aj3 {now fr:Int} {s:Si} {v:Pq} {m:Mg} {y:St×List (Int×Mx)} (h4:¬m.k=4) (h5:¬m.k=5) (h9:¬m.k=9) (h7:¬m.k=7) (hb:m.b=v.b) (h8:m.k=8) (hy:y=dK now (s.er none) (og (s.er none) v fr m.l m.acc (m.ml,m.tl) m.has)):y=gU now (s.er (some v)) fr m.er:=by
 rw[nS h4 h5 h9]
 dsimp only
 rw[if_neg h7,if_neg (fun g=>g hb),if_pos h8,hy]
theorem aj5 {now fr:Int} {s:Si} {v:Pq} {m:Mg} {y:St×List (Int×Mx)} (h4:¬m.k=4) (h5:¬m.k=5) (h9:¬m.k=9) (h7:¬m.k=7) (hb:m.b=v.b) (h8:¬m.k=8) (hy:y=dK now (s.er none) (tU (s.er none) v fr)):y=gU now (s.er (some v)) fr m.er:=by
 rw[nS h4 h5 h9]
 dsimp only
 rw[if_neg h7,if_neg (fun g=>g hb),if_neg h8,hy]
theorem Js {s:Si} {v:Qi} {qh qth cmh cth hh:Value} {g2:List Int} {b2:Int} {h2:Option Vl} {q2 l:List Ke} {x acc:Int} {u:List Int×List Ke} {has:Bool} (h:(g2,b2,h2.map Vl.er,q2)=kV s.m v.ph v.gt v.best (v.held.map Vl.er) v.qt x l acc u has):
  (⟨v.b,v.ph,g2,b2,hh,h2,qh,qth,q2,cmh,v.cm,cth,v.ct⟩:Qi).er=og (s.er none) v.er x l acc u has:=by
 unfold og
 rw[show kV (s.er none).m v.er.ph v.er.gt v.er.best v.er.held v.er.qt x l acc u has=(g2,b2,h2.map Vl.er,q2) from h.symm];rfl
theorem LY {s:Si} {v:Qi} {qh qth cmh cth hh:Value} {ph:Int} {g2:List Int} {x:Int} (h:(ph,g2)=ez s.m v.ph v.gt x):(⟨v.b,ph,g2,v.best,hh,v.held,qh,qth,v.qt,cmh,v.cm,cth,v.ct⟩:Qi).er=tU (s.er none) v.er x:=by
 unfold tU
 rw[show ez (s.er none).m v.er.ph v.er.gt x=(ph,g2) from h.symm];rfl
theorem Aj {s:St} {v:Pq} {x:Int} (hv:PQOk s v):PQOk s (tU s v x):=by
 have hn:=Cd (m:=s.m) (ph:=v.ph) (x:=x) (z:=1) hv.nd hv.sub
 unfold tU ez
 dsimp only
 have h0:=hv.ph0
 have h1:=hv.ph1
 refine⟨hv.b0,hv.b1,?_,?_,hn.1,hn.2,hv.best0,hv.best1,hv.qt,hv.qtk,hv.held,?_,hv.avl⟩
 ·dsimp only;split<;>omega
 ·dsimp only;split<;>omega
 ·rcases hv.ch with⟨e,e2⟩|⟨e,e2⟩
  ·exact .inl ⟨by dsimp only;rw[if_neg (fun g=>by have:=g.1.1;omega)];exact e,e2⟩
  ·refine .inr ⟨?_,e2⟩
   dsimp only
   split<;>omega
theorem tY {s:Si} (hs:bA (s.er none)) {x:Int} (h:0≤x∧x<4294967296):bA (({s with ro:=x}:Si).er none):=
 ⟨hs.r,hs.n0,hs.n1,hs.se,hs.su,hs.jo,hs.go,hs.met,hs.log,hs.was,hs.wasl,hs.sa0,hs.sa1,hs.tr0,hs.tr1,h.1,h.2,hs.prm0,hs.prm1,hs.aa0,hs.aa1,hs.av,hs.avk⟩
theorem EQ {m:Mx} (h:cE m):m.ml.length≤8∧m.tl.length≤400∧m.l.length≤400:=by
 obtain⟨_,_,_,_,_,_,_,_,_,_,h⟩:=h
 rcases h with h|h|h|h|h|h|h|h|h|h
 all_goals have h:=h.2
 ·unfold TV at h;obtain⟨_,_,_,_,_,_,_,e1,e2,_,a1,_,_,_,a2,_⟩:=h;rw[e1,e2];exact⟨by decide,by decide,by omega⟩
 ·unfold CS at h;simp only[h];decide
 ·unfold Ms at h;simp only[h];decide
 ·unfold MK6 at h;simp only[h];decide
 ·unfold MK7 at h;simp only[h];decide
 ·unfold TU at h
  refine⟨?_,by simp only[h],by simp only[h]⟩
  rcases h.2.2.2.2.2.2.2.2.2.2.2.2 with g|g
  ·exact ah g.2.2.1
  ·rw[g.2.2.1];decide
 ·unfold MK9 at h
  exact⟨ah (by simp only[h]),by simp only[h],by simp only[h];decide⟩
 ·unfold IS at h;simp only[h];decide
 ·unfold CU at h;simp only[h];decide
 ·unfold CT at h;simp only[h];decide
theorem Kg {m:Mx} (h:cE m) (hk:m.k=8):bS m.l∧0<m.b∧0≤m.acc∧m.acc<18446744073709551616∧(m.has=true→NL m.ml∧¬m.ml=[]∧bS m.tl):=by
 have g:=Tm h hk
 unfold TU at g
 obtain⟨_,_,_,_,_,_,_,g1,g2,g3,g4,g5,g6⟩:=g
 refine⟨g2,g1,h.2.2.2.2.2.2.1,h.2.2.2.2.2.2.2.1,fun e=> ?_⟩
 rcases g6 with g6|g6
 ·exact⟨g6.2.2.1,g6.2.2.2,g4⟩
 ·rw[g6.1]at e;cases e
theorem SP {b r:Int} (h:0≤b) (e:r=b / 256 % 4294967296):0≤r∧r<4294967296:=by omega
theorem zt {a r:Int} (h:0≤a∧a<4294967296) (e:0≤r∧r<4294967296):0≤max a r∧max a r<4294967296:=by omega
noncomputable def ft_currn':NV (fun e0=>aA [e0] [] [] 0x45b0ef287b382322df723277491390d8e5b2733e76cafa5a1dcb43b3a165dd94eb335db144a608108a9180e7ac9536f8bb26a3a63ffff8d33f3eac6aad28fb6da131c4497b14f3e0937c219b3836a0da5ae5139e00ea33908764383457d183d3ce3ae834afd141dcd2d20017913b996d1331b2b8fa9d05b2a6a3e1e5f4d3a5320469f8c208308d55fb308cd151a3817fb877fd641ae3f3ad1b22a48a92c5696741cd3c4a0b0cdf7855c3d6c5675c7537f404184efdf125f3895583fd39c3364c44c019efc314b53a941064c6bc3a82e9b0c773e34c23ea68a36567b99dcb6099ad6a3e822765f548f385cfedd97b6db2d2b597b6523a1f99516b3cdd298458fca000d9c46a479a14d2d67f6613cd1f80d1b8e622df1172b):=⟨_,by conv=>rhs;reduce⟩
noncomputable abbrev PP:XF:=ft_currn'.1 (eB 118 33 cB)
theorem sc:aK Tryz.prog 78 PP=true:=by kernel_rfl
structure aaD where
 s:Si
 now:Int
 fr:Int
 m:Mg
structure ZO where
 s:Si
 o:List Ou
theorem Og:aB Tryz.prog 78 1 (aO (fun p:aaD=>([.ptr 0 0,.sy (.int 0 p.now),eu p.fr,jU p.m.k p.m.N p.m.fr p.m.c p.m.b p.m.acc [] p.m.vn p.m.vh p.m.vl p.m.pn p.m.pl (p.m.has=true) p.m.mh p.m.ml p.m.h p.m.l p.m.th p.m.tl],(dm p.s p.s p.s),9)) (fun p=>bA (p.s.er none)∧qJ (p.s.er none)∧((p.s.be.length:Int)≤p.s.se∧0<p.s.N)∧0≤p.now∧p.now≤1000000000∧p.s.N+1<4294967295∧cE p.m.er∧4≤p.m.k∧p.m.k≤9) (fun p K=>aj fun r:ZO=>iP (((r.s.er none),r.o.map Ou.er)=fZ p.now (p.s.er none) p.fr p.m.er∧(r.s.be.length:Int)≤r.s.se∧0<r.s.N) (K (.sy (.prow 1 r.o.length)) (fA r.s r.s r.s r.o) 10) true)):=nE (nat:=yc) sc fun p K hpre hK=>by
 dsimp only at hpre hK ⊢
 obtain⟨hs,ha,b1,n1,n2,t3,hM,k1,k2⟩:=hpre
 have ml_:=EQ hM
 have mb0:=hM.2.2.2.2.1
 have mb1:=hM.2.2.2.2.2.1
 have hr_:=hs.r
 have ba0:=hs.r.ba0
 have ba1:=hs.r.ba1
 have hl_:=hs.r.len
 have ro0:=hs.ro0
 have ro1:=hs.ro1
 dsimp only[Si.er,Mg.er]at ml_ mb0 mb1 hr_ ba0 ba1 hl_ ro0 ro1
 have g3:=hs.sa0
 have g4:=hs.sa1
 have hm:=ah hs.r.nl
 have g5:=hs.r.nl
 have g6:=List.ne_nil_of_mem hs.r.me
 have g7:=hs.n0
 have g8:=hs.n1
 have g9:=ah hs.su
 have g10:=ah hs.go
 have g11:=ah hs.jo
 have g12:=hs.jo.2
 have g13:=hs.tr0
 have g14:=hs.tr1
 dsimp only[Si.er]at g3 g4 hm g5 g6 g7 g8 g9 g10 g11 g12 g13 g14
 have nnr:=trivial
 have ys {g:Prop} (h:g:=by first|(simp only[mP];first|omega|(have z4:=uK hM (by assumption);unfold CS at z4;simp only[Mg.er]at z4;omega);done)|fail):g:=h
 have yg {g:Prop} (h:g:=by first|(exact⟨hr_,by(have z4:=uK hM (by assumption);unfold CS at z4;simp only[Mg.er]at z4;omega)⟩)|(exact⟨tY hs (zt ⟨ro0,ro1⟩ rb1),b1,n1,n2,by omega,by omega⟩)|fail):g:=h
 have yp {g:Prop} (h:g:=by first|(first|exact⟨Cb (s:=p.s) (m:=p.m) ⟨by assumption,by first|exact .inl (by assumption)|exact .inr (by assumption)⟩,b1⟩|exact⟨iL (s:=p.s) (m:=p.m) (fun g=>by omega) hr1 (afM (s:=({p.s with ro:=max p.s.ro _}:Si)) (m:=p.m) (by assumption) (by assumption)),b1⟩|exact⟨iL (s:=p.s) (m:=p.m) (fun g=>by omega) hr1 (LF (s:=({p.s with ro:=max p.s.ro _}:Si)) (m:=p.m) (by first|exact .inl (by assumption)|exact .inr (by assumption)) (by assumption:_=dt _ _ _ _∧_).1),(by assumption:_=dt _ _ _ _∧_).2⟩|exact⟨iL (s:=p.s) (m:=p.m) (fun g=>by omega) hr1 (YA (s:=({p.s with ro:=max p.s.ro _}:Si)) (m:=p.m) (by assumption) (by assumption) (by assumption)),b1⟩)|fail):g:=h
 have yn {g:Prop} (h:g:=by first|(have hr1:=hi;have rb1:=SP mb0 hr1;exact wz)|fail):g:=h
 have yq {g:Prop} (h:g:=by first|(refine Ck (.mk ..) (h:= ?_);dsimp only[iz,ma,pX];exact wo)|fail):g:=h
 exact wz
noncomputable def xY:NN:=fK yc Og [(0,4),(1,20),(2,15),(3,15)] (fun us M=>Ny (GP M 0 5))
structure aaC where
 s:Si
 v:Qi
 now:Int
 fr:Int
 m:Mg
structure ZN where
 s:Si
 v:Qi
 o:List Ou
structure QY where
 s:Si
 o:List Ou
structure QX where
 s:So
 o:List Ou
theorem Of:aB Tryz.prog 78 1 (aO (fun p:aaC=>([.ptr 0 0,.sy (.int 0 p.now),eu p.fr,jU p.m.k p.m.N p.m.fr p.m.c p.m.b p.m.acc [] p.m.vn p.m.vh p.m.vl p.m.pn p.m.pl (p.m.has=true) p.m.mh p.m.ml p.m.h p.m.l p.m.th p.m.tl],(dl p.s p.s p.s p.s p.v),11)) (fun p=>bA (p.s.er none)∧PQOk (p.s.er none) p.v.er∧((p.s.be.length:Int)≤p.s.se∧0<p.s.N)∧0≤p.now∧p.now≤1000000000∧p.s.N+1<4294967295∧cE p.m.er∧4≤p.m.k∧p.m.k≤9) (fun p K=>ac (aj fun r:ZN=>iP (((r.s.er (some r.v.er)),r.o.map Ou.er)=fZ p.now (p.s.er (some p.v.er)) p.fr p.m.er∧(r.s.be.length:Int)≤r.s.se∧0<r.s.N) (K (.sy (.prow 1 r.o.length)) (gG r.s r.s r.s r.s r.v r.o) 12) true) (ac (aj fun r:QY=>iP (((r.s.er none),r.o.map Ou.er)=fZ p.now (p.s.er (some p.v.er)) p.fr p.m.er∧(r.s.be.length:Int)≤r.s.se∧0<r.s.N) (K (.sy (.prow 1 r.o.length)) (fA r.s r.s r.s r.o) 10) true) (aj fun r:QX=>iP ((r.s.er,r.o.map Ou.er)=fZ p.now (p.s.er (some p.v.er)) p.fr p.m.er∧(r.s.be.length:Int)≤r.s.se) (K (.sy (.prow 1 r.o.length)) (jc r.s r.o) 6) true)))):=nE (nat:=xY) sc fun p K hpre hK=>by
 dsimp only at hpre hK ⊢
 obtain⟨hK0,hKr0⟩:=ae hK
 obtain⟨hK1,hKr1⟩:=ae hKr0
 have hK2:=hKr1
 obtain⟨hs,hv,b1,n1,n2,t3,hM,k1,k2⟩:=hpre
 have hq:=PQOk.qok hs hv
 have ml_:=EQ hM
 have mb0:=hM.2.2.2.2.1
 have mb1:=hM.2.2.2.2.2.1
 have hr_:=hs.r
 have ba0:=hs.r.ba0
 have ba1:=hs.r.ba1
 have hl_:=hs.r.len
 have ro0:=hs.ro0
 have ro1:=hs.ro1
 dsimp only[Si.er,Mg.er]at ml_ mb0 mb1 hr_ ba0 ba1 hl_ ro0 ro1
 have g3:=hs.sa0
 have g4:=hs.sa1
 have hm:=ah hs.r.nl
 have g5:=hs.r.nl
 have g6:=List.ne_nil_of_mem hs.r.me
 have g7:=hs.n0
 have g8:=hs.n1
 have g9:=ah hs.su
 have g10:=ah hs.go
 have g11:=ah hs.jo
 have g12:=hs.jo.2
 have g13:=hs.tr0
 have g14:=hs.tr1
 dsimp only[Si.er]at g3 g4 hm g5 g6 g7 g8 g9 g10 g11 g12 g13 g14
 have nnr:=trivial
 have ys {g:Prop} (h:g:=by first|(simp only[mP];first|omega|(have z4:=uK hM (by assumption);unfold CS at z4;simp only[Mg.er]at z4;omega);done)|fail):g:=h
 have yg {g:Prop} (h:g:=by first|(exact⟨hr_,by(have z4:=uK hM (by assumption);unfold CS at z4;simp only[Mg.er]at z4;omega)⟩)|(exact⟨tY hs (zt ⟨ro0,ro1⟩ rb1),b1,n1,n2,by omega,by omega⟩)|(exact⟨hq,by omega,by omega,by omega⟩)|(first|(have z8:=Kg hM (by assumption);dsimp only[Mg.er]at z8;exact⟨tY hs (zt ⟨ro0,ro1⟩ rb1),by rw[Js (hi)];exact gv (Ai hv ⟨z8.1,by show(p.m.l.length:Int)≤400 - p.s.ba;omega⟩ ⟨z8.2.2.1,z8.2.2.2.1⟩ (fun e=>⟨(z8.2.2.2.2 e).1,(z8.2.2.2.2 e).2.1,(z8.2.2.2.2 e).2.2,by show(p.m.tl.length:Int)≤400 - p.s.ba;omega⟩)) rfl rfl rfl rfl,b1,n1,n2,t3⟩)|exact⟨tY hs (zt ⟨ro0,ro1⟩ rb1),by rw[LY (hi)];exact gv (Aj hv) rfl rfl rfl rfl,b1,n1,n2,t3⟩)|(exact hq)|fail):g:=h
 have yp {g:Prop} (h:g:=by first|(first|exact⟨Cb (s:=p.s) (m:=p.m) ⟨by assumption,by first|exact .inl (by assumption)|exact .inr (by assumption)⟩,b1⟩|exact⟨iL (s:=p.s) (m:=p.m) (fun g=>by omega) hr1 (afM (s:=({p.s with ro:=max p.s.ro _}:Si)) (m:=p.m) (by assumption) (by assumption)),b1⟩|exact⟨iL (s:=p.s) (m:=p.m) (fun g=>by omega) hr1 (LF (s:=({p.s with ro:=max p.s.ro _}:Si)) (m:=p.m) (by first|exact .inl (by assumption)|exact .inr (by assumption)) (by assumption:_=dt _ _ _ _∧_).1),(by assumption:_=dt _ _ _ _∧_).2⟩|exact⟨iL (s:=p.s) (m:=p.m) (fun g=>by omega) hr1 (aj4 (s:=({p.s with ro:=max p.s.ro _}:Si)) (m:=p.m) (by assumption) (by assumption) (by assumption) (by assumption) (by first|exact Gv (by assumption)|exact Gw (by assumption))),b1⟩|exact⟨iL (s:=p.s) (m:=p.m) (fun g=>by omega) hr1 (aj2 (s:=({p.s with ro:=max p.s.ro _}:Si)) (m:=p.m) (by assumption) (by assumption) (by assumption) (by assumption) (by assumption)),b1⟩|exact⟨iL (s:=p.s) (m:=p.m) (fun g=>by omega) hr1 (aj3 (s:=({p.s with ro:=max p.s.ro _}:Si)) (m:=p.m) (by assumption) (by assumption) (by assumption) (by assumption) (Classical.not_not.1 (by assumption)) (by assumption) (by rw[←Js (s:=({p.s with ro:=max p.s.ro _}:Si)) (v:=p.v) (by assumption)];exact(by assumption:_=dK _ _ _∧_).1)),(by assumption:_=dK _ _ _∧_).2⟩|exact⟨iL (s:=p.s) (m:=p.m) (fun g=>by omega) hr1 (aj5 (s:=({p.s with ro:=max p.s.ro _}:Si)) (m:=p.m) (by assumption) (by assumption) (by assumption) (by assumption) (Classical.not_not.1 (by assumption)) (by assumption) (by rw[←LY (s:=({p.s with ro:=max p.s.ro _}:Si)) (v:=p.v) (by assumption)];exact(by assumption:_=dK _ _ _∧_).1)),(by assumption:_=dK _ _ _∧_).2⟩)|fail):g:=h
 have yn {g:Prop} (h:g:=by first|(have hr1:=hi;have rb1:=SP mb0 hr1;exact wz)|fail):g:=h
 have ye {g:Prop} (h:g:=by first|(exact cQ hK0 (.mk (.mk ..) (.mk ..) [] ..))|fail):g:=h
 have yq {g:Prop} (h:g:=by first|(refine Ck (.mk ..) (h:= ?_);dsimp only[iz,ma,pX];exact wo)|fail):g:=h
 exact wz
end Go.Proofs.Tryz
