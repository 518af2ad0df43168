/- Definitions and lemmas of the proof, without a condition of their own. -/
import Derived.Test.YtjhpjjbnojbikaaGreatK4b
import Derived.KernelRfl
set_option linter.unusedSimpArgs false
set_option linter.unusedVariables false
open List renaming eq_nil_of_length_eq_zero→amo,length_append→al2,length_cons→al3,length_drop→amr,length_map→al4,length_nil→al5,length_take→ami,map_append→amg
open Nat renaming le_refl→amj
open Option.some renaming inj→amp
namespace Go.Proofs.Tryz
open Go Go.RowKit Go.Sy
open Go.Eng hiding aj
set_option maxRecDepth 1000000
set_option linter.unusedVariables false
set_option maxHeartbeats 4000000
attribute [local irreducible] aq
noncomputable def wF:NN:=bY tB ae9 [(0,4),(1,20)]
def mK (now:Int) (s:St):St:={s with sa:=if s.sh=true then s.sa else now,sh:=true}
def fi (s:St):Int×(List Int×List Ke)×Bool:=if s.aa=0 then (0,([],[]),false) else (s.aa,s.av,true)
def kr (s:St) (v:Pq) (x:Int) (l:List Ke) (acc:Int) (u:List Int×List Ke) (has:Bool):Pq:=
 let r:=ks s.m v.ph v.gt v.best v.held v.qt x l acc u has
 {v with gt:=r.1,best:=r.2.1,held:=r.2.2.1,qt:=r.2.2.2}
def gO (now:Int) (s:St) (v:Pq):St×Pq:=if ¬v.b=0∧s.prm≤v.b then
  (mK now {s with prm:=v.b},kr s v s.me (s.log.drop s.ba.toNat) (fi s).1 (fi s).2.1 (fi s).2.2)
 else (s,v)
def ei (now:Int) (s:St):St×List (Int×Mx):=
 if s.ro=4294967295 then (s,[]) else
 let w:=gO now {s with ro:=s.ro+1,tr:=now+10} ⟨(s.ro+1)*256+s.me,0,[],0,none,[],([],[])⟩
 let r:=dw now w.1 w.2
 (r.1,eu w.1.N w.1.me w.1.m w.2++r.2)
def rb (s:St):Prop:=¬s.aa=0→(s.av.2.length:Int)≤400 - s.ba
theorem JN {s:Si} (hs:bz (s.er none)) {x t:Int} (h:0≤x∧x<4294967296∧0≤t∧t≤1000000100):bz (({s with ro:=x,tr:=t}:Si).er none):=
 ⟨hs.r,hs.n0,hs.n1,hs.se,hs.su,hs.jo,hs.go,hs.met,hs.log,hs.was,hs.wasl,hs.sa0,hs.sa1,h.2.2.1,h.2.2.2,h.1,h.2.1,hs.prm0,hs.prm1,hs.aa0,hs.aa1,hs.av,hs.avk⟩
theorem tb {s:St} (hs:ROk s.m s.me s.log s.ba s.com s.hs) (ha:rb s) {b:Int} (h:0<b∧b<18446744073709551616):PQOk s ⟨b,0,[],0,none,[],([],[])⟩:=by
 have h1:=hs.ba1
 have h2:=hs.len
 exact⟨h.1,h.2,show(0:Int)≤0 by decide,show(0:Int)≤2 by decide,.nil,fun x hx=>(by cases hx),show(0:Int)≤0 by decide,show(0:Int)<18446744073709551616 by decide,by show((0:Nat):Int)≤_;omega,fun x hx=>(by cases hx),fun u hu=>(by cases hu),.inl ⟨rfl,rfl⟩,ha⟩
theorem AB {s:St} {v:Pq} {x acc:Int} {l:List Ke} {u:List Int×List Ke} {has:Bool} (hv:PQOk s v) (hl:bV l∧(l.length:Int)≤400 - s.ba) (ha:0≤acc∧acc<18446744073709551616)
  (hu:has=true→NL u.1∧¬u.1=[]∧bV u.2∧(u.2.length:Int)≤400 - s.ba):PQOk s (kr s v x l acc u has):=by
 unfold kr ks
 dsimp only
 split
 ·rename_i hc
  have hn:=Cz (m:=s.m) (ph:=v.ph) (x:=x) (z:=0) hv.nd hv.sub
  unfold eO at hn
  rw[if_pos hc]at hn
  refine⟨hv.b0,hv.b1,hv.ph0,hv.ph1,hn.1,hn.2,?_,?_,?_,?_,fun w hw=> ?_,hv.ch,hv.avl⟩
  ·show 0≤(if has=true∧(v.held=none∨v.best<acc) then acc else v.best);split;exact ha.1;exact hv.best0
  ·show(if has=true∧(v.held=none∨v.best<acc) then acc else v.best)<_;split;exact ha.2;exact hv.best1
  ·show((if v.qt.length<l.length then l else v.qt).length:Int)≤_;split;exact hl.2;exact hv.qt
  ·show bV (if v.qt.length<l.length then l else v.qt);split;exact hl.1;exact hv.qtk
  ·have hw:(if has=true∧(v.held=none∨v.best<acc) then some u else v.held)=some w:=hw
   split at hw
   ·rename_i q
    cases hw
    exact hu q.1
   ·exact hv.held w hw
 ·exact hv
theorem sQ {now:Int} {s:St} {b:Int} (hs:bz s) (hn:0≤now∧now≤1000000000) (hb:0≤b∧b<18446744073709551616):bz (mK now {s with prm:=b}):=by
 have h1:=hs.sa0
 have h2:=hs.sa1
 exact⟨hs.r,hs.n0,hs.n1,hs.se,hs.su,hs.jo,hs.go,hs.met,hs.log,hs.was,hs.wasl,by show 0≤(if s.sh=true then s.sa else now);split<;>omega,by show(if s.sh=true then s.sa else now)≤(1000000000:Int);split<;>omega,hs.tr0,hs.tr1,hs.ro0,hs.ro1,hb.1,hb.2,hs.aa0,hs.aa1,hs.av,hs.avk⟩
theorem gK {s s1:St} {v:Pq} (h:PQOk s v) (h1:s1.m=s.m) (h2:s1.ba=s.ba) (h3:s1.aa=s.aa) (h4:s1.av=s.av):PQOk s1 v:=
 ⟨h.b0,h.b1,h.ph0,h.ph1,h.nd,fun x hx=>by rw[h1];exact h.sub x hx,h.best0,h.best1,by rw[h2];exact h.qt,h.qtk,fun u hu=>by rw[h2];exact h.held u hu,by rw[h2];exact h.ch,by rw[h2,h3,h4];exact h.avl⟩
theorem YS {s:St} (hs:bz s) (ha:rb s):0≤(fi s).1∧(fi s).1<18446744073709551616∧((fi s).2.2=true→NL (fi s).2.1.1∧¬(fi s).2.1.1=[]∧bV (fi s).2.1.2∧((fi s).2.1.2.length:Int)≤400 - s.ba):=by
 unfold fi
 split
 ·exact⟨by decide,by decide,fun h=>(by cases h)⟩
 ·rename_i h
  exact⟨hs.aa0,hs.aa1,fun _=>⟨(hs.avk h).1,(hs.avk h).2.1,(hs.avk h).2.2,ha h⟩⟩
theorem EL {s:St} (hs:bz s):bV (s.log.drop s.ba.toNat)∧((s.log.drop s.ba.toNat).length:Int)≤400 - s.ba:=by
 have h1:=hs.r.ba0
 have h2:=hs.r.ba1
 have h3:=hs.r.len
 exact⟨fun x hx=>hs.log x (List.mem_of_mem_drop hx),by rw[amr];omega⟩
theorem Jj {now:Int} {s:St} {v:Pq} (hs:bz s) (hv:PQOk s v) (hn:0≤now∧now≤1000000000):bz (gO now s v).1∧PQOk (gO now s v).1 (gO now s v).2:=by
 unfold gO
 split
 ·have hh:=YS hs hv.avl
  exact⟨sQ hs hn ⟨Int.le_of_lt hv.b0,hv.b1⟩,gK (AB hv (EL hs) ⟨hh.1,hh.2.1⟩ hh.2.2) rfl rfl rfl rfl⟩
 ·exact⟨hs,hv⟩
theorem Gw (now:Int) (s:St) (v:Pq):(gO now s v).1.N=s.N∧(gO now s v).1.se=s.se:=by
 unfold gO
 split<;>exact⟨rfl,rfl⟩
theorem MP {now:Int} {s r:Si} {v w:Qi} (hs:bz (s.er none)) (hv:PQOk (s.er none) v.er) (n1:0≤now) (n2:now≤1000000000) (e:(r.er none,w.er)=gO now (s.er none) v.er) (hb:r.be=s.be):
  (r.er none,w.er)=gO now (s.er none) v.er∧r.be=s.be∧bz (r.er none)∧PQOk (r.er none) w.er∧r.N=s.N∧r.se=s.se:=by
 have h:=Jj hs hv ⟨n1,n2⟩
 have h2:=Gw now (s.er none) v.er
 rw[←e]at h h2
 exact⟨e,hb,h.1,h.2,h2.1,h2.2⟩
theorem ake {now:Int} {s:Si} {v:Qi} (h:v.b=0∨v.b<s.prm):(s.er none,v.er)=gO now (s.er none) v.er:=by
 unfold gO
 rw[if_neg fun q=>by
  have q1:¬v.b=0:=q.1
  have q2:s.prm≤v.b:=q.2
  omega]
theorem YT {s:Si} (h:s.aa=0):((0:Int),(([]:List Int),([]:List Ke)),false)=fi (s.er none):=by unfold fi;rw[if_pos (show(s.er none).aa=0 from h)]
theorem PX {s:Si} {um:List Int} {ut:List Ke} (h:¬s.aa=0∧um=s.av∧ut=s.atl):(s.aa,(um,ut),true)=fi (s.er none):=by unfold fi;rw[if_neg (show¬(s.er none).aa=0 from h.1),h.2.1,h.2.2];rfl
theorem ahg {now:Int} {s:Si} {v:Qi} {sa acc:Int} {um:List Int} {ut tl q2:List Ke} {has:Bool} {g2:List Int} {b2:Int} {h2:Option Vl} {qh qth cmh cth hh:Value} {R:Prop} (hb:¬v.b=0∧s.prm≤v.b) (hsa:sa=if s.sh=true then s.sa else now) (hd:(acc,(um,ut),has)=fi (s.er none))
  (ht:tl=(s.log.drop s.ba.toNat).take (s.log.length - s.ba.toNat)∧R) (hp:(g2,b2,h2.map Vl.er,q2)=ks s.m v.ph v.gt v.best (v.held.map Vl.er) v.qt s.me tl acc (um,ut) has):
  (({s with sh:=true,prm:=v.b,sa:=sa}:Si).er none,(⟨v.b,v.ph,g2,b2,hh,h2,qh,qth,q2,cmh,v.cm,cth,v.ct⟩:Qi).er)=gO now (s.er none) v.er:=by
 unfold gO
 rw[if_pos (show¬v.er.b=0∧(s.er none).prm≤v.er.b from hb),←hd]
 have e1:tl=s.log.drop s.ba.toNat:=by rw[ht.1,List.take_of_length_le (by rw[amr];exact amj _)]
 rw[e1]at hp
 unfold kr
 rw[show ks (s.er none).m v.er.ph v.er.gt v.er.best v.er.held v.er.qt (s.er none).me ((s.er none).log.drop (s.er none).ba.toNat) acc (um,ut) has=(g2,b2,h2.map Vl.er,q2) from hp.symm,hsa]
 rfl
theorem Gq {now:Int} {s:Si} (h:s.ro=4294967295):(s.er none,([]:List Ou).map Ou.er)=ei now (s.er none):=by unfold ei;rw[if_pos (show(s.er none).ro=4294967295 from h)];rfl
theorem Gr {now z:Int} {s r:Si} {v w:Qi} {x:St} {o1 o2 o:List Ou} (hro:¬s.ro=4294967295) (hz:v.b=z∧z=(s.ro+1)*256+s.me) (hv:v.ph=0∧v.best=0∧v.held=none∧v.gt=[]∧v.qt=[]∧v.cm=[]∧v.ct=[]) (h1:(r.er none,w.er)=gO now (({s with ro:=s.ro+1,tr:=now+10}:Si).er none) v.er)
  (h2:o1.map Ou.er=eu r.N r.me r.m w.er) (h3:(x,o2.map Ou.er)=dw now (r.er none) w.er) (ho:o=o1++o2):(x,o.map Ou.er)=ei now (s.er none):=by
 have e:v.er=⟨(s.ro+1)*256+s.me,0,[],0,none,[],([],[])⟩:=by
  obtain⟨a1,a2,a3,a4,a5,a6,a7⟩:=hv
  unfold Qi.er
  rw[hz.1,hz.2,a1,a2,a3,a4,a5,a6,a7];rfl
 rw[e]at h1
 unfold ei
 rw[if_neg (show¬(s.er none).ro=4294967295 from hro)]
 dsimp only
 rw[show gO now {s.er none with ro:=(s.er none).ro+1,tr:=now+10} ⟨((s.er none).ro+1)*256+(s.er none).me,0,[],0,none,[],([],[])⟩=(r.er none,w.er) from h1.symm]
 dsimp only
 rw[←h3,ho,amg,h2]
 rfl
theorem kY {me:Int} {x:Mx} {l:List Int}:(cB me x l).length≤l.length:=by unfold cB;rw[al4];exact List.length_filter_le _ _
theorem Ph {ph:Int} {m gt:List Int}:(gZ ph m gt).length≤m.length:=by
 unfold gZ
 split
 ·exact Nat.zero_le _
 ·exact List.length_filter_le _ _
theorem mE {N me:Int} {m:List Int} {v:Pq}:(eu N me m v).length≤m.length:=Nat.le_trans kY Ph
theorem rI {now:Int} {s:St} {v:Pq}:(gR now s v).2.length≤s.m.length+v.ch.1.length:=by
 unfold gR
 rw[al2]
 exact Nat.add_le_add kY (Nat.le_trans kY (List.length_filter_le _ _))
theorem uA {now:Int} {s:St} {v:Pq} (hs:bz s) (hv:PQOk s v):(dw now s v).2.length≤16:=by
 have h1:=ah hs.r.nl
 unfold dw
 split
 ·have hp:=ah (Ax hs hv).1
  dsimp only
  split
  ·split
   ·exact Nat.le_trans mE (by dsimp only;omega)
   ·split
    ·exact Nat.le_trans rI (by dsimp only;omega)
    ·exact Nat.zero_le _
  ·split
   ·exact Nat.le_trans mE (by dsimp only;omega)
   ·split
    ·exact Nat.le_trans rI (by dsimp only;omega)
    ·exact Nat.zero_le _
 ·split
  ·have:=(hv.chl hs.r.ba0).1
   exact Nat.le_trans rI (by omega)
  ·exact Nat.zero_le _
theorem lB {N me:Int} {m:List Int} {v:Pq} {o:List Ou} (h:o.map Ou.er=eu N me m v):o.length≤m.length:=by
 have:=congrArg List.length h
 rw[al4]at this
 rw[this];exact mE
theorem Fc {now:Int} {s x:St} {v:Pq} {o:List Ou} (hs:bz s) (hv:PQOk s v) (h:(x,o.map Ou.er)=dw now s v):o.length≤16:=by
 have e:=congrArg (fun z=>z.2.length) h
 have e2:=uA (now:=now) hs hv
 dsimp only at e
 rw[al4]at e
 omega
theorem Rl {x y:Int} (h1:0≤x) (h2:x<4294967295) (h3:0≤y∧y<8) {z:Int} (e:z=(x+1)*256+y):0<z∧z<18446744073709551616:=by omega
noncomputable def bd_b1G':NV (fun e0 e1=>df [e0,e1] [] [] 0x331e97fd667fe34c021dda82e0c1bf1bdb32d432aaac409510562cc9708167433972fbc207276b1bbc7267d622ecd30b8c5ca0c7c9741ef4e785fdbe799927dcd2897747987100e3ddf2b8e6b63f1218e11b020b8098e3fdef51500a0a5d387c6db86ed7c04d1a974dabfd4707f6180029673):=⟨_,by conv=>rhs;reduce⟩
noncomputable abbrev MO:XC:=bd_b1G'.1 (eC 52 2 am) (eC 68 18 aD)
noncomputable def ft_begG':NV (fun e0 b0=>aB [e0] [] [b0] 0xf9ac07a98c85a93dbdc58dc64769d48c929364399056201b2d2bb6dfc2ab4ac8abed5be8ef662266a5d1930a6ace8756cf4cb8c4a6a703923d2bf2e1868e734aa9c747965890bc6c7ea5eafe45ce1219df0b68969b8add120f01e91d573b31b682d75a6de59ee9ae2fa1443e09e2):=⟨_,by conv=>rhs;reduce⟩
noncomputable abbrev Zv:XF:=ft_begG'.1 (eB 118 33 cE) MO
theorem IM:aK Tryz.prog 73 Zv=true:=by kernel_rfl
structure ak3 where
 s:Si
 v:Qi
 now:Int
structure akD where
 s:Si
 v:Qi
noncomputable def Ym:bN:=cq bT 1 (fun p:ak3=>((.cons 1 (.sy (.int 0 p.now)) (.cons 0 (.ptr 0 0) .nil)),(du p.s p.s p.s p.s p.v),11)) (fun p=>bz (p.s.er none)∧PQOk (p.s.er none) p.v.er∧0≤p.now∧p.now≤1000000000) (fun p K=>aj fun r:akD=>iP ((r.s.er none,r.v.er)=gO p.now (p.s.er none) p.v.er∧r.s.be=p.s.be∧bz (r.s.er none)∧PQOk (r.s.er none) r.v.er∧r.s.N=p.s.N∧r.s.se=p.s.se) (K 0 (.cons 1 (.sy (.int 0 p.now)) (.cons 0 (.ptr 0 0) .nil)) (du r.s r.s r.s r.s r.v) 11) true)
theorem afT:bj Tryz.prog 104 1 Ym false 1 MO:=lP (nat:=wF) cy (fun _ _ _ _=>rfl) fun p K hpre hK=>by
 dsimp only at hpre hK ⊢
 obtain⟨hs,hv,n1,n2⟩:=hpre
 have hq:=PQOk.qok hs hv
 have av1:=hs.av.1
 have av2:=hs.av.2
 have hl_:=hs.r.len
 have ba0:=hs.r.ba0
 have ba1:=hs.r.ba1
 have mb:=hs.r.nl.2 _ hs.r.me
 dsimp only[Si.er]at av1 av2 hl_ ba0 ba1 mb
 have g3:=hs.sa0
 have g4:=hs.sa1
 have hm:=ah hs.r.nl
 have g5:=hs.r.nl
 have g6:=List.ne_nil_of_mem hs.r.me
 have g7:=hs.n0
 have g8:=hs.n1
 have g9:=ah hs.su
 have g10:=ah hs.go
 have g11:=ah hs.jo
 have g12:=hs.jo.2
 have g13:=hs.tr0
 have g14:=hs.tr1
 dsimp only[Si.er]at g3 g4 hm g5 g6 g7 g8 g9 g10 g11 g12 g13 g14
 have nnr:=trivial
 have ys {g:Prop} (h:g:=by first|(first|omega|(simp;done)|(simp;omega)|(simp only[ami];omega);done)|fail):g:=h
 have yg {g:Prop} (h:g:=by first|(first|assumption|exact⟨by omega,by omega⟩)|(first|omega|(simp only[ami,amr];omega))|(refine⟨?_,?_,?_,?_⟩<;>first|assumption|omega|exact Nat.zero_le _|(have e:=(by assumption:¬p.s.aa=0∧_∧_);rw[e.2.1];omega)|(have e:=(by assumption:¬p.s.aa=0∧_∧_);rw[e.2.2];omega))|fail):g:=h
 have yp {g:Prop} (h:g:=by first|(first|exact MP (s:=p.s) (v:=p.v) hs hv n1 n2 (ake (s:=p.s) (v:=p.v) (by assumption)) rfl|exact MP (s:=p.s) (v:=p.v) hs hv n1 n2 (ahg (s:=p.s) (v:=p.v) (by assumption:¬p.v.b=0∧_) (by first|exact(if_neg (by assumption)).symm|exact(if_pos (Classical.not_not.1 (by assumption))).symm) (by first|exact YT (by assumption)|exact PX (by assumption:¬p.s.aa=0∧_∧_)) (by assumption:_=List.take _ (List.drop _ _)∧_) hi) rfl)|fail):g:=h
 have yz {g:Prop} (h:g:=by first|(first|omega|(simp;done)|(simp;omega)|(simp only[ami];omega);done)|fail):g:=h
 have yq {g:Prop} (h:g:=by first|(refine cb (.mk _ _ _ _ _ _ _ _ _ _ _ _ _ _ _ _ _ _ _ _ [] _ [] ..) (h:= ?_);exact wo)|fail):g:=h
 exact wz
structure ajd where
 s:Si
 now:Int
structure ain where
 s:Si
 v:Qi
 o:List Ou
structure abh where
 s:Si
 o:List Ou
structure abg where
 s:So
 o:List Ou
theorem XU:aA Tryz.prog 73 1 (aO (fun p:ajd=>([.ptr 0 0,.sy (.int 0 p.now)],(dv p.s p.s p.s),9)) (fun p=>bz (p.s.er none)∧rb (p.s.er none)∧((p.s.be.length:Int)≤p.s.se∧0<p.s.N)∧0≤p.now∧p.now≤1000000000∧p.s.N+1<4294967295) (fun p K=>ae (aj fun r:ain=>iP (((r.s.er (some r.v.er)),r.o.map Ou.er)=ei p.now (p.s.er none)∧(r.s.be.length:Int)≤r.s.se∧0<r.s.N) (K (.sy (.prow 1 r.o.length)) (gU r.s r.s r.s r.s r.v r.o) 12) true) (ae (aj fun r:abh=>iP (((r.s.er none),r.o.map Ou.er)=ei p.now (p.s.er none)∧(r.s.be.length:Int)≤r.s.se∧0<r.s.N) (K (.sy (.prow 1 r.o.length)) (fQ r.s r.s r.s r.o) 10) true) (aj fun r:abg=>iP ((r.s.er,r.o.map Ou.er)=ei p.now (p.s.er none)∧(r.s.be.length:Int)≤r.s.se) (K (.sy (.prow 1 r.o.length)) (jv r.s r.o) 6) true)))):=nF (nat:=wF) IM (dB afT) fun p K hpre hK=>by
 dsimp only at hpre hK ⊢
 obtain⟨hK0,hKr0⟩:=ac hK
 obtain⟨hK1,hKr1⟩:=ac hKr0
 have hK2:=hKr1
 obtain⟨hs,ha,b1,n1,n2,t3⟩:=hpre
 have mb:=hs.r.nl.2 _ hs.r.me
 have ro0:=hs.ro0
 have ro1:=hs.ro1
 dsimp only[Si.er]at mb ro0 ro1
 have g3:=hs.sa0
 have g4:=hs.sa1
 have hm:=ah hs.r.nl
 have g5:=hs.r.nl
 have g6:=List.ne_nil_of_mem hs.r.me
 have g7:=hs.n0
 have g8:=hs.n1
 have g9:=ah hs.su
 have g10:=ah hs.go
 have g11:=ah hs.jo
 have g12:=hs.jo.2
 have g13:=hs.tr0
 have g14:=hs.tr1
 dsimp only[Si.er]at g3 g4 hm g5 g6 g7 g8 g9 g10 g11 g12 g13 g14
 have nnr:=trivial
 have nnh:=trivial
 have nnl:=trivial
 have ys {g:Prop} (h:g:=by first|(have l1:=lB (by assumption:_=eu _ _ _ _);have l2:=Fc hs3 hv3 (by assumption:_=dw _ _ _∧_).1;simp[bR];omega;done)|fail):g:=h
 have yg {g:Prop} (h:g:=by first|(refine⟨?_,?_,?_,?_⟩<;>omega)|(refine⟨?_,?_,?_,?_⟩<;>first|assumption|omega)|(have e:=(by assumption:r2.gt=[]∧_);have hb:=Rl hs.ro0 (by dsimp only[Si.er];omega) mb hi1;(try dsimp only[Si.er]at hb);refine⟨JN hs ⟨by omega,by omega,by omega,by omega⟩,?_,n1,n2⟩;have q:=tb (s:=({p.s with ro:=p.s.ro+(1:Int),tr:=p.now+(10:Int)}:Si).er none) hs.r ha hb;unfold Qi.er;dsimp only;rw[e.1,e.2.1,e.2.2.1,e.2.2.2];exact q)|(refine⟨?_,?_,?_⟩<;>omega)|(exact⟨hs3,hv3,⟨by rw[hb2];omega,by omega⟩,n1,n2,by omega⟩)|fail):g:=h
 have yp {g:Prop} (h:g:=by first|(first|(exfalso;omega)|exact⟨Gq (by assumption),b1⟩|exact⟨Gr (by assumption) ⟨rfl,hi1⟩ (by have e:=(by assumption:r2.gt=[]∧_);exact⟨rfl,rfl,rfl,e.1,e.2.1,e.2.2.1,e.2.2.2⟩) hb1 (by assumption:_=eu _ _ _ _) (by assumption:_=dw _ _ _∧_).1 (by first|rfl|exact ju (by assumption)),(by assumption:_=dw _ _ _∧_).2⟩)|(first|(exfalso;omega)|exact⟨Gq (by assumption),b1⟩|exact⟨Gr (by assumption) ⟨rfl,hi3⟩ (by have e:=(by assumption:r2.gt=[]∧_);exact⟨rfl,rfl,rfl,e.1,e.2.1,e.2.2.1,e.2.2.2⟩) hb1 (by assumption:_=eu _ _ _ _) (by assumption:_=dw _ _ _∧_).1 (by first|rfl|exact ju (by assumption)),(by assumption:_=dw _ _ _∧_).2⟩)|fail):g:=h
 have yz {g:Prop} (h:g:=by first|(have l1:=lB (by assumption:_=eu _ _ _ _);have l2:=Fc hs3 hv3 (by assumption:_=dw _ _ _∧_).1;simp[bR];omega;done)|fail):g:=h
 have yn {g:Prop} (h:g:=by first|(obtain⟨hb1,hb2,hs3,hv3,hb4,hb5⟩:=hi;have hq3:=PQOk.qok hs3 hv3;have qc3:=hq3.cm;have qt3:=hq3.ct;have hm3:=ah hq3.nl;exact wz)|fail):g:=h
 have yq {g:Prop} (h:g:=by first|(refine MC (.mk ..) (h:= ?_);dsimp only[jH,oJ,vd];exact wo)|(refine cb (.mk _ _ _ _ (.mk _ _ _ r3.v.best r3.v.hh r3.v.held ..) ..) (h:= ?_);exact wo)|(refine wX _ (by first|exact sd|exact ys) ?_;exact wz)|fail):g:=h
 exact wz
noncomputable def Bc:NN:=bY wF XU [(0,4),(1,20)]
def cH (aa:Int) (u:List Int×List Ke):Int×(List Int×List Ke)×Bool:=if aa=0 then (0,([],[]),false) else (aa,u,true)
def rq (N b:Int) (l:List Ke) (h:Int×(List Int×List Ke)×Bool):Mx:={aF 8 with N:=N,b:=b,acc:=h.1,has:=h.2.2,ml:=h.2.1.1,l:=l,tl:=h.2.1.2}
theorem PY {aa:Int} {u:List Int×List Ke} (h:aa=0):((0:Int),(([]:List Int),([]:List Ke)),false)=cH aa u:=by unfold cH;rw[if_pos h]
theorem LG {aa:Int} {um av:List Int} {ut atl:List Ke} (h:¬aa=0∧um=av∧ut=atl):(aa,(um,ut),true)=cH aa (av,atl):=by unfold cH;rw[if_neg h.1,h.2.1,h.2.2]
theorem prw {N b acc:Int} {l t:List Ke} {ml:List Int} {tl:List Ke} {has:Bool} {h1 h2 h3 h4:Value} {x:Int×(List Int×List Ke)×Bool} {n:Nat} {R:Prop} (ht:l=t.take n∧R) (hn:t.length≤n) (hx:(acc,(ml,tl),has)=x):Mg.er ⟨8,N,0,0,b,acc,0,h1,[],0,0,has,h2,ml,h3,l,h4,tl⟩=rq N b t x:=by
 rw[ht.1,List.take_of_length_le hn,←hx];rfl
def fj (now:Int) (q:Option Pq) (tr b:Int):Option Pq×Int:=match q with
 |some v=>if v.b<b then (none,now+10) else (some v,tr)
 |none=>(none,tr)
def iJ (now:Int) (s:St) (b:Int):St:={s with q:=(fj now s.q s.tr b).1,tr:=(fj now s.q s.tr b).2}
theorem Ha {now tr b:Int} {v:Pq} (h:v.b<b):(none,now+10)=fj now (some v) tr b:=by unfold fj;dsimp only;rw[if_pos h]
theorem Hc {now tr b:Int} {v:Pq} (h:¬v.b<b):(some v,tr)=fj now (some v) tr b:=by unfold fj;dsimp only;rw[if_neg h]
def cQ (now:Int) (s:St) (fr:Int) (m:Mx):St×List (Int×Mx):=
 if ¬fr∈s.m then (s,[]) else
 if m.b=0∨m.b<s.prm then (s,[(fr,{aF 7 with N:=s.N,b:=s.prm})]) else
 (iJ now (mK now (if m.k=5 then {s with prm:=m.b} else {s with prm:=m.b,aa:=m.b,av:=(m.ml,m.tl)})) m.b,
  [(fr,if m.k=5 then rq s.N m.b (s.log.drop s.ba.toNat) (cH s.aa s.av) else {aF 6 with N:=s.N,b:=m.b})])
theorem Gx {now fr:Int} {s:Si} {q:Option Pq} {m:Mg} (h:¬fr∈s.m):(s.er q,([]:List Ou).map Ou.er)=cQ now (s.er q) fr m.er:=by
 unfold cQ
 rw[if_pos (show¬fr∈(s.er q).m from h)];rfl
theorem Dd {now fr:Int} {s:Si} {q:Option Pq} {m z:Mg} (h:fr∈s.m) (hb:m.b=0∨m.b<s.prm) (hz:z.er={aF 7 with N:=s.N,b:=s.prm}):(s.er q,[(⟨fr,z⟩:Ou)].map Ou.er)=cQ now (s.er q) fr m.er:=by
 unfold cQ
 rw[if_neg (show¬¬fr∈(s.er q).m from fun g=>g h),if_pos (show m.er.b=0∨m.er.b<(s.er q).prm from hb)]
 show(_,[(fr,z.er)])=_
 rw[hz];rfl
theorem UL {now fr sa tr:Int} {s:Si} {q q2:Option Pq} {m z:Mg} (h:fr∈s.m) (hb:¬m.b=0∧s.prm≤m.b) (hk:m.k=5) (hs:sa=if s.sh=true then s.sa else now) (hy:(q2,tr)=fj now q s.tr m.b) (hz:z.er=rq s.N m.b (s.log.drop s.ba.toNat) (cH s.aa (s.av,s.atl))):
  (({s with prm:=m.b,sh:=true,sa:=sa,tr:=tr}:Si).er q2,[(⟨fr,z⟩:Ou)].map Ou.er)=cQ now (s.er q) fr m.er:=by
 unfold cQ iJ
 rw[if_neg (show¬¬fr∈(s.er q).m from fun g=>g h),if_neg (show¬(m.er.b=0∨m.er.b<(s.er q).prm) from fun g=>g.elim hb.1 (fun g=>by
  have g:m.b<s.prm:=g
  omega)),if_pos (show m.er.k=5 from hk),if_pos (show m.er.k=5 from hk)]
 show(_,[(fr,z.er)])=_
 rw[hz,hs,show q2=(fj now q s.tr m.b).1 from congrArg Prod.fst hy,show tr=(fj now q s.tr m.b).2 from congrArg Prod.snd hy];rfl
theorem UK {now fr sa tr:Int} {s:Si} {q q2:Option Pq} {m z:Mg} {avh ath:Value} {av:List Int} {atl:List Ke} (h:fr∈s.m) (hb:(¬m.b=0∧s.prm≤m.b)∧av=m.ml∧atl=m.tl) (hk:¬m.k=5) (hs:sa=if s.sh=true then s.sa else now) (hy:(q2,tr)=fj now q s.tr m.b) (hz:z.er={aF 6 with N:=s.N,b:=m.b}):
  (({s with prm:=m.b,aa:=m.b,avh:=avh,av:=av,ath:=ath,atl:=atl,sh:=true,sa:=sa,tr:=tr}:Si).er q2,[(⟨fr,z⟩:Ou)].map Ou.er)=cQ now (s.er q) fr m.er:=by
 obtain⟨hb,e1,e2⟩:=hb
 subst e1;subst e2
 unfold cQ iJ
 rw[if_neg (show¬¬fr∈(s.er q).m from fun g=>g h),if_neg (show¬(m.er.b=0∨m.er.b<(s.er q).prm) from fun g=>g.elim hb.1 (fun g=>by
  have g:m.b<s.prm:=g
  omega)),if_neg (show¬m.er.k=5 from hk),if_neg (show¬m.er.k=5 from hk)]
 show(_,[(fr,z.er)])=_
 rw[hz,hs,show q2=(fj now q s.tr m.b).1 from congrArg Prod.fst hy,show tr=(fj now q s.tr m.b).2 from congrArg Prod.snd hy];rfl
noncomputable def ft_shutG':NV (aB [] [] [] 0xd206bb9a9a9bddb44daab48e061133777f3346239b1b905636b0641):=⟨_,by conv=>rhs;reduce⟩
noncomputable abbrev Qk:XF:=ft_shutG'.1
theorem DT:aK Tryz.prog 103 Qk=true:=by kernel_rfl
structure abw where
 q:Nat→Value
 N:Int
 m:List Int
 me:Int
 rh:Value
 log:List Ke
 ba:Int
 com:Int
 sh:Bool
 hs:List (Int×Int)
 sa:Int
 now:Int
structure aaJ where
 sa:Int
theorem OE:aA Tryz.prog 103 4 (aO (fun p:abw=>([.ptr 0 0,.sy (.int 0 p.now)],(.node (.node (.node .leaf (some (.kmap true true false (Int×Int) p.hs aX aW)) .leaf) (some (ce p.N p.rh p.m p.me 2 p.log.length p.ba p.com (p.sh=true) 3)) .leaf) (some (o_D p.q p.sa)) (.node .leaf (some (bu p.log)) .leaf)),4)) (fun _=>True) (fun p K=>aj fun r:aaJ=>iP (r.sa=if p.sh=true then p.sa else p.now) (K (.tup []) (.node (.node (.node .leaf (some (.kmap true true false (Int×Int) p.hs aX aW)) .leaf) (some (ce p.N p.rh p.m p.me 2 p.log.length p.ba p.com (true=true) 3)) .leaf) (some (o_D p.q r.sa)) (.node .leaf (some (bu p.log)) .leaf)) 4) true)):=nE (nat:=Bc) DT fun p K hpre hK=>by
 dsimp only at hpre hK ⊢
 have yp {g:Prop} (h:g:=by first|(first|exact(if_neg (by assumption)).symm|exact(if_pos (Classical.not_not.1 (by assumption))).symm)|fail):g:=h
 exact wz
noncomputable def xV:NN:=iV Bc OE [(0,4),(1,20)] [0,1,2,4,5,7,8,9,10,11,12,13,14,15,16,17,18,19,20]
noncomputable def ft_prmsG':NV (fun e0 e1=>aB [e0,e1] [] [] 0x44cc2575a90c8b1a42258619d76538f56a9a0f8a606d4ee061a833d45825c188bbf3f51845c61592614025e7d5c229823544e7655a40ab5a6345ff2e83656a6bad678fd2107506574e78aeb652e4d0237804781b4a047e18611dd849466baeab99586adda256b27bd49f99d95952b13f97595e39a51296b745b1119fd1501307ad38456f597aa32eb8d7b151b729243bc98b8a89d8cd4e418b35b9b5dbad944aa):=⟨_,by conv=>rhs;reduce⟩
noncomputable abbrev Qm:XF:=ft_prmsG'.1 (eC 52 2 am) (eC 68 18 aD)
theorem DV:aK Tryz.prog 140 Qm=true:=by kernel_rfl
structure aby where
 q:Nat→Value
 N:Int
 m:List Int
 me:Int
 rh:Value
 log:List Ke
 ba:Int
 com:Int
 sh:Bool
 hs:List (Int×Int)
 prm:Int
 aa:Int
 avh:Value
 av:List Int
 ath:Value
 atl:List Ke
 oN:Int
 ob:Int
structure aaM where
 z:Mg
theorem OG:aA Tryz.prog 140 5 (aO (fun p:aby=>([.ptr 0 0,.agg [.int 1 (.ofNat 6),.int 1 (.ofNat 0),.int 1 (.ofNat 0),.sy (.int 3 p.oN),.int 3 (.ofNat 0),.int 3 (.ofNat 0),.int 3 (.ofNat 0),.sy (.int 4 p.ob),.int 4 (.ofNat 0),.int 1 (.ofNat 0),.int 2 (.ofNat 0),.int 3 (.ofNat 0),.int 1 (.ofNat 0),.int 1 (.ofNat 0),.int 1 (.ofNat 0),.int 1 (.ofNat 0),.int 1 (.ofNat 0),.int 1 (.ofNat 0),.int 1 (.ofNat 0),.nilS,.int 1 (.ofNat 0),.str [],.int 1 (.ofNat 0),.int 3 (.ofNat 0),.nilS,.int 1 (.ofNat 0),.int 2 (.ofNat 0),.bool false,.nilS,.nilS,.nilS]],(.node (.node (.node .leaf (some (bu p.log)) .leaf) (some (ce p.N p.rh p.m p.me 3 p.log.length p.ba p.com (p.sh=true) 4)) .leaf) (some (o_E p.q)) (.node (.node .leaf (some (.kmap true true false (Int×Int) p.hs aX aW)) .leaf) (some (eX p.prm p.aa p.avh p.av p.ath p.atl)) .leaf)),5)) (fun p=>ROk p.m p.me p.log p.ba p.com p.hs∧p.av.length≤8∧p.atl.length≤400) (fun p K=>aj fun r:aaM=>iP (r.z.er=rq p.oN p.ob (p.log.drop p.ba.toNat) (cH p.aa (p.av,p.atl))) (K (kB r.z.k r.z.N r.z.fr r.z.c r.z.b r.z.acc [] r.z.vn r.z.vh r.z.vl r.z.pn r.z.pl (r.z.has=true) r.z.mh r.z.ml r.z.h r.z.l r.z.th r.z.tl) (.node (.node (.node .leaf (some (bu p.log)) .leaf) (some (ce p.N p.rh p.m p.me 3 p.log.length p.ba p.com (p.sh=true) 4)) .leaf) (some (o_E p.q)) (.node (.node .leaf (some (.kmap true true false (Int×Int) p.hs aX aW)) .leaf) (some (eX p.prm p.aa p.avh p.av p.ath p.atl)) .leaf)) 5) true)):=nE (nat:=xV) DV fun p K hpre hK=>by
 dsimp only at hpre hK ⊢
 obtain⟨hpre,av1,av2⟩:=hpre
 have hl_:=hpre.len
 have ba0:=hpre.ba0
 have ba1:=hpre.ba1
 have hm:=ah hpre.nl
 have hne:=List.length_pos_iff.2 (List.ne_nil_of_mem hpre.me)
 have nnx:=trivial
 have nnr:=trivial
 have ys {g:Prop} (h:g:=by first|(first|omega|(simp;done)|(simp;omega)|(simp only[ami];omega);done)|fail):g:=h
 have yg {g:Prop} (h:g:=by first|(first|assumption|exact⟨by omega,by omega⟩)|(first|omega|(simp only[ami,amr];omega))|fail):g:=h
 have yp {g:Prop} (h:g:=by first|(exact prw (by assumption:_=List.take _ (List.drop _ _)∧_) (by rw[amr];exact amj _) (by first|exact PY (by assumption)|exact LG (by assumption:¬p.aa=0∧_∧_)))|fail):g:=h
 have ye {g:Prop} (h:g:=by first|(exact cR hK (.mk (.mk _ _ _ _ _ _ _ _ [] _ _ _ _ [] _ _ _ [] ..) ..))|(exact cR hK (.mk (.mk _ _ _ _ _ _ _ _ [] ..) ..))|fail):g:=h
 exact wz
noncomputable def xX:NN:=iV xV OG [(0,4),(1,15)] [0,1,2,5,6,7,8,9,10,11,12,13,14,15,16,17,18,19,20]
noncomputable def Ht (M:T) (i r:Nat):Bool:=match M.get i with
 |some (.blk _ _ _ (el::_))=>match bS el r with
  |some (.ptr _ _)=>true
  |_=>false
 |_=>false
noncomputable def ft_askedn':NV (fun e0 e1 e2=>aB [e0,e1,e2] [] [] 0xef644458a553d09bd242818c0142324497d0223bb030dad3df7da0b0c9779d70ac711c3b8da8188d69eb9de42d1c72ed7a74f3c0773dfc61842eaf01474eb5c9836f24e1cb04432623f9700c4b2054c3547f5f5586616c43277ab89910eabe598ab61694e295fb0a29ece2322ba2893a9519ab6232f361e5bb3580dbfa92fb5c62bb722e626b9782c581424a39b6eaf6dd61f49a6756c4fa989e893bbb6c4192127d9bd82bd5b63f1315353f96427d3603040f0b1ead8d57d0d7d76932792d18a299edd962b01e6a913a51c8625ee51126cdfb6e80fc61240e6761f1a04af71b2646e853a878c539c83154097604518d47822b7fdf426d5142303f764e95cf64d02a684c5):=⟨_,by conv=>rhs;reduce⟩
noncomputable abbrev Me:XF:=ft_askedn'.1 (eC 52 2 am) (eC 68 18 aD) (eB 118 33 cE)
theorem qC:aK Tryz.prog 116 Me=true:=by kernel_rfl
structure SN where
 s:Si
 now:Int
 fr:Int
 m:Mg
structure Sc where
 s:Si
 o:List Ou
theorem KL:aA Tryz.prog 116 1 (aO (fun p:SN=>([.ptr 0 0,.sy (.int 0 p.now),eL p.fr,kB p.m.k p.m.N p.m.fr p.m.c p.m.b p.m.acc [] p.m.vn p.m.vh p.m.vl p.m.pn p.m.pl (p.m.has=true) p.m.mh p.m.ml p.m.h p.m.l p.m.th p.m.tl],(dv p.s p.s p.s),9)) (fun p=>bz (p.s.er none)∧((p.s.be.length:Int)≤p.s.se∧0<p.s.N)∧0≤p.now∧p.now≤1000000000∧p.m.ml.length≤1000∧p.m.tl.length≤1000) (fun p K=>aj fun r:Sc=>iP (((r.s.er none),r.o.map Ou.er)=cQ p.now (p.s.er none) p.fr p.m.er∧(r.s.be.length:Int)≤r.s.se∧0<r.s.N) (K (.sy (.prow 1 r.o.length)) (fQ r.s r.s r.s r.o) 10) true)):=nE (nat:=xX) qC fun p K hpre hK=>by
 dsimp only at hpre hK ⊢
 obtain⟨hs,b1,n1,n2,l1,l2⟩:=hpre
 have av1:=hs.av.1
 have av2:=hs.av.2
 dsimp only[Si.er]at av1 av2
 have g3:=hs.sa0
 have g4:=hs.sa1
 have hm:=ah hs.r.nl
 have g5:=hs.r.nl
 have g6:=List.ne_nil_of_mem hs.r.me
 have g7:=hs.n0
 have g8:=hs.n1
 have g9:=ah hs.su
 have g10:=ah hs.go
 have g11:=ah hs.jo
 have g12:=hs.jo.2
 have g13:=hs.tr0
 have g14:=hs.tr1
 dsimp only[Si.er]at g3 g4 hm g5 g6 g7 g8 g9 g10 g11 g12 g13 g14
 have nnr:=trivial
 have nnq:=trivial
 have yg {g:Prop} (h:g:=by first|(first|exact⟨hs.r,av1,av2⟩|exact absurd (by assumption:p.m.k=5) (by assumption))|(first|assumption|exact⟨by omega,by omega⟩)|fail):g:=h
 have yp {g:Prop} (h:g:=by first|(first|exact absurd (by assumption:p.m.k=5) (by assumption)|exact⟨Gx (by assumption),b1⟩|exact⟨Dd (Classical.not_not.1 (by assumption)) (by assumption) rfl,b1⟩|exact⟨UL (s:=p.s) (m:=p.m) (Classical.not_not.1 (by assumption)) (by assumption) (by assumption) (by assumption) rfl (by assumption),b1⟩|exact⟨UK (s:=p.s) (m:=p.m) (Classical.not_not.1 (by assumption)) (by assumption) (by assumption) (by assumption) rfl rfl,b1⟩)|fail):g:=h
 have yq {g:Prop} (h:g:=by first|(refine wX [(.mk _ (.mk ..) ..)] (by first|exact sd|exact ys) ?_;exact wz)|fail):g:=h
 exact wz
noncomputable def uO:NN:=gj xX KL [(0,4),(1,20),(2,15),(3,15)] (fun us M=>Om (Ht M 0 5))
structure SM where
 s:Si
 v:Qi
 now:Int
 fr:Int
 m:Mg
structure Sb where
 s:Si
 v:Qi
 o:List Ou
structure Ng where
 s:Si
 o:List Ou
theorem KK:aA Tryz.prog 116 1 (aO (fun p:SM=>([.ptr 0 0,.sy (.int 0 p.now),eL p.fr,kB p.m.k p.m.N p.m.fr p.m.c p.m.b p.m.acc [] p.m.vn p.m.vh p.m.vl p.m.pn p.m.pl (p.m.has=true) p.m.mh p.m.ml p.m.h p.m.l p.m.th p.m.tl],(du p.s p.s p.s p.s p.v),11)) (fun p=>bz (p.s.er none)∧((p.s.be.length:Int)≤p.s.se∧0<p.s.N)∧0≤p.now∧p.now≤1000000000∧p.m.ml.length≤1000∧p.m.tl.length≤1000) (fun p K=>ae (aj fun r:Sb=>iP (((r.s.er (some r.v.er)),r.o.map Ou.er)=cQ p.now (p.s.er (some p.v.er)) p.fr p.m.er∧(r.s.be.length:Int)≤r.s.se∧0<r.s.N) (K (.sy (.prow 1 r.o.length)) (gU r.s r.s r.s r.s r.v r.o) 12) true) (aj fun r:Ng=>iP (((r.s.er none),r.o.map Ou.er)=cQ p.now (p.s.er (some p.v.er)) p.fr p.m.er∧(r.s.be.length:Int)≤r.s.se∧0<r.s.N) (K (.sy (.prow 1 r.o.length)) (fQ r.s r.s r.s r.o) 10) true))):=nE (nat:=uO) qC fun p K hpre hK=>by
 dsimp only at hpre hK ⊢
 obtain⟨hK0,hKr0⟩:=ac hK
 have hK1:=hKr0
 obtain⟨hs,b1,n1,n2,l1,l2⟩:=hpre
 have av1:=hs.av.1
 have av2:=hs.av.2
 dsimp only[Si.er]at av1 av2
 have g3:=hs.sa0
 have g4:=hs.sa1
 have hm:=ah hs.r.nl
 have g5:=hs.r.nl
 have g6:=List.ne_nil_of_mem hs.r.me
 have g7:=hs.n0
 have g8:=hs.n1
 have g9:=ah hs.su
 have g10:=ah hs.go
 have g11:=ah hs.jo
 have g12:=hs.jo.2
 have g13:=hs.tr0
 have g14:=hs.tr1
 dsimp only[Si.er]at g3 g4 hm g5 g6 g7 g8 g9 g10 g11 g12 g13 g14
 have nnr:=trivial
 have nnq:=trivial
 have yg {g:Prop} (h:g:=by first|(first|exact⟨hs.r,av1,av2⟩|exact absurd (by assumption:p.m.k=5) (by assumption))|(first|assumption|exact⟨by omega,by omega⟩)|fail):g:=h
 have yp {g:Prop} (h:g:=by first|(first|exact absurd (by assumption:p.m.k=5) (by assumption)|exact⟨Gx (by assumption),b1⟩|exact⟨Dd (Classical.not_not.1 (by assumption)) (by assumption) rfl,b1⟩|exact⟨UL (s:=p.s) (m:=p.m) (Classical.not_not.1 (by assumption)) (by assumption) (by assumption) (by assumption) (by first|exact Ha (by assumption)|exact Hc (by assumption)) (by assumption),b1⟩|exact⟨UK (s:=p.s) (m:=p.m) (Classical.not_not.1 (by assumption)) (by assumption) (by assumption) (by assumption) (by first|exact Ha (by assumption)|exact Hc (by assumption)) rfl,b1⟩)|fail):g:=h
 have ye {g:Prop} (h:g:=by first|(exact cR hK0 (.mk (.mk ..) (.mk ..) [] ..))|fail):g:=h
 have yq {g:Prop} (h:g:=by first|(refine wX [(.mk _ (.mk ..) ..)] (by first|exact sd|exact ys) ?_;exact wz)|fail):g:=h
 exact wz
noncomputable def uN:NN:=gj uO KK [(0,4),(1,20),(2,15),(3,15)] (fun us M=>Ht M 0 5)
def dm (N me:Int) (m:List Int) (log:List Ke) (ba:Int) (jo:List Int) (p:Int):List Int×List (Int×Mx):=if p∈m then (jo,cB me {aF 10 with vn:=N,vl:=m,l:=log.take ba.toNat} [p]) else (eg jo p,[])
theorem EF {me p:Int} {x:Mx} (h:¬p=me):[(p,x)]=cB me x [p]:=by simp[cB,h]
theorem Al {me p:Int} {x:Mx} (h:p=me):([]:List (Int×Mx))=cB me x [p]:=by simp[cB,h]
theorem ajZ {N me ba p:Int} {m jo:List Int} {log:List Ke} {z:Mg} (h:p∈m) (hn:¬p=me) (hz:z.er={aF 10 with vn:=N,vl:=m,l:=log.take ba.toNat}):(jo,[(⟨p,z⟩:Ou)].map Ou.er)=dm N me m log ba jo p:=by
 unfold dm
 rw[if_pos h,←EF hn,←hz];rfl
theorem aj0 {N me ba p:Int} {m jo:List Int} {log:List Ke} (h:p∈m) (hn:p=me):(jo,([]:List Ou).map Ou.er)=dm N me m log ba jo p:=by
 unfold dm
 rw[if_pos h,←Al hn];rfl
theorem Lm {N me ba p:Int} {m jo l:List Int} {log:List Ke} (h:¬p∈m) (e:l=eg jo p):(l,([]:List Ou).map Ou.er)=dm N me m log ba jo p:=by
 unfold dm
 rw[if_neg h,e];rfl
theorem Hg {l:List Int} {x z:Int} (h: -1≤z∧(z= -1→∀y∈l,¬y=x)∧(¬z= -1→0≤z∧z<(l.length:Int)∧(∀y∈l.take z.toNat,¬y=x)∧∀y,l[z.toNat]?=some y→y=x)) (hz:0≤z):l.set z.toNat x=l∧l=eg l x:=by
 obtain⟨h1,h2,_,h4⟩:=h.2.2 (by omega)
 have hlt:z.toNat<l.length:=by omega
 have e:=h4 _ (List.getElem?_eq_getElem hlt)
 unfold eg
 rw[if_pos (by rw[←e];exact List.getElem_mem hlt)]
 exact⟨by rw[←e,List.set_getElem_self],rfl⟩
theorem YC {l:List Int} {x z:Int} (hl:NL l) (hx:0≤x∧x<8) (h: -1≤z∧(z= -1→∀y∈l,¬y=x)∧(¬z= -1→0≤z∧z<(l.length:Int)∧(∀y∈l.take z.toNat,¬y=x)∧∀y,l[z.toNat]?=some y→y=x)) (hz:¬0≤z):(l.length:Int)<8:=by
 have hn:NL (x::l):=⟨List.nodup_cons.2 ⟨fun q=>h.2.1 (by omega) x q rfl,hl.1⟩,fun y hy=>by
  rcases List.mem_cons.1 hy with rfl|hy
  ·exact hx
  ·exact hl.2 y hy⟩
 have:=ah hn
 rw[al3]at this
 omega
noncomputable def ft_joinG':NV (fun e0=>aB [e0] [] [] 0x3ad360b21c63fedfcd10074ea9eb8d138713cf7d4dd4e311bab1104503375c8265012ca9d15531ae5d10d50abe08a80619d4115e6a5fda54f1dfc9c46e329cd9376ea0f259f1368392890e66649a4bc008dd649fc4b608c196bc365b64238408e1a2648cc8109fba710407538fcf2e2d63b25eacc9260b3c713eba2a784ccc4af807a308a32cb5e8f8ea3ec9f79bee798):=⟨_,by conv=>rhs;reduce⟩
noncomputable abbrev Qv:XF:=ft_joinG'.1 (eB 118 33 cE)
theorem Ed:aK Tryz.prog 77 Qv=true:=by kernel_rfl
structure abG where
 q:Nat→Value
 N:Int
 mh:Value
 m:List Int
 me:Int
 rh:Value
 log:List Ke
 ba:Int
 com:Int
 sh:Bool
 hs:List (Int×Int)
 jo:List Int
 p:Int
structure aa2 where
 jo:List Int
 o:List Ou
theorem ON:aA Tryz.prog 77 1 (aO (fun p:abG=>([.ptr 0 0,eL p.p],(.node (.node (.node .leaf (some (bu p.log)) .leaf) (some (ce p.N p.rh p.m p.me 3 p.log.length p.ba p.com (p.sh=true) 4)) .leaf) (some (o_w p.N p.mh p.m 1 p.q p.me 2 p.jo.length)) (.node (.node .leaf (some (.kmap true true false (Int×Int) p.hs aX aW)) .leaf) (some (aE p.jo)) .leaf)),5)) (fun p=>ROk p.m p.me p.log p.ba p.com p.hs∧NL p.jo∧0≤p.p∧p.p<8) (fun p K=>aj fun r:aa2=>iP ((r.jo,r.o.map Ou.er)=dm p.N p.me p.m p.log p.ba p.jo p.p) (K (.sy (.prow 1 r.o.length)) (.node (.node (.node .leaf (some (aE r.jo)) .leaf) (some (lV r.o)) (.node .leaf (some (.kmap true true false (Int×Int) p.hs aX aW)) .leaf)) (some (o_w p.N p.mh p.m 2 p.q p.me 3 r.jo.length)) (.node (.node .leaf (some (bu p.log)) .leaf) (some (ce p.N p.rh p.m p.me 4 p.log.length p.ba p.com (p.sh=true) 5)) .leaf)) 6) true)):=nE (nat:=uN) Ed fun p K hpre hK=>by
 dsimp only at hpre hK ⊢
 obtain⟨hpre,hj,hp⟩:=hpre
 have g4:=hpre.len
 have g5:=hpre.ba0
 have g6:=hpre.ba1
 have g7:=ah hj
 have hm:=ah hpre.nl
 have hne:=List.length_pos_iff.2 (List.ne_nil_of_mem hpre.me)
 have nnq:=trivial
 have ys {g:Prop} (h:g:=by first|(exact(Hg (by assumption: -1≤_∧_) (by assumption)).1)|(simp[bR];omega;done)|fail):g:=h
 have yg {g:Prop} (h:g:=by first|(refine⟨?_,?_,?_,?_⟩<;>omega)|(first|omega|assumption|exact⟨by omega,by omega⟩)|fail):g:=h
 have yp {g:Prop} (h:g:=by first|(first|exact ajZ (by assumption) (by assumption) (by assumption:_={aF 10 with vn:=p.N,vl:=p.m,l:=p.log.take p.ba.toNat})|exact aj0 (by assumption) (by first|assumption|exact Classical.not_not.1 (by assumption))|exact Lm (by assumption) (Hg (by assumption: -1≤_∧_) (by assumption)).2|exact Lm (by assumption) (JG (by assumption: -1≤_∧_) (by omega))|exact absurd (YC hj hp (by assumption: -1≤_∧_) (by assumption)) (by assumption))|fail):g:=h
 have yz {g:Prop} (h:g:=by first|(exact(Hg (by assumption: -1≤_∧_) (by assumption)).1)|(simp[bR];omega;done)|fail):g:=h
 have ye {g:Prop} (h:g:=by first|(exact cR hK (.mk _ [] ..))|fail):g:=h
 have yq {g:Prop} (h:g:=by first|(refine wX [(.mk _ (.mk ..) ..)] (by first|exact sd|exact ys) ?_;exact wz)|(refine wX _ (by first|exact sd|exact ys) ?_;exact wz)|(refine wX p.jo (by first|exact sd|exact ys) ?_;exact wz)|(refine wX [_] (by first|exact sd|exact ys) ?_;exact wz)|fail):g:=h
 exact wz
noncomputable def yh:NN:=iV uN ON [(0,4),(1,15)] [4,5,6,7,10,11,13,14,15,16,17,18,19,20]
def eP (N me:Int) (m:List Int) (log:List Ke) (ba com:Int) (sh:Bool) (se fr:Int) (x:Mx):(List Ke×Int)×List (Int×Mx):=
 if x.N=N then (if m.head?=some me∨¬m.head?=some fr then ((log,com),[]) else (fV m me log ba com sh x.fr x.l x.c,[(fr,{aF 4 with N:=N,fr:=((fV m me log ba com sh x.fr x.l x.c).1.length:Int)})]))
 else if x.N≤se then ((log,com),[]) else ((log,com),[(fr,{aF 4 with N:=N})])
theorem akg {N me ba com se fr:Int} {m:List Int} {log:List Ke} {sh:Bool} {x:Mx} (h:x.N=N) (h2:m.head?=some me∨¬m.head?=some fr):((log,com),([]:List Ou).map Ou.er)=eP N me m log ba com sh se fr x:=by
 unfold eP
 rw[if_pos h,if_pos h2];rfl
theorem ahp {N me ba com se fr c2:Int} {m:List Int} {log l2:List Ke} {sh:Bool} {x:Mx} {z:Mg} (h:x.N=N) (h1:¬m.head?=some me) (h2:m.head?=some fr) (ht:(l2,c2)=fV m me log ba com sh x.fr x.l x.c) (hz:z.er={aF 4 with N:=N,fr:=(l2.length:Int)}):((l2,c2),[(⟨fr,z⟩:Ou)].map Ou.er)=eP N me m log ba com sh se fr x:=by
 unfold eP
 rw[if_pos h,if_neg (fun g=>g.elim h1 fun g=>g h2),←ht,←hz];rfl
theorem aan {N me ba com se fr:Int} {m:List Int} {log:List Ke} {sh:Bool} {x:Mx} (h:¬x.N=N) (h1:x.N≤se):((log,com),([]:List Ou).map Ou.er)=eP N me m log ba com sh se fr x:=by
 unfold eP
 rw[if_neg h,if_pos h1];rfl
theorem ahq {N me ba com se fr:Int} {m:List Int} {log:List Ke} {sh:Bool} {x:Mx} {z:Mg} (h:¬x.N=N) (h1:¬x.N≤se) (hz:z.er={aF 4 with N:=N}):((log,com),[(⟨fr,z⟩:Ou)].map Ou.er)=eP N me m log ba com sh se fr x:=by
 unfold eP
 rw[if_neg h,if_neg h1,←hz];rfl
theorem VU {m:List Int} {me ba com fr c c2:Int} {log l l2:List Ke} {sh:Bool} {hs:List (Int×Int)} (h:ROk m me log ba com hs) (e:(l2,c2)=fV m me log ba com sh fr l c):l2.length≤400:=by
 have h2:=(iL (sh:=sh) (fr:=fr) (l:=l) (c:=c) h).len
 rw[←e]at h2
 dsimp only at h2
 omega
noncomputable def ft_appdG':NV (fun e0 e1 e2=>aB [e0,e1,e2] [] [] 0x46fbf7e83b067e71fd9b6eccee5335c8248be8ff4c2407ad4d6618e2afe019b24df1380fb468f96c10fa11ea6aaa69442c6ccc44eacc28b6e882a2065cc91b3e954709ec2a710bfdab85087e828d09f1167956363aea13d3bd6beb6ff0d56ebcaed5ad5062faa00bd612724fc738f1c01830f74dcb423e95a3fb12c3faa28c94cae5ffe9f75843c84b50df73febf30101af9f038163f96d43db7965c78d7b3daa237aa26119e29c40ca2b8459de9091b2ac7da9aa39dc15030c6910ff9c17e410313660428a5544dd497807d):=⟨_,by conv=>rhs;reduce⟩
noncomputable abbrev QK:XF:=ft_appdG'.1 (eC 52 2 am) (eC 68 18 aD) (eB 118 33 cE)
theorem sG:aK Tryz.prog 75 QK=true:=by kernel_rfl
structure abW where
 q:Nat→Value
 N:Int
 mh:Value
 m:List Int
 me:Int
 rh:Value
 log:List Ke
 ba:Int
 com:Int
 sh:Bool
 hs:List (Int×Int)
 se:Int
 fr:Int
 x:Mg
structure abj where
 log:List Ke
 com:Int
 o:List Ou
theorem Pd:aA Tryz.prog 75 1 (aO (fun p:abW=>([.ptr 0 0,eL p.fr,kB p.x.k p.x.N p.x.fr p.x.c p.x.b p.x.acc [] p.x.vn p.x.vh p.x.vl p.x.pn p.x.pl (p.x.has=true) p.x.mh p.x.ml p.x.h p.x.l p.x.th p.x.tl],(.node (.node (.node .leaf (some (.kmap true true false (Int×Int) p.hs aX aW)) .leaf) (some (ce p.N p.rh p.m p.me 2 p.log.length p.ba p.com (p.sh=true) 3)) .leaf) (some (o_x p.N p.mh p.m 1 p.q p.me p.se)) (.node .leaf (some (bu p.log)) .leaf)),4)) (fun p=>ROk p.m p.me p.log p.ba p.com p.hs∧0<p.N∧UV p.x.er∧0≤p.fr∧p.fr<8) (fun p K=>aj fun r:abj=>iP (((r.log,r.com),r.o.map Ou.er)=eP p.N p.me p.m p.log p.ba p.com p.sh p.se p.fr p.x.er) (K (.sy (.prow 1 r.o.length)) (.node (.node (.node .leaf (some (bu r.log)) .leaf) (some (lV r.o)) .leaf) (some (o_x p.N p.mh p.m 2 p.q p.me p.se)) (.node (.node .leaf (some (.kmap true true false (Int×Int) p.hs aX aW)) .leaf) (some (ce p.N p.rh p.m p.me 3 r.log.length p.ba r.com (p.sh=true) 4)) .leaf)) 5) true)):=nE (nat:=yh) sG fun p K hpre hK=>by
 dsimp only at hpre hK ⊢
 obtain⟨hpre,hN,hM,f1,f2⟩:=hpre
 obtain⟨z_b,z_acc,z_vn,z_vl,z_pn,z_pl,z_has,z_ml,z_tl,c_0,c_1,c_2,c_3,c_4,c_5,c_6⟩:=hM
 dsimp only[Mg.er]at c_0 c_1 c_2 c_3 c_4 c_5 c_6
 have mb:=hpre.nl.2 _ hpre.me
 have g4:=hpre.len
 have g5:=hpre.ba0
 have g6:=hpre.ba1
 have hm:=ah hpre.nl
 have hne:=List.length_pos_iff.2 (List.ne_nil_of_mem hpre.me)
 have nnr:=trivial
 have ys {g:Prop} (h:g:=by first|(simp only[gX];first|omega|(have hz:=VU hpre (by assumption);omega);done)|fail):g:=h
 have yg {g:Prop} (h:g:=by first|(exact⟨hpre,by omega,by omega,by omega,by omega⟩)|fail):g:=h
 have yp {g:Prop} (h:g:=by first|(first|(exfalso;omega)|exact akg (by assumption) (by first|exact .inl ((fU (by assumption)).1 (by assumption))|exact .inr (fun g=>absurd ((fU (by assumption)).2 g) (by assumption)))|exact ahp (by assumption) (fun g=>absurd ((fU (by assumption)).2 g) (by assumption)) ((fU (by assumption)).1 (by first|assumption|exact Classical.not_not.1 (by assumption))) (by assumption) rfl|exact aan (by assumption) (by assumption)|exact ahq (by assumption) (by assumption) rfl)|fail):g:=h
 have ye {g:Prop} (h:g:=by first|(exact cR hK (.mk _ _ [] ..))|fail):g:=h
 have yq {g:Prop} (h:g:=by first|(refine wX [(.mk _ (.mk ..) ..)] (by first|exact sd|exact ys) ?_;exact wz)|fail):g:=h
 exact wz
noncomputable def yB:NN:=iV yh Pd [(0,4),(1,15),(2,15)] [4,5,6,10,11,12,13,14,16,17,18,19,20]
def nN (me se fr:Int) (x:Mx):List (Int×Mx):=if x.N≤se then [] else [(fr,{aF 11 with pn:=me,pl:=1})]
theorem aho {me se fr:Int} {x:Mx} (h:x.N≤se):([]:List Ou).map Ou.er=nN me se fr x:=by unfold nN;rw[if_pos h];rfl
theorem aam {me se fr:Int} {x:Mx} {z:Mg} (h:¬x.N≤se) (hz:z.er={aF 11 with pn:=me,pl:=1}):[(⟨fr,z⟩:Ou)].map Ou.er=nN me se fr x:=by unfold nN;rw[if_neg h,←hz];rfl
structure abV where
 s:So
 fr:Int
 m:Mg
structure abi where
 o:List Ou
theorem Pc:aA Tryz.prog 75 1 (aO (fun p:abV=>([.ptr 0 0,eL p.fr,kB p.m.k p.m.N p.m.fr p.m.c p.m.b p.m.acc [] p.m.vn p.m.vh p.m.vl p.m.pn p.m.pl (p.m.has=true) p.m.mh p.m.ml p.m.h p.m.l p.m.th p.m.tl],(di p.s),5)) (fun _=>True) (fun p K=>aj fun r:abi=>iP (r.o.map Ou.er=nN p.s.me p.s.se p.fr p.m.er) (K (.sy (.prow 1 r.o.length)) (jv p.s r.o) 6) true)):=nE (nat:=yB) sG fun p K hpre hK=>by
 dsimp only at hpre hK ⊢
 have yp {g:Prop} (h:g:=by first|(first|exact aho (by assumption)|exact aam (by assumption) rfl)|fail):g:=h
 have yq {g:Prop} (h:g:=by first|(refine wX [(.mk _ (.mk ..) ..)] (by first|exact sd|exact ys) ?_;exact wz)|fail):g:=h
 exact wz
noncomputable def yA:NN:=gj yB Pc [(0,4),(1,15),(2,15)] (fun us M=>Ie M 0 1)
def py (s:St) (v:Pq) (x:Int):Pq:={v with ph:=(dc s.m v.ph v.gt x).1,gt:=(dc s.m v.ph v.gt x).2}
def gA (now:Int) (s:St) (fr:Int) (m:Mx):St×List (Int×Mx):=
 if m.k=4 then ({s with com:=(fZ s.m s.me s.log s.com s.hs fr m.fr).1,hs:=(fZ s.m s.me s.log s.com s.hs fr m.fr).2},[])
 else if m.k=5∨m.k=9 then cQ now s fr m
 else match s.q with
 |none=>(s,[])
 |some v=>if m.k=7 then (iJ now s m.b,[]) else if ¬m.b=v.b then (s,[])
  else if m.k=8 then dw now {s with q:=none} (kr s v fr m.l m.acc (m.ml,m.tl) m.has)
  else dw now {s with q:=none} (py s v fr)
def fK (now:Int) (s:St) (fr:Int) (m:Mx):St×List (Int×Mx):=
 if 0<m.b∧(400 - s.ba<(m.l.length:Int)∨400 - s.ba<(m.tl.length:Int)) then (s,[]) else gA now {s with ro:=max s.ro (m.b / 256 % 4294967296)} fr m
theorem Cx {now fr:Int} {s:Si} {q:Option Pq} {m:Mg} (h:0<m.b∧(400 - s.ba<(m.l.length:Int)∨400 - s.ba<(m.tl.length:Int))):(s.er q,([]:List Ou).map Ou.er)=fK now (s.er q) fr m.er:=by
 unfold fK
 rw[if_pos (show 0<m.er.b∧(400 - (s.er q).ba<(m.er.l.length:Int)∨400 - (s.er q).ba<(m.er.tl.length:Int)) from h)];rfl
theorem jd {now fr r:Int} {s:Si} {q:Option Pq} {m:Mg} {y:St×List (Int×Mx)} (h:¬(0<m.b∧(400 - s.ba<(m.l.length:Int)∨400 - s.ba<(m.tl.length:Int)))) (hr:r=m.b / 256 % 4294967296) (hy:y=gA now (({s with ro:=max s.ro r}:Si).er q) fr m.er):y=fK now (s.er q) fr m.er:=by
 unfold fK
 rw[if_neg (show¬(0<m.er.b∧(400 - (s.er q).ba<(m.er.l.length:Int)∨400 - (s.er q).ba<(m.er.tl.length:Int))) from h),hy,hr];rfl
theorem ag3 {now fr com:Int} {hs:List (Int×Int)} {s:Si} {q:Option Pq} {m:Mg} (hk:m.k=4) (h:(com,hs)=fZ s.m s.me s.log s.com s.hs fr m.fr):(({s with com:=com,hs:=hs}:Si).er q,([]:List Ou).map Ou.er)=gA now (s.er q) fr m.er:=by
 unfold gA
 rw[if_pos (show m.er.k=4 from hk),show fZ (s.er q).m (s.er q).me (s.er q).log (s.er q).com (s.er q).hs fr m.er.fr=(com,hs) from h.symm];rfl
theorem Mw {now fr:Int} {s:Si} {q:Option Pq} {m:Mg} {y:St×List (Int×Mx)} (hk:m.k=5∨m.k=9) (h:y=cQ now (s.er q) fr m.er):y=gA now (s.er q) fr m.er:=by
 unfold gA
 rw[if_neg (show¬m.er.k=4 from fun g=>by
  have g:m.k=4:=g
  omega),if_pos (show m.er.k=5∨m.er.k=9 from hk),h]
theorem ow {now fr:Int} {s:Si} {q:Option Pq} {m:Mg} (h4:¬m.k=4) (h5:¬m.k=5) (h9:¬m.k=9):gA now (s.er q) fr m.er=match q with
 |none=>(s.er none,[])
 |some v=>if m.k=7 then (iJ now (s.er (some v)) m.b,[]) else if ¬m.b=v.b then (s.er (some v),[])
  else if m.k=8 then dw now (s.er none) (kr (s.er none) v fr m.l m.acc (m.ml,m.tl) m.has)
  else dw now (s.er none) (py (s.er none) v fr):=by
 unfold gA
 rw[if_neg (show¬m.er.k=4 from h4),if_neg (show¬(m.er.k=5∨m.er.k=9) from fun g=>g.elim h5 h9)]
 cases q<;>rfl
theorem ZT {now fr:Int} {s:Si} {m:Mg} (h4:¬m.k=4) (h5:¬m.k=5) (h9:¬m.k=9):(s.er none,([]:List Ou).map Ou.er)=gA now (s.er none) fr m.er:=by rw[ow h4 h5 h9];rfl
theorem alO {now fr tr:Int} {s:Si} {q2:Option Pq} {v:Pq} {m:Mg} (h4:¬m.k=4) (h5:¬m.k=5) (h9:¬m.k=9) (h7:m.k=7) (hy:(q2,tr)=fj now (some v) s.tr m.b):(({s with tr:=tr}:Si).er q2,([]:List Ou).map Ou.er)=gA now (s.er (some v)) fr m.er:=by
 rw[ow h4 h5 h9]
 dsimp only
 rw[if_pos h7]
 unfold iJ
 rw[show fj now (s.er (some v)).q (s.er (some v)).tr m.b=(q2,tr) from hy.symm];rfl
theorem alM {now fr:Int} {s:Si} {v:Pq} {m:Mg} (h4:¬m.k=4) (h5:¬m.k=5) (h9:¬m.k=9) (h7:¬m.k=7) (hb:¬m.b=v.b):(s.er (some v),([]:List Ou).map Ou.er)=gA now (s.er (some v)) fr m.er:=by
 rw[ow h4 h5 h9]
 dsimp only
 rw[if_neg h7,if_pos hb];rfl
theorem alN {now fr:Int} {s:Si} {v:Pq} {m:Mg} {y:St×List (Int×Mx)} (h4:¬m.k=4) (h5:¬m.k=5) (h9:¬m.k=9) (h7:¬m.k=7) (hb:m.b=v.b) (h8:m.k=8) (hy:y=dw now (s.er none) (kr (s.er none) v fr m.l m.acc (m.ml,m.tl) m.has)):y=gA now (s.er (some v)) fr m.er:=by
 rw[ow h4 h5 h9]
 dsimp only
 rw[if_neg h7,if_neg (fun g=>g hb),if_pos h8,hy]
theorem alP {now fr:Int} {s:Si} {v:Pq} {m:Mg} {y:St×List (Int×Mx)} (h4:¬m.k=4) (h5:¬m.k=5) (h9:¬m.k=9) (h7:¬m.k=7) (hb:m.b=v.b) (h8:¬m.k=8) (hy:y=dw now (s.er none) (py (s.er none) v fr)):y=gA now (s.er (some v)) fr m.er:=by
 rw[ow h4 h5 h9]
 dsimp only
 rw[if_neg h7,if_neg (fun g=>g hb),if_neg h8,hy]
theorem Kc {s:Si} {v:Qi} {qh qth cmh cth hh:Value} {g2:List Int} {b2:Int} {h2:Option Vl} {q2 l:List Ke} {x acc:Int} {u:List Int×List Ke} {has:Bool} (h:(g2,b2,h2.map Vl.er,q2)=ks s.m v.ph v.gt v.best (v.held.map Vl.er) v.qt x l acc u has):
  (⟨v.b,v.ph,g2,b2,hh,h2,qh,qth,q2,cmh,v.cm,cth,v.ct⟩:Qi).er=kr (s.er none) v.er x l acc u has:=by
 unfold kr
 rw[show ks (s.er none).m v.er.ph v.er.gt v.er.best v.er.held v.er.qt x l acc u has=(g2,b2,h2.map Vl.er,q2) from h.symm];rfl
theorem MR {s:Si} {v:Qi} {qh qth cmh cth hh:Value} {ph:Int} {g2:List Int} {x:Int} (h:(ph,g2)=dc s.m v.ph v.gt x):(⟨v.b,ph,g2,v.best,hh,v.held,qh,qth,v.qt,cmh,v.cm,cth,v.ct⟩:Qi).er=py (s.er none) v.er x:=by
 unfold py
 rw[show dc (s.er none).m v.er.ph v.er.gt x=(ph,g2) from h.symm];rfl
theorem AC {s:St} {v:Pq} {x:Int} (hv:PQOk s v):PQOk s (py s v x):=by
 have hn:=Cz (m:=s.m) (ph:=v.ph) (x:=x) (z:=1) hv.nd hv.sub
 unfold py dc
 dsimp only
 have h0:=hv.ph0
 have h1:=hv.ph1
 refine⟨hv.b0,hv.b1,?_,?_,hn.1,hn.2,hv.best0,hv.best1,hv.qt,hv.qtk,hv.held,?_,hv.avl⟩
 ·dsimp only;split<;>omega
 ·dsimp only;split<;>omega
 ·rcases hv.ch with⟨e,e2⟩|⟨e,e2⟩
  ·exact .inl ⟨by dsimp only;rw[if_neg (fun g=>by have:=g.1.1;omega)];exact e,e2⟩
  ·refine .inr ⟨?_,e2⟩
   dsimp only
   split<;>omega
theorem ui {s:Si} (hs:bz (s.er none)) {x:Int} (h:0≤x∧x<4294967296):bz (({s with ro:=x}:Si).er none):=
 ⟨hs.r,hs.n0,hs.n1,hs.se,hs.su,hs.jo,hs.go,hs.met,hs.log,hs.was,hs.wasl,hs.sa0,hs.sa1,hs.tr0,hs.tr1,h.1,h.2,hs.prm0,hs.prm1,hs.aa0,hs.aa1,hs.av,hs.avk⟩
theorem FA {m:Mx} (h:cJ m):m.ml.length≤8∧m.tl.length≤400∧m.l.length≤400:=by
 obtain⟨_,_,_,_,_,_,_,_,_,_,h⟩:=h
 rcases h with h|h|h|h|h|h|h|h|h|h
 all_goals have h:=h.2
 ·unfold UV at h;obtain⟨_,_,_,_,_,_,_,e1,e2,_,a1,_,_,_,a2,_⟩:=h;rw[e1,e2];exact⟨by decide,by decide,by omega⟩
 ·unfold Dp at h;simp only[h];decide
 ·unfold Nj at h;simp only[h];decide
 ·unfold MK6 at h;simp only[h];decide
 ·unfold MK7 at h;simp only[h];decide
 ·unfold UU at h
  refine⟨?_,by simp only[h],by simp only[h]⟩
  rcases h.2.2.2.2.2.2.2.2.2.2.2.2 with g|g
  ·exact ah g.2.2.1
  ·rw[g.2.2.1];decide
 ·unfold MK9 at h
  exact⟨ah (by simp only[h]),by simp only[h],by simp only[h];decide⟩
 ·unfold JB at h;simp only[h];decide
 ·unfold Dr at h;simp only[h];decide
 ·unfold Dq at h;simp only[h];decide
theorem KT {m:Mx} (h:cJ m) (hk:m.k=8):bV m.l∧0<m.b∧0≤m.acc∧m.acc<18446744073709551616∧(m.has=true→NL m.ml∧¬m.ml=[]∧bV m.tl):=by
 have g:=Um h hk
 unfold UU at g
 obtain⟨_,_,_,_,_,_,_,g1,g2,g3,g4,g5,g6⟩:=g
 refine⟨g2,g1,h.2.2.2.2.2.2.1,h.2.2.2.2.2.2.2.1,fun e=> ?_⟩
 rcases g6 with g6|g6
 ·exact⟨g6.2.2.1,g6.2.2.2,g4⟩
 ·rw[g6.1]at e;cases e
theorem TS {b r:Int} (h:0≤b) (e:r=b / 256 % 4294967296):0≤r∧r<4294967296:=by omega
theorem zH {a r:Int} (h:0≤a∧a<4294967296) (e:0≤r∧r<4294967296):0≤max a r∧max a r<4294967296:=by omega
noncomputable def ft_currn':NV (fun e0=>aB [e0] [] [] 0x2e6628809b0c604fae19ee30d220a5be72d4aa17769c8b5fe25890f372d1d2a86b8033064431cce43b53d791d694386da6d88772e14aa5a908eb425435749c598fcd20c18dc9227c724ecb0c7823b59088b1fa9b6bdb6ffe8c635921fe5444096fe4afaa380922d41af8cb99e344ce1f46d284c6edc3d5564b11e7bb7191f7f0876f38e65a8500d38d4a4f493978ad611468732a6eab2eb759d57ca8f4627e55722578c6c5249f7c0c709c97ea0418d3c686a388f44e63d7d5a51b87d9d16243afafa41a9f0cfb0472db888ed1fbe24460bb1821afccf5b6c35dbd2342be1cd96f6ed9f0d4fafcc6df0a2fb7d400f4c289bf84d9f0a05f092624a169a1829240443cfa5d430c41dd05f14866dc11f6d2f2904725b07d7ce7):=⟨_,by conv=>rhs;reduce⟩
noncomputable abbrev QH:XF:=ft_currn'.1 (eB 118 33 cE)
theorem sF:aK Tryz.prog 78 QH=true:=by kernel_rfl
structure abS where
 s:Si
 now:Int
 fr:Int
 m:Mg
structure abd where
 s:Si
 o:List Ou
theorem OZ:aA Tryz.prog 78 1 (aO (fun p:abS=>([.ptr 0 0,.sy (.int 0 p.now),eL p.fr,kB p.m.k p.m.N p.m.fr p.m.c p.m.b p.m.acc [] p.m.vn p.m.vh p.m.vl p.m.pn p.m.pl (p.m.has=true) p.m.mh p.m.ml p.m.h p.m.l p.m.th p.m.tl],(dv p.s p.s p.s),9)) (fun p=>bz (p.s.er none)∧rb (p.s.er none)∧((p.s.be.length:Int)≤p.s.se∧0<p.s.N)∧0≤p.now∧p.now≤1000000000∧p.s.N+1<4294967295∧cJ p.m.er∧4≤p.m.k∧p.m.k≤9) (fun p K=>aj fun r:abd=>iP (((r.s.er none),r.o.map Ou.er)=fK p.now (p.s.er none) p.fr p.m.er∧(r.s.be.length:Int)≤r.s.se∧0<r.s.N) (K (.sy (.prow 1 r.o.length)) (fQ r.s r.s r.s r.o) 10) true)):=nE (nat:=yA) sF fun p K hpre hK=>by
 dsimp only at hpre hK ⊢
 obtain⟨hs,ha,b1,n1,n2,t3,hM,k1,k2⟩:=hpre
 have ml_:=FA hM
 have mb0:=hM.2.2.2.2.1
 have mb1:=hM.2.2.2.2.2.1
 have hr_:=hs.r
 have ba0:=hs.r.ba0
 have ba1:=hs.r.ba1
 have hl_:=hs.r.len
 have ro0:=hs.ro0
 have ro1:=hs.ro1
 dsimp only[Si.er,Mg.er]at ml_ mb0 mb1 hr_ ba0 ba1 hl_ ro0 ro1
 have g3:=hs.sa0
 have g4:=hs.sa1
 have hm:=ah hs.r.nl
 have g5:=hs.r.nl
 have g6:=List.ne_nil_of_mem hs.r.me
 have g7:=hs.n0
 have g8:=hs.n1
 have g9:=ah hs.su
 have g10:=ah hs.go
 have g11:=ah hs.jo
 have g12:=hs.jo.2
 have g13:=hs.tr0
 have g14:=hs.tr1
 dsimp only[Si.er]at g3 g4 hm g5 g6 g7 g8 g9 g10 g11 g12 g13 g14
 have nnr:=trivial
 have ys {g:Prop} (h:g:=by first|(simp only[gX];first|omega|(have z4:=uU hM (by assumption);unfold Dp at z4;simp only[Mg.er]at z4;omega);done)|fail):g:=h
 have yg {g:Prop} (h:g:=by first|(exact⟨hr_,by(have z4:=uU hM (by assumption);unfold Dp at z4;simp only[Mg.er]at z4;omega)⟩)|(exact⟨ui hs (zH ⟨ro0,ro1⟩ rb1),b1,n1,n2,by omega,by omega⟩)|fail):g:=h
 have yp {g:Prop} (h:g:=by first|(first|exact⟨Cx (s:=p.s) (m:=p.m) ⟨by assumption,by first|exact .inl (by assumption)|exact .inr (by assumption)⟩,b1⟩|exact⟨jd (s:=p.s) (m:=p.m) (fun g=>by omega) hr1 (ag3 (s:=({p.s with ro:=max p.s.ro _}:Si)) (m:=p.m) (by assumption) (by assumption)),b1⟩|exact⟨jd (s:=p.s) (m:=p.m) (fun g=>by omega) hr1 (Mw (s:=({p.s with ro:=max p.s.ro _}:Si)) (m:=p.m) (by first|exact .inl (by assumption)|exact .inr (by assumption)) (by assumption:_=cQ _ _ _ _∧_).1),(by assumption:_=cQ _ _ _ _∧_).2⟩|exact⟨jd (s:=p.s) (m:=p.m) (fun g=>by omega) hr1 (ZT (s:=({p.s with ro:=max p.s.ro _}:Si)) (m:=p.m) (by assumption) (by assumption) (by assumption)),b1⟩)|fail):g:=h
 have yn {g:Prop} (h:g:=by first|(have hr1:=hi;have rb1:=TS mb0 hr1;exact wz)|fail):g:=h
 have yq {g:Prop} (h:g:=by first|(refine CI (.mk ..) (h:= ?_);dsimp only[iR,mM,qw];exact wo)|fail):g:=h
 exact wz
noncomputable def yt:NN:=gj yA OZ [(0,4),(1,20),(2,15),(3,15)] (fun us M=>Om (Ht M 0 5))
structure abR where
 s:Si
 v:Qi
 now:Int
 fr:Int
 m:Mg
structure abc where
 s:Si
 v:Qi
 o:List Ou
structure RX where
 s:Si
 o:List Ou
structure RW where
 s:So
 o:List Ou
theorem OY:aA Tryz.prog 78 1 (aO (fun p:abR=>([.ptr 0 0,.sy (.int 0 p.now),eL p.fr,kB p.m.k p.m.N p.m.fr p.m.c p.m.b p.m.acc [] p.m.vn p.m.vh p.m.vl p.m.pn p.m.pl (p.m.has=true) p.m.mh p.m.ml p.m.h p.m.l p.m.th p.m.tl],(du p.s p.s p.s p.s p.v),11)) (fun p=>bz (p.s.er none)∧PQOk (p.s.er none) p.v.er∧((p.s.be.length:Int)≤p.s.se∧0<p.s.N)∧0≤p.now∧p.now≤1000000000∧p.s.N+1<4294967295∧cJ p.m.er∧4≤p.m.k∧p.m.k≤9) (fun p K=>ae (aj fun r:abc=>iP (((r.s.er (some r.v.er)),r.o.map Ou.er)=fK p.now (p.s.er (some p.v.er)) p.fr p.m.er∧(r.s.be.length:Int)≤r.s.se∧0<r.s.N) (K (.sy (.prow 1 r.o.length)) (gU r.s r.s r.s r.s r.v r.o) 12) true) (ae (aj fun r:RX=>iP (((r.s.er none),r.o.map Ou.er)=fK p.now (p.s.er (some p.v.er)) p.fr p.m.er∧(r.s.be.length:Int)≤r.s.se∧0<r.s.N) (K (.sy (.prow 1 r.o.length)) (fQ r.s r.s r.s r.o) 10) true) (aj fun r:RW=>iP ((r.s.er,r.o.map Ou.er)=fK p.now (p.s.er (some p.v.er)) p.fr p.m.er∧(r.s.be.length:Int)≤r.s.se) (K (.sy (.prow 1 r.o.length)) (jv r.s r.o) 6) true)))):=nE (nat:=yt) sF fun p K hpre hK=>by
 dsimp only at hpre hK ⊢
 obtain⟨hK0,hKr0⟩:=ac hK
 obtain⟨hK1,hKr1⟩:=ac hKr0
 have hK2:=hKr1
 obtain⟨hs,hv,b1,n1,n2,t3,hM,k1,k2⟩:=hpre
 have hq:=PQOk.qok hs hv
 have ml_:=FA hM
 have mb0:=hM.2.2.2.2.1
 have mb1:=hM.2.2.2.2.2.1
 have hr_:=hs.r
 have ba0:=hs.r.ba0
 have ba1:=hs.r.ba1
 have hl_:=hs.r.len
 have ro0:=hs.ro0
 have ro1:=hs.ro1
 dsimp only[Si.er,Mg.er]at ml_ mb0 mb1 hr_ ba0 ba1 hl_ ro0 ro1
 have g3:=hs.sa0
 have g4:=hs.sa1
 have hm:=ah hs.r.nl
 have g5:=hs.r.nl
 have g6:=List.ne_nil_of_mem hs.r.me
 have g7:=hs.n0
 have g8:=hs.n1
 have g9:=ah hs.su
 have g10:=ah hs.go
 have g11:=ah hs.jo
 have g12:=hs.jo.2
 have g13:=hs.tr0
 have g14:=hs.tr1
 dsimp only[Si.er]at g3 g4 hm g5 g6 g7 g8 g9 g10 g11 g12 g13 g14
 have nnr:=trivial
 have ys {g:Prop} (h:g:=by first|(simp only[gX];first|omega|(have z4:=uU hM (by assumption);unfold Dp at z4;simp only[Mg.er]at z4;omega);done)|fail):g:=h
 have yg {g:Prop} (h:g:=by first|(exact⟨hr_,by(have z4:=uU hM (by assumption);unfold Dp at z4;simp only[Mg.er]at z4;omega)⟩)|(exact⟨ui hs (zH ⟨ro0,ro1⟩ rb1),b1,n1,n2,by omega,by omega⟩)|(exact⟨hq,by omega,by omega,by omega⟩)|(first|(have z8:=KT hM (by assumption);dsimp only[Mg.er]at z8;exact⟨ui hs (zH ⟨ro0,ro1⟩ rb1),by rw[Kc (hi)];exact gK (AB hv ⟨z8.1,by show(p.m.l.length:Int)≤400 - p.s.ba;omega⟩ ⟨z8.2.2.1,z8.2.2.2.1⟩ (fun e=>⟨(z8.2.2.2.2 e).1,(z8.2.2.2.2 e).2.1,(z8.2.2.2.2 e).2.2,by show(p.m.tl.length:Int)≤400 - p.s.ba;omega⟩)) rfl rfl rfl rfl,b1,n1,n2,t3⟩)|exact⟨ui hs (zH ⟨ro0,ro1⟩ rb1),by rw[MR (hi)];exact gK (AC hv) rfl rfl rfl rfl,b1,n1,n2,t3⟩)|(exact hq)|fail):g:=h
 have yp {g:Prop} (h:g:=by first|(first|exact⟨Cx (s:=p.s) (m:=p.m) ⟨by assumption,by first|exact .inl (by assumption)|exact .inr (by assumption)⟩,b1⟩|exact⟨jd (s:=p.s) (m:=p.m) (fun g=>by omega) hr1 (ag3 (s:=({p.s with ro:=max p.s.ro _}:Si)) (m:=p.m) (by assumption) (by assumption)),b1⟩|exact⟨jd (s:=p.s) (m:=p.m) (fun g=>by omega) hr1 (Mw (s:=({p.s with ro:=max p.s.ro _}:Si)) (m:=p.m) (by first|exact .inl (by assumption)|exact .inr (by assumption)) (by assumption:_=cQ _ _ _ _∧_).1),(by assumption:_=cQ _ _ _ _∧_).2⟩|exact⟨jd (s:=p.s) (m:=p.m) (fun g=>by omega) hr1 (alO (s:=({p.s with ro:=max p.s.ro _}:Si)) (m:=p.m) (by assumption) (by assumption) (by assumption) (by assumption) (by first|exact Ha (by assumption)|exact Hc (by assumption))),b1⟩|exact⟨jd (s:=p.s) (m:=p.m) (fun g=>by omega) hr1 (alM (s:=({p.s with ro:=max p.s.ro _}:Si)) (m:=p.m) (by assumption) (by assumption) (by assumption) (by assumption) (by assumption)),b1⟩|exact⟨jd (s:=p.s) (m:=p.m) (fun g=>by omega) hr1 (alN (s:=({p.s with ro:=max p.s.ro _}:Si)) (m:=p.m) (by assumption) (by assumption) (by assumption) (by assumption) (Classical.not_not.1 (by assumption)) (by assumption) (by rw[←Kc (s:=({p.s with ro:=max p.s.ro _}:Si)) (v:=p.v) (by assumption)];exact(by assumption:_=dw _ _ _∧_).1)),(by assumption:_=dw _ _ _∧_).2⟩|exact⟨jd (s:=p.s) (m:=p.m) (fun g=>by omega) hr1 (alP (s:=({p.s with ro:=max p.s.ro _}:Si)) (m:=p.m) (by assumption) (by assumption) (by assumption) (by assumption) (Classical.not_not.1 (by assumption)) (by assumption) (by rw[←MR (s:=({p.s with ro:=max p.s.ro _}:Si)) (v:=p.v) (by assumption)];exact(by assumption:_=dw _ _ _∧_).1)),(by assumption:_=dw _ _ _∧_).2⟩)|fail):g:=h
 have yn {g:Prop} (h:g:=by first|(have hr1:=hi;have rb1:=TS mb0 hr1;exact wz)|fail):g:=h
 have ye {g:Prop} (h:g:=by first|(exact cR hK0 (.mk (.mk ..) (.mk ..) [] ..))|fail):g:=h
 have yq {g:Prop} (h:g:=by first|(refine CI (.mk ..) (h:= ?_);dsimp only[iR,mM,qw];exact wo)|fail):g:=h
 exact wz
end Go.Proofs.Tryz
