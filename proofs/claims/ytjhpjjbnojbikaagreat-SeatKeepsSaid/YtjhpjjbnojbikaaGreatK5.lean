/- Definitions and lemmas of the proof, without a condition of their own. -/
import Derived.Test.YtjhpjjbnojbikaaGreatK5c
import Derived.KernelRfl
set_option linter.unusedSimpArgs false
set_option linter.unusedVariables false
open List renaming append_assoc→amb,flatten_cons→al8,length_append→al2,length_cons→al3,length_drop→amr,length_map→al4,length_nil→al5,length_take→ami,mem_of_getElem?→al7
open Nat renaming le_refl→amj
open Option.some renaming inj→amp
namespace Go.Proofs.Tryz
open Go Go.RowKit Go.Sy
open Go.Eng hiding aj
set_option linter.unusedVariables false
theorem Good.base {G:GG} (hG:GI G) {n N:Int} {l:List Ke} {h:VG} (hl:Good G n l) (hn:n<N) (hh:G N=some h):l<+:h.base:=by
 rcases hl with rfl|⟨M,g,h1,h2,h3,h4⟩
 ·exact List.nil_prefix
 ·refine hG.base h2 h3 h4 (N - M - 1).toNat ?_
  rw[show M+(((N - M - 1).toNat+1:Nat):Int)=N by omega];exact hh
theorem Az {a b c:List Ke} (h1:a<+:c) (h2:b<+:c):a<+:b∨b<+:a:=List.prefix_or_prefix_of_prefix h1 h2
theorem Good.or {G:GG} (hG:GI G) {n m:Int} {a b:List Ke} (ha:Good G n a) (hb:Good G m b):a<+:b∨b<+:a:=by
 have ha':=ha;have hb':=hb
 rcases ha with rfl|⟨N,g,h1,h2,h3,h4⟩
 ·exact .inl List.nil_prefix
 rcases hb with rfl|⟨M,k,k1,k2,k3,k4⟩
 ·exact .inr List.nil_prefix
 rcases Int.lt_trichotomy N M with q|q|q
 ·exact Az ((Good.base hG (.inr ⟨N,g,Int.le_refl _,h2,h3,h4⟩) q k2).trans (hG.v M k k2).2.hb) k3
 ·subst q;rw[h2]at k2;cases k2;exact Az h3 k3
 ·exact Az h3 ((Good.base hG (.inr ⟨M,k,Int.le_refl _,k2,k3,k4⟩) q h2).trans (hG.v N g h2).2.hb)
structure SS (G:GG) (i:Int) (s:St):Prop where
 me:s.me=i
 inn:0<s.N→s.se=s.N∧∃g,G s.N=some g∧g.S i=some s
 nw:∀N g,s.se<N→G N=some g→g.S i=none
 out:¬0<s.N→Good G s.se (s.was.take s.wc.toNat)∧0≤s.wc∧s.wc≤s.was.length
theorem GE.ss {G K:GG} {i j:Int} {s:St} (e:GE G K i) (hj:¬j=i) (h:SS G j s):SS K j s:=by
 refine⟨h.me,fun hN=> ?_,fun N g hN hg=> ?_,fun hN=>⟨e.good (h.out hN).1,(h.out hN).2⟩⟩
 ·obtain⟨h1,g,h2,h3⟩:=h.inn hN
  obtain⟨k,h4,h5⟩:=e.o _ _ h2
  exact⟨h1,k,h4,by rw[h5.So j hj];exact h3⟩
 ·cases q:G N with
  |none=>exact e.n N g hg q j hj
  |some g'=>
   obtain⟨k,h4,h5⟩:=e.o _ _ q
   rw[hg]at h4;cases h4
   rw[h5.So j hj];exact h.nw N g' hN q
def cG (s:St):List Ke:=(bU s).take (cL s).toNat
theorem SS.good {G:GG} (hG:GI G) {i:Int} {s:St} (h:SS G i s) (hs:0<s.N→ROk s.m s.me s.log s.ba s.com s.hs):Good G s.se (cG s):=by
 unfold cG bU cL
 by_cases hN:0<s.N
 ·rw[if_pos hN,if_pos hN]
  obtain⟨h1,g,h2,h3⟩:=h.inn hN
  have h4:=(hG.v _ _ h2).2.s i s h3
  refine .inr ⟨s.N,g,by omega,h2,(List.take_prefix _ _).trans h4.lg,?_⟩
  have h5:=h4.com
  have h6:=(hs hN).com0
  have h7:=(hs hN).com1
  rw[ami,show((min s.com.toNat s.log.length:Nat):Int)=s.com by omega]
  exact h5
 ·rw[if_neg hN,if_neg hN];exact(h.out hN).1
theorem HG.le {g:VG} {p c d:Int} (h:HG g p c) (hd:d≤c):HG g p d:=by
 rcases h with h|⟨s,h1,h2⟩
 ·exact .inl (by omega)
 ·exact .inr ⟨s,h1,by omega⟩
theorem CG.le {g:VG} {c d:Int} (h:CG g c) (hd:d≤c):CG g d:=by
 obtain⟨h1,Q,h2,h3⟩:=h
 exact⟨by omega,Q,h2,fun p hp=>(h3 p hp).le hd⟩
def MG (G:GG) (i:Int) (m:Mx):Prop:=
 (m.k=3→∃g,G m.N=some g∧g.m.head?=some i∧0≤m.fr∧m.fr≤g.H.length∧g.H.take m.fr.toNat++m.l<+:g.H∧CG g m.c)∧
 (m.k=4→∃g,G m.N=some g∧HG g i m.fr)∧
 (m.k=9→∃g,G m.N=some g∧g.P m.b=some (m.ml,m.tl))∧
 (m.k=8→∃g,G m.N=some g∧PR g m.b i∧VL g m.b i m.acc∧SH g i m.l.length∧g.base++m.l<+:g.H∧(m.has=false→m.acc=0)∧(m.has=true→g.P m.acc=some (m.ml,m.tl)∧m.acc≤m.b))∧
 (m.k=6→∃g,G m.N=some g∧g.V m.b i)∧
 (m.k=10→∃g,G m.vn=some g∧m.vl=g.m∧m.l=g.base)∧(3≤m.k∧m.k≤12∧(10<m.k→m.b=0))
theorem rA {G:GG} {i:Int} {m:Mx} (h:m.k=5∨m.k=7∨((m.k=11∨m.k=12)∧m.b=0)):MG G i m:=by
 refine⟨fun q=> ?_,fun q=> ?_,fun q=> ?_,fun q=> ?_,fun q=> ?_,fun q=> ?_,?_,?_,fun q=> ?_⟩<;>omega
theorem GE.mg {G K:GG} {i j:Int} {m:Mx} (e:GE G K j) (h:MG G i m):MG K i m:=by
 obtain⟨h3,h4,h9,h8,h6,h10,hk⟩:=h
 refine⟨fun q=> ?_,fun q=> ?_,fun q=> ?_,fun q=> ?_,fun q=> ?_,fun q=> ?_,hk⟩
 ·obtain⟨g,k1,k2,k3,k4,k5,k6⟩:=h3 q
  obtain⟨h,k7,x⟩:=e.o _ _ k1
  have:=x.H.length_le
  obtain⟨t,ht⟩:=x.H
  refine⟨h,k7,by rw[x.m];exact k2,k3,by omega,?_,x.cg k6⟩
  rw[←ht,List.take_append_of_le_length (by omega)]
  exact k5.trans (List.prefix_append _ _)
 ·obtain⟨g,k1,k2⟩:=h4 q
  obtain⟨h,k7,x⟩:=e.o _ _ k1
  exact⟨h,k7,x.hg k2⟩
 ·obtain⟨g,k1,k2⟩:=h9 q
  obtain⟨h,k7,x⟩:=e.o _ _ k1
  exact⟨h,k7,x.P _ _ k2⟩
 ·obtain⟨g,k1,k2,k3,k4,k5,k6,k8⟩:=h8 q
  obtain⟨h,k7,x⟩:=e.o _ _ k1
  exact⟨h,k7,x.pr k2,x.vl k2 k3,x.sh k4,by rw[x.base];exact k5.trans x.H,k6,fun y=>⟨x.P _ _ (k8 y).1,(k8 y).2⟩⟩
 ·obtain⟨g,k1,k2⟩:=h6 q
  obtain⟨h,k7,x⟩:=e.o _ _ k1
  exact⟨h,k7,x.V _ _ k2⟩
 ·obtain⟨g,k1,k2,k3⟩:=h10 q
  obtain⟨h,k7,x⟩:=e.o _ _ k1
  exact⟨h,k7,by rw[x.m];exact k2,by rw[x.base];exact k3⟩
theorem Ex.trans {g h k:VG} {i:Int} (a:Ex g h i) (b:Ex h k i):Ex g k i where
 m:=b.m.trans a.m
 base:=b.base.trans a.base
 H:=a.H.trans b.H
 So p hp:=(b.So p hp).trans (a.So p hp)
 S p s hs:=by
  obtain⟨t,h1,h2,h3,h4,h5⟩:=a.S p s hs
  obtain⟨u,k1,k2,k3,k4,k5⟩:=b.S p t h1
  exact⟨u,k1,by omega,by omega,by omega,fun q=>⟨(k5 (h5 q).1).1,(k5 (h5 q).1).2.trans (h5 q).2⟩⟩
 P c v hc:=b.P c v (a.P c v hc)
 Pn c hc:=(b.Pn c hc).trans (a.Pn c hc)
 V c p hc:=b.V c p (a.V c p hc)
 Vn c p hk hg:=by
  by_cases q:h.V c p
  ·exact a.Vn c p q hg
  ·obtain⟨h1,h2⟩:=b.Vn c p hk q
   refine⟨h1,fun s hs=> ?_⟩
   obtain⟨t,h3,_,h4,_⟩:=a.S i s hs
   have:=h2 t h3
   omega
theorem GE.trans {G K L:GG} {i:Int} (a:GE G K i) (b:GE K L i):GE G L i where
 o N g hg:=by
  obtain⟨h,h1,h2⟩:=a.o N g hg
  obtain⟨k,h3,h4⟩:=b.o N h h1
  exact⟨k,h3,h2.trans h4⟩
 n N h hL hG p hp:=by
  cases q:K N with
  |none=>exact b.n N h hL q p hp
  |some k=>
   obtain⟨h',h3,h4⟩:=b.o N k q
   rw[hL]at h3;cases h3
   rw[h4.So p hp];exact a.n N k q hG p hp
def Ac (G:GG) (i:Int) (s:St) (r:St×List (Int×Mx)):Prop:=∃K,GE G K i∧GI K∧SS K i r.1∧(∀o∈r.2,MG K i o.2)∧cG s<+:cG r.1
theorem Ac.refl {G:GG} {i:Int} {s:St} {os:List (Int×Mx)} (hG:GI G) (hs:SS G i s) (ho:∀o∈os,MG G i o.2):Ac G i s (s,os):=⟨G,.refl G i,hG,hs,ho,List.prefix_refl _⟩
theorem Ac.trans {G:GG} {i:Int} {s:St} {r r2:St×List (Int×Mx)} (a:Ac G i s r) (b:∀K,GI K→SS K i r.1→Ac K i r.1 r2):Ac G i s (r2.1,r.2++r2.2):=by
 obtain⟨K,h1,h2,h3,h4,h5⟩:=a
 obtain⟨L,k1,k2,k3,k4,k5⟩:=b K h2 h3
 exact⟨L,h1.trans k1,k2,k3,fun o ho=>(List.mem_append.1 ho).elim (fun h=>k1.mg (h4 o h)) (k4 o),h5.trans k5⟩
def Ai (G:GG) (N:Int) (h:VG):GG:=fun M=>if M=N then some h else G M
theorem eU {G:GG} {N:Int} {h:VG}:Ai G N h N=some h:=if_pos rfl
theorem ec {G:GG} {N M:Int} {h:VG} (hM:¬M=N):Ai G N h M=G M:=if_neg hM
theorem GI.upd {G:GG} {N i:Int} {g h:VG} (hG:GI G) (hg:G N=some g) (e:Ex g h i) (hh:VI h):GI (Ai G N h)∧GE G (Ai G N h) i:=by
 refine⟨⟨fun M k hk=> ?_,fun M k hM hk=> ?_⟩,⟨fun M k hk=> ?_,fun M k hk hn=> ?_⟩⟩
 ·by_cases q:M=N
  ·subst q;rw[eU]at hk;cases hk;exact⟨(hG.v _ _ hg).1,hh⟩
  ·rw[ec q]at hk;exact hG.v M k hk
 ·have key:∃k',G (M+1)=some k'∧k'.m=k.m∧k'.base=k.base:=by
   by_cases q:M+1=N
   ·rw[q,eU]at hk;cases hk;exact⟨g,by rw[q];exact hg,e.m.symm,e.base.symm⟩
   ·rw[ec q]at hk;exact⟨k,hk,rfl,rfl⟩
  obtain⟨k',k1,k2,k3⟩:=key
  obtain⟨a,t,k4,k5,k6⟩:=hG.l M k' hM k1
  rw[k2]at k5
  rw[k3]at k6
  by_cases q:M=N
  ·subst q;rw[hg]at k4;cases k4;exact⟨h,t,eU,e.dg k5,by rw[e.base];exact k6⟩
  ·exact⟨a,t,by rw[ec q];exact k4,k5,k6⟩
 ·by_cases q:M=N
  ·subst q;rw[hg]at hk;cases hk;exact⟨h,eU,e⟩
  ·exact⟨k,by rw[ec q];exact hk,.refl k i⟩
 ·by_cases q:M=N
  ·subst q;rw[hg]at hn;cases hn
  ·rw[ec q,hn]at hk;cases hk
theorem vG {G:GG} {N i:Int} {g h:VG} {s t:St} {os:List (Int×Mx)} (hG:GI G) (hs:SS G i s) (hN:0<s.N) (hg:G s.N=some g) (e:Ex g h i) (hh:VI h) (ht:h.S i=some t)
  (t1:t.N=s.N) (t2:t.se=s.se) (t3:t.me=s.me) (ho:∀K,K s.N=some h→∀o∈os,MG K i o.2) (hc:cG s<+:cG t):Ac G i s (t,os):=by
 obtain⟨h1,h2⟩:=hG.upd hg e hh
 refine⟨_,h2,h1,⟨t3.trans hs.me,fun _=>⟨t2.trans ((hs.inn hN).1.trans t1.symm),h,by rw[t1];exact eU,ht⟩,fun M k hM hk=> ?_,fun q=>absurd hN (by rw[←t1];exact q)⟩,ho _ eU,hc⟩
 have h3:=(hs.inn hN).1
 rw[t2]at hM
 rw[ec (by omega)]at hk
 exact hs.nw M k hM hk
theorem agW {m:List Int} {hs:List (Int×Int)} (hk:hs.map (·.1)=m) (hn:m.Nodup) (hne:¬m=[]):
  ∃Q,Qu m Q∧∀p∈Q,∃y∈hs,y.1=p∧(fm (hs.map (·.2))).getD (hs.length - (m.length / 2+1)) 0≤y.2:=by
 generalize hc:(fm (hs.map (·.2))).getD (hs.length - (m.length / 2+1)) 0=c
 have hl:hs.length=m.length:=by rw[←hk,al4]
 have hp:=List.length_pos_iff.2 hne
 have hsl:(fm (hs.map (·.2))).length=m.length:=by rw[VX,al4,hl]
 refine⟨(hs.filter fun y=>decide (c≤y.2)).map (·.1),⟨?_,?_,?_⟩,?_⟩
 ·exact List.Nodup.sublist (List.Sublist.map _ List.filter_sublist) (by rw[hk];exact hn)
 ·intro x hx
  obtain⟨y,hy,rfl⟩:=List.mem_map.1 hx
  rw[←hk];exact List.mem_map.2 ⟨y,(List.mem_filter.1 hy).1,rfl⟩
 ·rw[al4,←List.countP_eq_length_filter]
  have e1:hs.countP (fun y=>decide (c≤y.2))=(fm (hs.map (·.2))).countP (fun z=>decide (c≤z)):=by
   rw[(ir _).countP_eq,List.countP_map];rfl
  rw[e1]
  have e2:((fm (hs.map (·.2))).drop (hs.length - (m.length / 2+1))).countP (fun z=>decide (c≤z))=((fm (hs.map (·.2))).drop (hs.length - (m.length / 2+1))).length:=by
   refine List.countP_eq_length.2 fun z hz=>decide_eq_true ?_
   obtain⟨j,hj,rfl⟩:=List.mem_iff_getElem.1 hz
   rw[amr]at hj
   rw[List.getElem_drop,←hc,List.getD_eq_getElem?_getD,List.getElem?_eq_getElem (by omega),Option.getD_some]
   rcases Nat.eq_zero_or_pos j with q|q
   ·subst q;exact Int.le_refl _
   ·exact List.pairwise_iff_getElem.1 (jB _) _ _ (by omega) (by omega) (by omega)
  have e3:=(List.drop_sublist (hs.length - (m.length / 2+1)) (fm (hs.map (·.2)))).countP_le (p:=fun z=>decide (c≤z))
  rw[e2,amr]at e3
  omega
 ·intro p hx
  obtain⟨y,hy,rfl⟩:=List.mem_map.1 hx
  exact⟨y,(List.mem_filter.1 hy).1,rfl,of_decide_eq_true (List.mem_filter.1 hy).2⟩
theorem My {g:VG} {com:Int} {hs:List (Int×Int)} (hg:g.m.Nodup) (hne:¬g.m=[]) (hk:hs.map (·.1)=g.m) (hc:CG g com) (hh:∀y∈hs,HG g y.1 y.2) (hl:∀y∈hs,y.2≤g.H.length):CG g (gS com g.m hs):=by
 unfold gS
 rcases Int.le_total ((fm (hs.map (·.2))).getD (hs.length - (g.m.length / 2+1)) 0) com with q|q
 ·rw[Int.max_eq_left q];exact hc
 ·rw[Int.max_eq_right q]
  obtain⟨Q,h1,h2⟩:=agW hk hg hne
  have hq:=h1.len
  cases e:Q with
  |nil=>rw[e]at hq;simp at hq
  |cons p l=>
   obtain⟨y,h3,_,h4⟩:=h2 p (by rw[e];simp)
   have:=hl y h3
   refine⟨by omega,Q,h1,fun p hp=> ?_⟩
   obtain⟨y,h3,rfl,h4⟩:=h2 p hp
   exact(hh y h3).le h4
def VG.put (g:VG) (i:Int) (t:St):VG:={g with S:=fun p=>if p=i then some t else g.S p}
theorem dF {g:VG} {i:Int} {t:St}:(g.put i t).S i=some t:=if_pos rfl
structure Go1 (s t:St):Prop where
 l:s.log.length≤t.log.length
 p:s.prm≤t.prm
 r:s.ro≤t.ro
 h:s.sh=true→t.sh=true∧t.log=s.log
theorem Go1.refl (s:St):Go1 s s:=⟨amj _,Int.le_refl _,Int.le_refl _,fun h=>⟨h,rfl⟩⟩
theorem lJ {g:VG} {i:Int} {s t:St} (hs:g.S i=some s) (h:Go1 s t):Ex g (g.put i t) i where
 m:=rfl
 base:=rfl
 H:=List.prefix_refl _
 So p hp:=if_neg hp
 S p u hu:=by
  by_cases q:p=i
  ·subst q;rw[hs]at hu;cases hu
   exact⟨t,dF,h.l,h.p,h.r,h.h⟩
  ·exact⟨u,(if_neg q).trans hu,amj _,Int.le_refl _,Int.le_refl _,fun h=>⟨h,rfl⟩⟩
 P _ _ h:=h
 Pn _ _:=rfl
 V _ _ h:=h
 Vn _ _ h1 h2:=absurd h1 h2
theorem JZ {g:VG} {i p ro:Int} {t:St} {v:Pq} (e:Ex g (g.put i t) i) (x:QG g p ro v):QG (g.put i t) p ro v:=by
 refine⟨x.own,x.b0,e.pr x.pr,x.nd,x.sub,x.ro,fun h0=> ?_,fun h1=>x.p1 h1,fun h2=>x.p2 h2⟩
 obtain⟨h1,h2,h3,h4,h5⟩:=x.p0 h0
 exact⟨h1,fun y hy=>⟨e.pr (h2 y hy).1,e.vl (h2 y hy).1 (h2 y hy).2.1,e.sh (h2 y hy).2.2⟩,h3,h4,h5⟩
theorem iO {g:VG} {i:Int} {t:St} (e:Ex g (g.put i t) i) (x:LS g i t):LS (g.put i t) i t:=
 ⟨x.m,x.me,x.ba,x.b1,x.lg,x.hd,e.cg x.com,fun y hy=>e.hg (x.hs y hy),x.sh,x.pa,x.aa,x.vt,fun v hv=>JZ e (x.q v hv)⟩
theorem pX {g:VG} {i:Int} {s t:St} (hg:VI g) (hs:g.S i=some s) (h:Go1 s t) (hl:LS (g.put i t) i t):VI (g.put i t):=
 hg.step (lJ hs h) dF hl (fun _=>rfl) (fun b v h1 h2=>absurd h1 h2) (fun b p h1 h2=>absurd h1 h2)
theorem qX {G:GG} {i:Int} {s t:St} {os:List (Int×Mx)} (hG:GI G) (hs:SS G i s) (hN:0<s.N) (t1:t.N=s.N) (t2:t.se=s.se) (h:Go1 s t)
  (hl:∀g,G s.N=some g→VI g→g.S i=some s→LS g i s→Ex g (g.put i t) i→LS (g.put i t) i t)
  (ho:∀K h,K s.N=some h→VI h→LS h i t→h.S i=some t→∀o∈os,MG K i o.2) (hc:cG s<+:cG t):Ac G i s (t,os):=by
 obtain⟨_,g,h2,h3⟩:=hs.inn hN
 have hv:=(hG.v _ _ h2).2
 have e:=lJ h3 h
 have h4:=hl g h2 hv h3 (hv.s i s h3) e
 have h5:=pX hv h3 h h4
 exact vG (N:=s.N) hG hs hN h2 e h5 dF t1 t2 (h4.me.trans hs.me.symm) (fun K hK=>ho K _ hK h5 h4 dF) hc
theorem eT {s t:St} (hs:0<s.N) (ht:0<t.N) (hl:s.log<+:t.log) (hc:s.com≤t.com) (h:s.com≤s.log.length):cG s<+:cG t:=by
 unfold cG bU cL
 rw[if_pos hs,if_pos hs,if_pos ht,if_pos ht]
 obtain⟨r,hr⟩:=hl
 rw[←hr,←List.take_append_of_le_length (l₂:=r) (show s.com.toNat≤s.log.length by omega)]
 exact List.take_prefix_take_left (by omega)
structure Eq1 (s t:St):Prop where
 N:t.N=s.N
 se:t.se=s.se
 me:t.me=s.me
 m:t.m=s.m
 log:t.log=s.log
 ba:t.ba=s.ba
 com:t.com=s.com
 sh:t.sh=s.sh
 hs:t.hs=s.hs
 prm:t.prm=s.prm
 aa:t.aa=s.aa
 av:t.av=s.av
 q:t.q=s.q∨t.q=none
 ro:s.ro≤t.ro
 was:t.was=s.was
 wc:t.wc=s.wc
theorem Eq1.ls {g:VG} {i:Int} {s t:St} (e:Eq1 s t) (x:LS g i s):LS g i t:=
 ⟨e.m.trans x.m,e.me.trans x.me,e.ba.trans x.ba,by rw[e.log];exact x.b1,by rw[e.log];exact x.lg,fun h=>e.log.trans (x.hd h),by rw[e.com];exact x.com,by rw[e.hs];exact x.hs,by rw[e.prm,e.sh];exact x.sh,by rw[e.prm,e.aa];exact x.pa,
  by rw[e.aa,e.av];exact x.aa,by rw[e.aa];exact x.vt,fun v hv=>by
   rcases e.q with h|h
   ·rw[h]at hv
    have:=x.q v hv
    exact⟨this.own,this.b0,this.pr,this.nd,this.sub,Int.le_trans this.ro e.ro,this.p0,this.p1,this.p2⟩
   ·rw[h]at hv;cases hv⟩
theorem Eq1.go {s t:St} (e:Eq1 s t):Go1 s t:=⟨by rw[e.log];exact amj _,by rw[e.prm];exact Int.le_refl _,e.ro,fun h=>⟨by rw[e.sh];exact h,e.log⟩⟩
theorem Eq1.com_l {s t:St} (e:Eq1 s t):cG t=cG s:=by
 unfold cG bU cL
 rw[e.N,e.log,e.com,e.was,e.wc]
theorem rM {G:GG} {i:Int} {s t:St} {os:List (Int×Mx)} (hG:GI G) (hs:SS G i s) (e:Eq1 s t)
  (ho:0<s.N→∀K h,K s.N=some h→VI h→LS h i t→h.S i=some t→∀o∈os,MG K i o.2) (ho2:¬0<s.N→∀o∈os,MG G i o.2):Ac G i s (t,os):=by
 have hc:cG s<+:cG t:=by rw[e.com_l];exact List.prefix_refl _
 by_cases hN:0<s.N
 ·exact qX hG hs hN e.N e.se e.go (fun g _ _ _ h3 h4=>iO h4 (e.ls h3)) (ho hN) hc
 ·exact⟨G,.refl G i,hG,⟨e.me.trans hs.me,fun h=>absurd (by rw[←e.N];exact h) hN,fun M k hM=>hs.nw M k (by rw[←e.se];exact hM),fun _=>by rw[e.se,e.was,e.wc];exact hs.out hN⟩,ho2 hN,hc⟩
theorem HG.getK {g:VG} {hs:List (Int×Int)} {p:Int} (h:∀y∈hs,HG g y.1 y.2):HG g p (getK hs p):=by
 induction hs with
 |nil=>exact .inl (by show(0:Int)≤_;omega)
 |cons y l ih=>
  unfold Tryz.getK
  split
  ·rename_i q;rw[←q];exact h y (by simp)
  ·exact ih fun z hz=>h z (List.mem_cons_of_mem _ hz)
theorem HG.max {g:VG} {p a b:Int} (h1:HG g p a) (h2:HG g p b):HG g p (max a b):=by
 rcases Int.le_total a b with q|q
 ·rw[Int.max_eq_right q];exact h2
 ·rw[Int.max_eq_left q];exact h1
theorem LS.ack {g:VG} {i:Int} {s:St} (hg:VI g) (hs:g.S i=some s) (x:LS g i s) (r:ROk s.m s.me s.log s.ba s.com s.hs) {p up:Int} (hu:HG g p up):
  LS g i {s with com:=(fZ s.m s.me s.log s.com s.hs p up).1,hs:=(fZ s.m s.me s.log s.com s.hs p up).2}∧s.com≤(fZ s.m s.me s.log s.com s.hs p up).1:=by
 unfold fZ
 split
 ·rename_i q
  have hH:=x.lg.length_le
  have hk:=fx r p
  have r1:ROk s.m s.me s.log s.ba s.com (cD s.hs p (max (getK s.hs p) up)):=r.put q.2.2.1 (by omega) (by omega)
  have r2:ROk s.m s.me s.log s.ba s.com (cD (cD s.hs p (max (getK s.hs p) up)) s.me (s.log.length:Int)):=r1.put r.me (by omega) (by omega)
  have h1:∀y∈cD (cD s.hs p (max (getK s.hs p) up)) s.me (s.log.length:Int),HG g y.1 y.2:=fun y hy=>by
   rcases lK hy with hy|rfl
   ·rcases lK hy with hy|rfl
    ·exact x.hs y hy
    ·exact(HG.getK x.hs).max hu
   ·exact .inr ⟨s,by rw[x.me];exact hs,Int.le_refl _⟩
  refine⟨⟨x.m,x.me,x.ba,x.b1,x.lg,x.hd,?_,h1,x.sh,x.pa,x.aa,x.vt,x.q⟩,Int.le_max_left _ _⟩
  show CG g (gS s.com s.m _)
  rw[x.m]
  exact My hg.nd hg.ne (by rw[←x.m];exact r2.keys) x.com h1 fun y hy=>by have:=(r2.has y hy).2;omega
 ·exact⟨x,Int.le_refl _⟩
theorem ahC {G:GG} {i p up:Int} {s:St} (hG:GI G) (hs:SS G i s) (hN:0<s.N) (r:ROk s.m s.me s.log s.ba s.com s.hs) (hu:∃g,G s.N=some g∧HG g p up):
  Ac G i s ({s with com:=(fZ s.m s.me s.log s.com s.hs p up).1,hs:=(fZ s.m s.me s.log s.com s.hs p up).2},[]):=by
 obtain⟨_,g,h2,h3⟩:=hs.inn hN
 obtain⟨g',h4,h5⟩:=hu
 rw[h2]at h4;cases h4
 have hv:=(hG.v _ _ h2).2
 have h6:=LS.ack hv h3 (hv.s i s h3) r h5
 refine qX hG hs hN rfl rfl ⟨amj _,Int.le_refl _,Int.le_refl _,fun h=>⟨h,rfl⟩⟩ (fun k k0 k1 k2 k3 k4=> ?_) (fun _ _ _ _ _ _ o ho=>by cases ho) (eT hN hN (List.prefix_refl _) h6.2 r.com1)
 rw[h2]at k0;cases k0
 exact iO k4 h6.1
theorem Ex.qg_own {g h:VG} {i p ro:Int} {v:Pq} (e:Ex g h i) (hP:h.P=g.P) (x:QG g p ro v):QG h p ro v:=by
 refine⟨x.own,x.b0,e.pr x.pr,x.nd,by rw[e.m];exact x.sub,x.ro,fun h0=> ?_,fun h1=>⟨e.P _ _ (x.p1 h1).1,fun y hy=>e.V _ _ ((x.p1 h1).2 y hy)⟩,fun h2=>by rw[e.m];exact x.p2 h2⟩
 obtain⟨h1,h2,h3,h4,h5⟩:=x.p0 h0
 exact⟨by rw[hP];exact h1,fun y hy=>⟨e.pr (h2 y hy).1,e.vl (h2 y hy).1 (h2 y hy).2.1,e.sh (h2 y hy).2.2⟩,by rw[e.base];exact h3.trans e.H,h4,fun w hw=>⟨(h5 w hw).1,e.P _ _ (h5 w hw).2⟩⟩
theorem ahy {G:GG} {i:Int} {s:St} {x:Ke} (hG:GI G) (hs:SS G i s) (si:SI s):Ac G i s (kq s x,[]):=by
 unfold kq
 split
 ·rename_i hN
  obtain⟨_,g,h2,h3⟩:=hs.inn hN
  have hv:=(hG.v _ _ h2).2
  have l:=hv.s i s h3
  have r:=(si.1 hN).1.r
  unfold gT
  split
  ·rename_i q
   obtain⟨q1,q2,q3⟩:=q
   have hd:g.m.head?=some i:=by rw[←l.m,q1,l.me]
   have hH:=l.hd hd
   generalize ht:({s with log:=s.log++[x],com:=gS s.com s.m (cD s.hs s.me ((s.log++[x]).length:Int)),hs:=cD s.hs s.me ((s.log++[x]).length:Int)}:St)=t
   have e:Ex g {g with S:=fun p=>if p=i then some t else g.S p,H:=s.log++[x]} i:=by
    refine⟨rfl,rfl,by show g.H<+:s.log++[x];rw[hH];exact List.prefix_append _ _,fun p hp=>if_neg hp,fun p u hu=> ?_,fun _ _ h=>h,fun _ _=>rfl,fun _ _ h=>h,fun _ _ h1 h2=>absurd h1 h2⟩
    by_cases k:p=i
    ·subst k;rw[h3]at hu;cases hu
     refine⟨t,if_pos rfl,?_⟩
     subst ht
     exact⟨by show _≤(s.log++[x]).length;rw[al2];omega,Int.le_refl _,Int.le_refl _,fun k=>by rw[q2]at k;cases k⟩
    ·exact⟨u,(if_neg k).trans hu,amj _,Int.le_refl _,Int.le_refl _,fun h=>⟨h,rfl⟩⟩
   generalize hh:({g with S:=fun p=>if p=i then some t else g.S p,H:=s.log++[x]}:VG)=h at e
   have k1:h.S i=some t:=by subst hh;exact if_pos rfl
   have k2:h.H=s.log++[x]:=by subst hh;rfl
   have k3:h.P=g.P:=by subst hh;rfl
   have k4:h.V=g.V:=by subst hh;rfl
   have r1:=(r.more (l:=[x]) (by rw[al2,List.length_singleton];omega)).put (v:=((s.log++[x]).length:Int)) r.me (by omega) (by omega)
   have h1:∀y∈cD s.hs s.me ((s.log++[x]).length:Int),HG h y.1 y.2:=fun y hy=>by
    rcases lK hy with hy|rfl
    ·exact e.hg (l.hs y hy)
    ·exact .inr ⟨t,by rw[l.me];exact k1,by subst ht;exact Int.le_refl _⟩
   have hc:CG h t.com:=by
    subst ht
    show CG h (gS s.com s.m _)
    rw[l.m,←e.m]
    exact My (by rw[e.m];exact hv.nd) (by rw[e.m];exact hv.ne) (by rw[e.m,←l.m];exact r1.keys) (e.cg l.com) h1 fun y hy=>by rw[k2];exact(r1.has y hy).2
   have hl:LS h i t:=by
    have hb:h.base<+:s.log++[x]:=by rw[e.base];exact l.b1.trans (List.prefix_append _ _)
    subst ht
    exact⟨by rw[e.m];exact l.m,l.me,by rw[e.base];exact l.ba,hb,by rw[k2];exact List.prefix_refl _,fun _=>k2.symm,hc,h1,l.sh,l.pa,fun k=>⟨by rw[k3];exact(l.aa k).1,by rw[k4];exact(l.aa k).2⟩,fun b hb=>l.vt b (by rw[←k4];exact hb),fun v hv=>e.qg_own k3 (l.q v hv)⟩
   have hvi:VI h:=hv.step e k1 hl (fun k=>absurd (by rw[e.m];exact hd) k) (fun b v m1 m2=>absurd (by rw[←k3];exact m1) m2) (fun b p m1 m2=>absurd (by rw[←k4];exact m1) m2)
   refine vG (N:=s.N) hG hs hN h2 e hvi k1 (by subst ht;rfl) (by subst ht;rfl) (by subst ht;rfl) (fun K hK o ho=>by cases ho) ?_
   subst ht
   exact eT hN hN (List.prefix_append _ _) (Int.le_max_left _ _) r.com1
  ·exact .refl hG hs fun o ho=>by cases ho
 ·exact .refl hG hs fun o ho=>by cases ho
theorem CG.max {g:VG} {a b:Int} (h1:CG g a) (h2:CG g b):CG g (max a b):=by
 rcases Int.le_total a b with q|q
 ·rw[Int.max_eq_right q];exact h2
 ·rw[Int.max_eq_left q];exact h1
theorem Wh {H l log:List Ke} {f:Nat} (h1:H.take f++l<+:H) (h2:log<+:H) (hf:f≤log.length) (hl:log.length - f<l.length):log++l.drop (log.length - f)<+:H:=by
 obtain⟨r,hr⟩:=h1
 have hle:=h2.length_le
 have e1:(H.take f).length=f:=by rw[ami];omega
 have e2:log=H.take f++l.take (log.length - f):=by
  have e3:=List.prefix_iff_eq_take.1 h2
  rw[←hr,amb,List.take_append,e1,List.take_of_length_le (show(H.take f).length≤log.length by omega),List.take_append_of_le_length (by omega)]at e3
  exact e3
 rw[show log++l.drop (log.length - f)=H.take f++l by
  conv=>lhs;lhs;rw[e2]
  rw[amb,List.take_append_drop]]
 exact⟨r,hr⟩
theorem LS.tak {g:VG} {i fr c:Int} {s:St} {l:List Ke} (x:LS g i s) (hf:0≤fr) (hs:g.H.take fr.toNat++l<+:g.H) (hc:CG g c):
  let r:=fV s.m s.me s.log s.ba s.com s.sh fr l c
  LS g i {s with log:=r.1,com:=r.2}∧s.log<+:r.1∧s.com≤r.2∧(s.sh=true→r.1=s.log):=by
 dsimp only
 unfold fV
 split
 ·rename_i q
  obtain⟨q1,q2,q3,q4⟩:=q
  have hd:¬g.m.head?=some i:=fun h=>q1 (by rw[x.m,x.me];exact h)
  split
  ·rename_i k
   have e:((s.log.length:Int) - fr).toNat=s.log.length - fr.toNat:=by omega
   rw[e]
   have h1:=Wh hs x.lg (by omega) (by omega)
   refine⟨⟨x.m,x.me,x.ba,x.b1.trans (List.prefix_append _ _),h1,fun h=>absurd h hd,x.com.max (hc.le (Int.min_le_left _ _)),x.hs,x.sh,x.pa,x.aa,x.vt,x.q⟩,List.prefix_append _ _,Int.le_max_left _ _,fun h=>by rw[k.1]at h;cases h⟩
  ·exact⟨⟨x.m,x.me,x.ba,x.b1,x.lg,fun h=>absurd h hd,x.com.max (hc.le (Int.min_le_left _ _)),x.hs,x.sh,x.pa,x.aa,x.vt,x.q⟩,List.prefix_refl _,Int.le_max_left _ _,fun _=>rfl⟩
 ·exact⟨x,List.prefix_refl _,Int.le_refl _,fun _=>rfl⟩
section
variable {G:GG} {i:Int} {m:Mx}
theorem alv (h:m.k=3) (x:∃g,G m.N=some g∧g.m.head?=some i∧0≤m.fr∧m.fr≤g.H.length∧g.H.take m.fr.toNat++m.l<+:g.H∧CG g m.c):MG G i m:=⟨fun _=>x,fun _=>by omega,fun _=>by omega,fun _=>by omega,fun _=>by omega,fun _=>by omega,by omega⟩
theorem alu (h:m.k=4) (x:∃g,G m.N=some g∧HG g i m.fr):MG G i m:=⟨fun _=>by omega,fun _=>x,fun _=>by omega,fun _=>by omega,fun _=>by omega,fun _=>by omega,by omega⟩
theorem alr (h:m.k=9) (x:∃g,G m.N=some g∧g.P m.b=some (m.ml,m.tl)):MG G i m:=⟨fun _=>by omega,fun _=>by omega,fun _=>x,fun _=>by omega,fun _=>by omega,fun _=>by omega,by omega⟩
theorem als (h:m.k=8) (x:∃g,G m.N=some g∧PR g m.b i∧VL g m.b i m.acc∧SH g i m.l.length∧g.base++m.l<+:g.H∧(m.has=false→m.acc=0)∧(m.has=true→g.P m.acc=some (m.ml,m.tl)∧m.acc≤m.b)):MG G i m:=⟨fun _=>by omega,fun _=>by omega,fun _=>by omega,fun _=>x,fun _=>by omega,fun _=>by omega,by omega⟩
theorem alt (h:m.k=6) (x:∃g,G m.N=some g∧g.V m.b i):MG G i m:=⟨fun _=>by omega,fun _=>by omega,fun _=>by omega,fun _=>by omega,fun _=>x,fun _=>by omega,by omega⟩
theorem HP (h:m.k=10) (x:∃g,G m.vn=some g∧m.vl=g.m∧m.l=g.base):MG G i m:=⟨fun _=>by omega,fun _=>by omega,fun _=>by omega,fun _=>by omega,fun _=>by omega,fun _=>x,by omega⟩
end
theorem mg4 {K:GG} {i N fr:Int} {h:VG} (hK:K N=some h) (hh:HG h i fr):MG K i {aF 4 with N:=N,fr:=fr}:=alu rfl ⟨h,hK,hh⟩
theorem ahB {G:GG} {i fr:Int} {s:St} {m:Mx} (hG:GI G) (hs:SS G i s) (si:SI s) (hm:MG G fr m) (hk:m.k=3):Ac G i s (px s fr m):=by
 unfold px
 split
 ·rename_i hN
  obtain⟨_,g,h2,h3⟩:=hs.inn hN
  have hv:=(hG.v _ _ h2).2
  have l:=hv.s i s h3
  have r:=(si.1 hN).1.r
  unfold eP
  split
  ·rename_i q
   split
   ·exact .refl hG hs fun o ho=>by cases ho
   ·rename_i k
    obtain⟨g',n1,n2,n3,n4,n5,n6⟩:=hm.1 hk
    rw[q,h2]at n1;cases n1
    have h4:=l.tak n3 n5 n6
    refine qX hG hs hN rfl rfl ⟨h4.2.1.length_le,Int.le_refl _,Int.le_refl _,fun h=>⟨h,h4.2.2.2 h⟩⟩ (fun k k0 k1 k2 k3 k4=> ?_) (fun K h hK _ hl hS o ho=> ?_) (eT hN hN h4.2.1 h4.2.2.1 r.com1)
    ·rw[h2]at k0;cases k0
     exact iO k4 h4.1
    ·obtain rfl:=List.mem_singleton.1 ho
     exact mg4 hK (.inr ⟨_,hS,Int.le_refl _⟩)
  ·split
   ·exact .refl hG hs fun o ho=>by cases ho
   ·refine .refl hG hs fun o ho=> ?_
    obtain rfl:=List.mem_singleton.1 ho
    exact mg4 h2 (.inl (by show(0:Int)≤_;omega))
 ·refine .refl hG hs fun o ho=> ?_
  unfold nN at ho
  split at ho
  ·cases ho
  ·obtain rfl:=List.mem_singleton.1 ho
   exact rA (.inr (.inr ⟨.inl rfl,rfl⟩))
theorem LS.split {g:VG} {i:Int} {s:St} (x:LS g i s):g.base++s.log.drop s.ba.toNat=s.log∧s.log.length=g.base.length+(s.log.drop s.ba.toNat).length:=by
 obtain⟨r,hr⟩:=x.b1
 have e:s.log.drop s.ba.toNat=r:=by rw[x.ba,Int.toNat_natCast,←hr,List.drop_left]
 rw[e]
 exact⟨hr,by rw[←hr,al2]⟩
theorem Hb {now b:Int} {s:St}:(iJ now s b).q=s.q∨(iJ now s b).q=none:=by
 unfold iJ fj
 cases s.q with
 |none=>exact .inl rfl
 |some v=>
  dsimp only
  split
  ·exact .inr rfl
  ·exact .inl rfl
theorem aaw {G:GG} {now i fr:Int} {s:St} {m:Mx} (hG:GI G) (hs:SS G i s) (hN:0<s.N) (r:ROk s.m s.me s.log s.ba s.com s.hs) (hk:m.k=5):Ac G i s (cQ now s fr m):=by
 unfold cQ
 split
 ·exact .refl hG hs fun o ho=>by cases ho
 split
 ·refine .refl hG hs fun o ho=> ?_
  obtain rfl:=List.mem_singleton.1 ho
  exact rA (.inr (.inl rfl))
 rename_i q
 have hb:s.prm≤m.b∧¬m.b=0:=⟨by omega,fun h=>q (.inl h)⟩
 refine qX hG hs hN rfl rfl ⟨amj _,hb.1,Int.le_refl _,fun _=>⟨rfl,rfl⟩⟩ (fun g k0 k1 k2 l e=> ?_) (fun K h hK hh hl hS o ho=> ?_) (eT hN hN (List.prefix_refl _) (Int.le_refl _) r.com1)
 ·refine iO e ⟨l.m,l.me,l.ba,l.b1,l.lg,l.hd,l.com,l.hs,fun _=>rfl,Int.le_trans l.pa hb.1,l.aa,l.vt,fun v hv=>l.q v ?_⟩
  rcases Hb (now:=now) (b:=m.b) (s:=mK now {s with prm:=m.b}) with h|h
  ·rw[h]at hv;exact hv
  ·rw[h]at hv;cases hv
 ·obtain rfl:=List.mem_singleton.1 ho
  have hsp:=hl.split
  refine als rfl ⟨h,hK,⟨_,hS,Int.le_refl _⟩,?_,⟨_,hS,rfl,Nat.le_of_eq hsp.2⟩,?_,?_,?_⟩
  ·intro d _ hd
   have h1:d≤s.aa:=hl.vt d hd
   show d≤(cH s.aa s.av).1
   unfold cH
   split
   ·rename_i z;show d≤0;omega
   ·exact h1
  ·show h.base++s.log.drop s.ba.toNat<+:h.H
   rw[show h.base++s.log.drop s.ba.toNat=s.log from hsp.1];exact hl.lg
  ·show(cH s.aa s.av).2.2=false→(cH s.aa s.av).1=0
   unfold cH
   split
   ·exact fun _=>rfl
   ·intro h;cases h
  ·show(cH s.aa s.av).2.2=true→h.P (cH s.aa s.av).1=some ((cH s.aa s.av).2.1.1,(cH s.aa s.av).2.1.2)∧(cH s.aa s.av).1≤m.b
   unfold cH
   split
   ·intro h;cases h
   ·rename_i z
    exact fun _=>⟨(hl.aa z).1,hl.pa⟩
def VG.vote (g:VG) (i b:Int) (t:St):VG:={g with S:=fun p=>if p=i then some t else g.S p,V:=fun d p=>g.V d p∨(d=b∧p=i)}
theorem re {g:VG} {i b:Int} {s t:St} (hs:g.S i=some s) (h:Go1 s t) (hb:s.prm≤b):Ex g (g.vote i b t) i where
 m:=rfl
 base:=rfl
 H:=List.prefix_refl _
 So p hp:=if_neg hp
 S p u hu:=by
  by_cases q:p=i
  ·subst q;rw[hs]at hu;cases hu
   exact⟨t,if_pos rfl,h.l,h.p,h.r,h.h⟩
  ·exact⟨u,(if_neg q).trans hu,amj _,Int.le_refl _,Int.le_refl _,fun h=>⟨h,rfl⟩⟩
 P _ _ h:=h
 Pn _ _:=rfl
 V _ _ h:=.inl h
 Vn d p h1 h2:=by
  rcases h1 with h1|⟨h1,h3⟩
  ·exact absurd h1 h2
  ·refine⟨h3,fun u hu=> ?_⟩
   rw[hs]at hu;cases hu
   omega
theorem EB {g:VG} {i b:Int} {s t:St} {w:Va} (hg:VI g) (hs:g.S i=some s) (h:Go1 s t) (hb:s.prm≤b) (hw:g.P b=some w)
  (hl:LS (g.vote i b t) i t):VI (g.vote i b t):=by
 refine hg.step (re hs h hb) (if_pos rfl) hl (fun _=>rfl) (fun d v h1 h2=>absurd h1 h2) (fun d p h1 h2=> ?_)
 rcases h1 with h1|⟨rfl,_⟩
 ·exact absurd h1 h2
 ·exact⟨(hg.p _ _ hw).1,w,hw⟩
theorem EC {g:VG} {i b:Int} {s t:St} {w:Va} (hs:g.S i=some s) (x:LS g i s) (h:Go1 s t) (hb:s.prm≤b) (hw:g.P b=some w) (h0:0<b)
  (e:t.m=s.m∧t.me=s.me∧t.ba=s.ba∧t.log=s.log∧t.com=s.com∧t.hs=s.hs∧t.sh=true∧t.prm=b∧t.aa=b∧t.av=w)
  (hq:∀v,t.q=some v→QG (g.vote i b t) i t.ro v):LS (g.vote i b t) i t:=by
 obtain⟨e1,e2,e3,e4,e5,e6,e7,e8,e9,e10⟩:=e
 have ex:=re (t:=t) hs h hb
 have ha:=x.pa
 refine⟨e1.trans x.m,e2.trans x.me,e3.trans x.ba,by rw[e4];exact x.b1,by rw[e4];exact x.lg,fun k=>e4.trans (x.hd k),by rw[e5];exact ex.cg x.com,by rw[e6];exact fun y hy=>ex.hg (x.hs y hy),fun _=>e7,by omega,fun _=>⟨by rw[e9,e10];exact hw,by rw[e9];exact .inr ⟨rfl,rfl⟩⟩,fun d hd=> ?_,hq⟩
 rcases hd with hd|⟨hd,_⟩
 ·have:=x.vt d hd;omega
 ·omega
theorem aav {G:GG} {now i fr:Int} {s:St} {m:Mx} (hG:GI G) (hs:SS G i s) (hN:0<s.N) (r:ROk s.m s.me s.log s.ba s.com s.hs) (hk:m.k=9) (hm:MG G fr m) (hn:m.N=s.N):Ac G i s (cQ now s fr m):=by
 unfold cQ
 split
 ·exact .refl hG hs fun o ho=>by cases ho
 split
 ·refine .refl hG hs fun o ho=> ?_
  obtain rfl:=List.mem_singleton.1 ho
  exact rA (.inr (.inl rfl))
 rename_i q
 rw[if_neg (show¬m.k=5 by omega),if_neg (show¬m.k=5 by omega)]
 have hb:s.prm≤m.b∧¬m.b=0:=⟨by omega,fun h=>q (.inl h)⟩
 obtain⟨_,g,h2,h3⟩:=hs.inn hN
 obtain⟨g',n1,n2⟩:=hm.2.2.1 hk
 rw[hn,h2]at n1;cases n1
 have hv:=(hG.v _ _ h2).2
 have l:=hv.s i s h3
 generalize ht:iJ now (mK now {s with prm:=m.b,aa:=m.b,av:=(m.ml,m.tl)}) m.b=t
 have hgo:Go1 s t:=by subst ht;exact⟨amj _,hb.1,Int.le_refl _,fun _=>⟨rfl,rfl⟩⟩
 have ex:=re h3 hgo hb.1
 have hl:LS (g.vote i m.b t) i t:=by
  refine EC h3 l hgo hb.1 n2 (hv.p _ _ n2).1 (by subst ht;exact⟨rfl,rfl,rfl,rfl,rfl,rfl,rfl,rfl,rfl,rfl⟩) fun v hq=> ?_
  have e1:t.q=s.q∨t.q=none:=by subst ht;exact Hb
  rcases e1 with e1|e1
  ·rw[e1]at hq
   have e2:t.ro=s.ro:=by subst ht;rfl
   rw[e2]
   exact ex.qg_own rfl (l.q v hq)
  ·rw[e1]at hq;cases hq
 refine vG (N:=s.N) hG hs hN h2 ex (EB hv h3 hgo hb.1 n2 hl) (if_pos rfl) (by subst ht;rfl) (by subst ht;rfl) (by subst ht;rfl) (fun K hK o ho=> ?_) (by subst ht;exact eT hN hN (List.prefix_refl _) (Int.le_refl _) r.com1)
 obtain rfl:=List.mem_singleton.1 ho
 exact alt rfl ⟨_,hK,.inr ⟨rfl,rfl⟩⟩
theorem Rd {s:St} (h:¬0<s.N):cG s=s.was.take s.wc.toNat:=by
 unfold cG bU cL
 rw[if_neg h,if_neg h]
theorem Di {G:GG} {now i N:Int} {s:St} {g:VG} (hG:GI G) (hs:SS G i s) (si:0<s.N→ROk s.m s.me s.log s.ba s.com s.hs) (hN:s.se<N) (hg:G N=some g):Ac G i s (bM now s N g.m g.base,[]):=by
 have hgood:=hs.good hG si
 have hv:=(hG.v _ _ hg).2
 have h0:=(hG.v _ _ hg).1
 have hnone:=hs.nw N g hN hg
 unfold bM
 split
 ·rename_i hm
  generalize ht:({s with N:=N,m:=g.m,log:=g.base,ba:=g.base.length,com:=g.base.length,sh:=false,hs:=g.m.map fun y=>(y,(g.base.length:Int)),prm:=0,aa:=0,av:=([],[]),q:=none,sa:=0,se:=N,su:=s.su.filter fun x=>decide (x∈g.m),go:=s.go.filter fun x=>decide (x∈g.m),jo:=s.jo.filter fun x=>decide (¬x∈g.m),wa:=false,tr:=now+2}:St)=t
  have e:Ex g (g.put i t) i:=by
   refine⟨rfl,rfl,List.prefix_refl _,fun p hp=>if_neg hp,fun p u hu=> ?_,fun _ _ h=>h,fun _ _=>rfl,fun _ _ h=>h,fun _ _ h1 h2=>absurd h1 h2⟩
   have q:¬p=i:=fun q=>by rw[q,hnone]at hu;cases hu
   exact⟨u,(if_neg q).trans hu,amj _,Int.le_refl _,Int.le_refl _,fun h=>⟨h,rfl⟩⟩
  have hc:CG (g.put i t) g.base.length:=⟨by have:=hv.hb.length_le;show((g.base.length:Nat):Int)≤(g.H.length:Int);omega,g.m,JY hv.nd hv.ne,fun p _=>.inl (Int.le_refl _)⟩
  have hl:LS (g.put i t) i t:=by
   subst ht
   refine⟨rfl,hs.me,rfl,List.prefix_refl _,hv.hb,fun k=>(hv.h0 i k hnone).symm,hc,fun y hy=> ?_,fun k=>absurd rfl k,Int.le_refl _,fun k=>absurd rfl k,fun b hb=> ?_,fun v hq=>by cases hq⟩
   ·obtain⟨z,_,rfl⟩:=List.mem_map.1 hy
    exact .inl (Int.le_refl _)
   ·obtain⟨_,_,u,hu⟩:=hv.v b i hb
    rw[hnone]at hu;cases hu
  have hvi:VI (g.put i t):=hv.step e dF hl (fun _=>rfl) (fun b v h1 h2=>absurd h1 h2) (fun b p h1 h2=>absurd h1 h2)
  obtain⟨h1,h2⟩:=hG.upd hg e hvi
  have t1:t.N=N:=by subst ht;rfl
  have t2:t.se=N:=by subst ht;rfl
  refine⟨_,h2,h1,⟨by subst ht;exact hs.me,fun _=>⟨t2.trans t1.symm,_,by rw[t1];exact eU,dF⟩,fun M k hM hk=> ?_,fun q=>absurd h0 (by rw[←t1];exact q)⟩,fun o ho=>(by cases ho),?_⟩
  ·rw[t2]at hM
   rw[ec (by omega)]at hk
   exact hs.nw M k (by omega) hk
  ·have e2:cG t=g.base:=by
    unfold cG bU cL
    rw[if_pos (by rw[t1];exact h0),if_pos (by rw[t1];exact h0)]
    subst ht
    show g.base.take ((g.base.length:Int)).toNat=g.base
    rw[Int.toNat_natCast,List.take_length]
   rw[e2]
   exact hgood.base hG hN hg
 ·have e2:(if 0<s.N then s.log else s.was).take (if 0<s.N then s.com else s.wc).toNat=cG s:=rfl
  refine⟨G,.refl G i,hG,⟨hs.me,fun q=>absurd q (by show¬(0:Int)<0;omega),fun M k hM hk=>hs.nw M k (by have hM:N<M:=hM;omega) hk,fun _=> ?_⟩,fun o ho=>(by cases ho),?_⟩
  ·show Good G N ((if 0<s.N then s.log else s.was).take (if 0<s.N then s.com else s.wc).toNat)∧0≤(if 0<s.N then s.com else s.wc)∧(if 0<s.N then s.com else s.wc)≤(if 0<s.N then s.log else s.was).length
   rw[e2]
   refine⟨hgood.le (by omega),?_⟩
   by_cases q:0<s.N
   ·rw[if_pos q,if_pos q];exact⟨(si q).com0,(si q).com1⟩
   ·rw[if_neg q,if_neg q];exact(hs.out q).2
  ·have e3:∀t:St,¬0<t.N→t.was.take t.wc.toNat=cG s→cG s<+:cG t:=fun t h1 h2=>by rw[Rd h1,h2];exact List.prefix_refl _
   exact e3 _ (by show¬(0:Int)<0;omega) e2
theorem jl {me:Int} {m:Mx} {l:List Int} {o:Int×Mx} (h:o∈cB me m l):o.2=m:=by
 unfold cB at h
 obtain⟨p,_,rfl⟩:=List.mem_map.1 h
 rfl
theorem Kl {G:GG} {N i:Int} {g:VG} {v:Va} {s:St} (hG:GI G) (hs:SS G i s) (hN:s.N=N) (h0:0<N) (hg:G N=some g) (hd:DG g v):
  ∃K h,GE G K i∧GI K∧SS K i s∧K (N+1)=some h∧h.m=v.1∧h.base=g.base++v.2:=by
 cases e:G (N+1) with
 |some h=>
  obtain⟨g',t,h1,h2,h3⟩:=hG.l N h h0 e
  rw[hg]at h1;cases h1
  have:=(hG.v _ _ hg).2.dec hd h2
  subst this
  exact⟨G,h,.refl G i,hG,hs,e,rfl,h3⟩
 |none=>
  have hv:=(hG.v _ _ hg).2
  obtain⟨b,Q,hb,_,_⟩:=id hd
  have hn:=hv.pn b v hb
  refine⟨Ai G (N+1) ⟨v.1,g.base++v.2,g.base++v.2,fun _=>none,fun _=>none,fun _ _=>False⟩,_,⟨fun M k hk=>⟨k,?_,.refl k i⟩,fun M k hk hn p hp=> ?_⟩,⟨fun M k hk=> ?_,fun M k hM hk=> ?_⟩,⟨hs.me,fun hN'=> ?_,fun M k hM hk=> ?_,fun hN'=> ?_⟩,eU,rfl,rfl⟩
  ·rw[ec (fun q=>by rw[q,e]at hk;cases hk)];exact hk
  ·by_cases q:M=N+1
   ·rw[q,eU]at hk;cases hk;rfl
   ·rw[ec q,hn]at hk;cases hk
  ·by_cases q:M=N+1
   ·rw[q,eU]at hk;cases hk
    exact⟨by omega,hn.1,hn.2,List.prefix_refl _,(fun b v h=>by cases h),(fun b p h=>h.elim),(fun b v h=>by cases h),(fun _ _ _=>rfl),(fun p s h=>by cases h)⟩
   ·rw[ec q]at hk;exact hG.v M k hk
  ·by_cases q:M+1=N+1
   ·rw[q,eU]at hk;cases hk
    have q2:M=N:=by omega
    subst q2
    exact⟨g,v.2,by rw[ec (by omega)];exact hg,hd,rfl⟩
   ·rw[ec q]at hk
    obtain⟨g',t,h1,h2,h3⟩:=hG.l M k hM hk
    refine⟨g',t,?_,h2,h3⟩
    rw[ec (fun q=>by rw[q,e]at h1;cases h1)];exact h1
  ·obtain⟨h1,g',h2,h3⟩:=hs.inn hN'
   exact⟨h1,g',by rw[ec (by omega)];exact h2,h3⟩
  ·by_cases q:M=N+1
   ·rw[q,eU]at hk;cases hk;rfl
   ·rw[ec q]at hk;exact hs.nw M k hM hk
  ·exact absurd (by omega) hN'
theorem MS {G:GG} {now i:Int} {s:St} {v:Pq} {g:VG} (hG:GI G) (hs:SS G i s) (r:ROk s.m s.me s.log s.ba s.com s.hs) (hN:0<s.N) (hg:G s.N=some g) (h3:g.S i=some s) (hp:g.P v.b=some v.ch) (hq:Qu g.m v.gt) (hv:∀x∈v.gt,g.V v.b x):Ac G i s (gR now s v):=by
 obtain⟨K,h,k1,k2,k3,k4,k5,k6⟩:=Kl hG hs rfl hN hg ⟨v.b,v.gt,hp,hq,hv⟩
 have l:=(hG.v _ _ hg).2.s i s h3
 have e:s.log.take s.ba.toNat=g.base:=by
  obtain⟨r,hr⟩:=l.b1
  rw[l.ba,Int.toNat_natCast,←hr,List.take_left]
 obtain⟨L,l1,l2,l3,_,l5⟩:=Di (now:=now) k2 k3 (fun _=>r) (by have:=(hs.inn hN).1;omega) k4
 refine⟨L,k1.trans l1,l2,?_,fun o ho=> ?_,?_⟩
 ·unfold gR
  rw[e,←k5,←k6];exact l3
 ·have ho':o.2={aF 10 with vn:=s.N+1,vl:=v.ch.1,l:=s.log.take s.ba.toNat++v.ch.2}:=(List.mem_append.1 ho).elim jl jl
  rw[ho']
  exact l1.mg (HP rfl ⟨h,k4,k5.symm,by rw[e];exact k6.symm⟩)
 ·unfold gR
  rw[e,←k5,←k6];exact l5
def VG.prop (g:VG) (b:Int) (c:Va):VG:={g with P:=fun d=>if d=b then some c else g.P d}
theorem Wr {g:VG} {i b:Int} {c:Va} (hb:g.P b=none) (ho:b % 256=i):Ex g (g.prop b c) i where
 m:=rfl
 base:=rfl
 H:=List.prefix_refl _
 So p hp:=rfl
 S p u hu:=⟨u,hu,amj _,Int.le_refl _,Int.le_refl _,fun h=>⟨h,rfl⟩⟩
 P d v h:=(if_neg (fun q=>by rw[q,hb]at h;cases h)).trans h
 Pn d hd:=if_neg fun q=>hd (by rw[q];exact ho)
 V _ _ h:=h
 Vn _ _ h1 h2:=absurd h1 h2
theorem Wq {g:VG} {i ro:Int} {v:Pq} {w:List Int} (hg:VI g) (x:QG g i ro v) (h0:v.ph=0) (hm:(g.m.length:Int) / 2+1≤(v.gt.length:Int)):SG g v.b (dj v.held w v.qt):=by
 obtain⟨h1,h2,h3,h4,h5⟩:=x.p0 h0
 have hq:Qu g.m v.gt:=⟨x.nd,x.sub,by omega⟩
 cases e:v.held with
 |none=>exact⟨⟨v.gt,v.best,hq,fun p hp=>⟨(h2 p hp).1,(h2 p hp).2.1⟩,.inl (h4 e)⟩,⟨v.gt,hq,fun p hp=>(h2 p hp).2.2⟩,h3⟩
 |some u=>
  obtain⟨k1,k2⟩:=h5 u e
  exact⟨⟨v.gt,v.best,hq,fun p hp=>⟨(h2 p hp).1,(h2 p hp).2.1⟩,.inr ⟨k1,k2⟩⟩,(hg.p _ _ k2).2.1.l⟩
theorem Wp {g:VG} {i:Int} {s:St} {v:Pq} {w:List Int} (hg:VI g) (hs:g.S i=some s) (hq:s.q=none) (x:QG g i s.ro v) (h0:v.ph=0) (hm:(g.m.length:Int) / 2+1≤(v.gt.length:Int)) (hw:w.Nodup∧¬w=[]):
  VI (g.prop v.b (dj v.held w v.qt))∧Ex g (g.prop v.b (dj v.held w v.qt)) i∧LS (g.prop v.b (dj v.held w v.qt)) i s:=by
 have e:=Wr (c:=dj v.held w v.qt) (x.p0 h0).1 x.own
 have l:=hg.s i s hs
 have hl:LS (g.prop v.b (dj v.held w v.qt)) i s:=⟨l.m,l.me,l.ba,l.b1,l.lg,l.hd,e.cg l.com,fun y hy=>e.hg (l.hs y hy),l.sh,l.pa,fun k=>⟨e.P _ _ (l.aa k).1,(l.aa k).2⟩,l.vt,fun v hv=>by rw[hq]at hv;cases hv⟩
 refine⟨hg.step e hs hl (fun _=>rfl) (fun b u h1 h2=> ?_) (fun b p h1 h2=>absurd h1 h2),e,hl⟩
 by_cases q:b=v.b
 ·subst q
  have h3:(if v.b=v.b then some (dj v.held w v.qt) else g.P v.b)=some u:=h1
  rw[if_pos rfl]at h3
  obtain rfl:=amp h3
  refine⟨x.b0,e.sg (Wq hg x h0 hm),x.own,x.ro,?_⟩
  cases e2:v.held with
  |none=>exact hw
  |some u=>exact hg.pn _ _ ((x.p0 h0).2.2.2.2 u e2).2
 ·exact absurd ((if_neg q).symm.trans h1) h2
theorem zV {K:GG} {i N me:Int} {m:List Int} {v:Pq} {h:VG} (hK:K N=some h) (hv:v.ph=1→h.P v.b=some v.ch):∀o∈eu N me m v,MG K i o.2:=by
 intro o ho
 unfold eu at ho
 rw[jl ho]
 split
 ·rename_i q;exact alr rfl ⟨h,hK,hv q⟩
 ·exact rA (.inl rfl)
theorem rj {G:GG} {N i:Int} {g h:VG} {s t:St} (hG:GI G) (hs:SS G i s) (hN:0<s.N) (hg:G s.N=some g) (e:Ex g h i) (hh:VI h) (ht:h.S i=some t)
  (t1:t.N=s.N) (t2:t.se=s.se) (t3:t.me=s.me):∃K,GE G K i∧GI K∧SS K i t∧K t.N=some h:=by
 obtain⟨h1,h2⟩:=hG.upd hg e hh
 refine⟨_,h2,h1,⟨t3.trans hs.me,fun _=>⟨t2.trans ((hs.inn hN).1.trans t1.symm),h,by rw[t1];exact eU,ht⟩,fun M k hM hk=> ?_,fun q=>absurd hN (by rw[←t1];exact q)⟩,by rw[t1];exact eU⟩
 have h3:=(hs.inn hN).1
 rw[t2]at hM
 rw[ec (by omega)]at hk
 exact hs.nw M k hM hk
theorem alT {G:GG} {i:Int} {s:St} {v:Pq} {os:List (Int×Mx)} (hG:GI G) (hs:SS G i s) (hN:0<s.N) (r:ROk s.m s.me s.log s.ba s.com s.hs)
  (hv:∀g,G s.N=some g→g.S i=some s→QG g i s.ro v) (ho:∀K h,K s.N=some h→QG h i s.ro v→∀o∈os,MG K i o.2):Ac G i s ({s with q:=some v},os):=
 qX hG hs hN rfl rfl ⟨amj _,Int.le_refl _,Int.le_refl _,fun h=>⟨h,rfl⟩⟩
  (fun g k0 k1 k2 l e=>iO e ⟨l.m,l.me,l.ba,l.b1,l.lg,l.hd,l.com,l.hs,l.sh,l.pa,l.aa,l.vt,fun u hu=>by cases hu;exact hv g k0 k2⟩)
  (fun K h hK _ hl _=>ho K h hK (hl.q v rfl)) (eT hN hN (List.prefix_refl _) (Int.le_refl _) r.com1)
theorem Rv {m:List Int} {me:Int} (hm:me∈m):(dc m 1 [] me).2=[me]∧((dc m 1 [] me).1=1∨((dc m 1 [] me).1=2∧(m.length:Int) / 2+1≤1)):=by
 have e:eO m 1 [] me 1=[me]:=by
  unfold eO
  rw[if_pos ⟨rfl,hm,by simp⟩];rfl
 unfold dc
 rw[e]
 refine⟨rfl,?_⟩
 split
 ·rename_i q;exact .inr ⟨rfl,by have:=q.2;simp only[List.length_singleton]at this;omega⟩
 ·exact .inl rfl
theorem Js {G:GG} {now i:Int} {s:St} {v:Pq} (hG:GI G) (hs:SS G i s) (hN:0<s.N) (r:ROk s.m s.me s.log s.ba s.com s.hs) (hq:s.q=none)
  (hv:∀g,G s.N=some g→g.S i=some s→QG g i s.ro v) (hw:(bK s.m s.su s.jo s.go).Nodup∧¬bK s.m s.su s.jo s.go=[]):Ac G i s (dw now s v):=by
 obtain⟨_,g,h2,h3⟩:=hs.inn hN
 have hvi:=(hG.v _ _ h2).2
 have l:=hvi.s i s h3
 have x:=hv g h2 h3
 unfold dw
 split
 ·rename_i q
  obtain⟨h0,hm⟩:=q
  obtain⟨v1,e1,l1⟩:=Wp hvi h3 hq x h0 (by rw[←l.m];exact hm) hw
  generalize hc:dj v.held (bK s.m s.su s.jo s.go) v.qt=c at v1 e1 l1 ⊢
  generalize hg1:g.prop v.b c=g1 at v1 e1 l1
  have p1:g1.P v.b=some c:=by subst hg1;exact if_pos rfl
  have s1:g1.S i=some s:=by subst hg1;exact h3
  have m1:g1.m=s.m:=e1.m.trans l.m.symm
  have pr:v.b≤s.prm:=by
   obtain⟨u,hu,hb⟩:=x.pr
   rw[h3]at hu;cases hu;exact hb
  have b0:=x.b0
  dsimp only
  split
  ·rename_i k
   have hb:s.prm=v.b:=by omega
   have hsh:s.sh=true:=l.sh (by omega)
   obtain⟨a1,a2⟩:=Rv r.me
   have key:∀t:St,t.m=s.m∧t.me=s.me∧t.ba=s.ba∧t.log=s.log∧t.com=s.com∧t.hs=s.hs∧t.sh=true∧t.prm=v.b∧t.aa=v.b∧t.av=c→t.ro=s.ro→
     (∀u,t.q=some u→u.b=v.b∧u.ch=c∧u.ph=1∧u.gt=[s.me])→Go1 s t∧VI (g1.vote i v.b t)∧Ex g (g1.vote i v.b t) i:=fun t ht hro hu=>by
    have hgo:Go1 s t:=⟨by rw[ht.2.2.2.1];exact amj _,by rw[ht.2.2.2.2.2.2.2.1];omega,by rw[hro];exact Int.le_refl _,fun _=>⟨ht.2.2.2.2.2.2.1,ht.2.2.2.1⟩⟩
    have e2:=re s1 hgo k.2
    refine⟨hgo,EB v1 s1 hgo k.2 p1 (EC s1 l1 hgo k.2 p1 b0 ht fun u hq'=> ?_),e1.trans e2⟩
    obtain⟨u1,u2,u3,u4⟩:=hu u hq'
    refine⟨by rw[u1];exact x.own,by rw[u1];exact b0,by rw[u1];exact(e1.trans e2).pr x.pr,by rw[u4];simp,fun y hy=> ?_,by rw[u1,hro];exact x.ro,fun z=>absurd z (by omega),fun _=>⟨by rw[u1,u2];exact p1,fun y hy=> ?_⟩,fun z=>absurd z (by omega)⟩
    ·rw[u4]at hy
     rw[List.mem_singleton.1 hy]
     show s.me∈g1.m
     rw[m1];exact r.me
    ·rw[u4]at hy
     exact .inr ⟨u1,by rw[List.mem_singleton.1 hy];exact l.me⟩
   rcases a2 with a2|⟨a2,a3⟩
   ·rw[if_pos a2]
    obtain⟨_,k1,k2⟩:=key {s with prm:=v.b,aa:=v.b,av:=c,q:=some {v with ph:=(dc s.m 1 [] s.me).1,gt:=(dc s.m 1 [] s.me).2,ch:=c}} ⟨rfl,rfl,rfl,rfl,rfl,rfl,hsh,rfl,rfl,rfl⟩ rfl fun u hu=>by
     cases hu;exact⟨rfl,rfl,a2,a1⟩
    exact vG (N:=s.N) hG hs hN h2 k2 k1 (if_pos rfl) rfl rfl rfl (fun K hK=>zV hK fun _=>p1) (eT hN hN (List.prefix_refl _) (Int.le_refl _) r.com1)
   ·rw[if_neg (show¬(dc s.m 1 [] s.me).1=1 by omega),if_pos a2]
    obtain⟨_,k1,k2⟩:=key {s with prm:=v.b,aa:=v.b,av:=c} ⟨rfl,rfl,rfl,rfl,rfl,rfl,hsh,rfl,rfl,rfl⟩ rfl fun u hu=>by
     rw[show({s with prm:=v.b,aa:=v.b,av:=c}:St).q=s.q from rfl,hq]at hu;cases hu
    obtain⟨K,n1,n2,n3,n4⟩:=rj (N:=s.N) hG hs hN h2 k2 k1 (if_pos rfl) rfl rfl rfl
    obtain⟨L,o1,o2,o3,o4,o5⟩:=MS (now:=now) (v:={v with ph:=(dc s.m 1 [] s.me).1,gt:=(dc s.m 1 [] s.me).2,ch:=c}) n2 n3 r hN n4 (if_pos rfl) p1 ⟨by rw[a1];simp,fun y hy=>by
     rw[a1]at hy
     rw[List.mem_singleton.1 hy]
     show s.me∈g1.m
     rw[m1];exact r.me,by
     rw[a1]
     show g1.m.length / 2+1≤1
     rw[m1];omega⟩ fun y hy=>by
      rw[a1]at hy
      exact .inr ⟨rfl,by rw[List.mem_singleton.1 hy];exact l.me⟩
    exact⟨L,n1.trans o1,o2,o3,o4,(eT (t:={s with prm:=v.b,aa:=v.b,av:=c}) hN hN (List.prefix_refl _) (Int.le_refl _) r.com1).trans o5⟩
  ·rw[if_pos rfl]
   refine vG (N:=s.N) (h:=g1.put i {s with q:=some {v with ph:=1,gt:=[],ch:=c}}) hG hs hN h2 (e1.trans (lJ s1 ⟨amj _,Int.le_refl _,Int.le_refl _,fun h=>⟨h,rfl⟩⟩)) ?_ dF rfl rfl rfl ?_ (eT hN hN (List.prefix_refl _) (Int.le_refl _) r.com1)
   ·have e2:=lJ (t:={s with q:=some {v with ph:=1,gt:=[],ch:=c}}) s1 ⟨amj _,Int.le_refl _,Int.le_refl _,fun h=>⟨h,rfl⟩⟩
    refine pX v1 s1 ⟨amj _,Int.le_refl _,Int.le_refl _,fun h=>⟨h,rfl⟩⟩ (iO e2 ⟨l1.m,l1.me,l1.ba,l1.b1,l1.lg,l1.hd,l1.com,l1.hs,l1.sh,l1.pa,l1.aa,l1.vt,fun u hu=> ?_⟩)
    cases hu
    exact⟨x.own,b0,e1.pr x.pr,List.nodup_nil,(fun y hy=>by cases hy),x.ro,(fun z=>absurd z (by show¬(1:Int)=0;omega)),(fun _=>⟨p1,fun y hy=>by cases hy⟩),(fun z=>absurd z (by show¬(1:Int)=2;omega))⟩
   ·exact fun K hK=>zV hK fun _=>p1
 ·split
  ·rename_i k
   have k0:¬v.ph=0:=by omega
   exact MS hG hs r hN h2 h3 (x.p1 k0).1 (x.p2 k) (x.p1 k0).2
  ·exact alT hG hs hN r hv fun _ _ _ _ o ho=>by cases ho
theorem VL.le {g:VG} {b p a c:Int} (h:VL g b p a) (hc:a≤c):VL g b p c:=fun d h1 h2=>by have:=h d h1 h2;omega
theorem SH.le {g:VG} {p:Int} {n k:Nat} (h:SH g p n) (hk:n≤k):SH g p k:=by
 obtain⟨s,h1,h2,h3⟩:=h
 exact⟨s,h1,h2,by omega⟩
theorem ahu {g:VG} {i ro x:Int} {s:St} {v:Pq} (hm:s.m=g.m) (q:QG g i ro v) (hv:g.V v.b x):QG g i ro (py s v x):=by
 unfold py dc eO
 by_cases h:v.ph=1∧x∈s.m∧¬x∈v.gt
 ·have hn:(v.gt++[x]).Nodup:=List.nodup_append.2 ⟨q.nd,by simp,fun a ha b hb e=>h.2.2 (by rw[←List.mem_singleton.1 hb,←e];exact ha)⟩
  have hs:∀y∈v.gt++[x],y∈g.m:=fun y hy=>(List.mem_append.1 hy).elim (q.sub y) fun k=>by rw[List.mem_singleton.1 k,←hm];exact h.2.1
  have hV:∀y∈v.gt++[x],g.V v.b y:=fun y hy=>(List.mem_append.1 hy).elim ((q.p1 (by omega)).2 y) fun k=>by rw[List.mem_singleton.1 k];exact hv
  rw[if_pos h]
  refine⟨q.own,q.b0,q.pr,hn,hs,q.ro,fun z=> ?_,fun _=>⟨(q.p1 (by omega)).1,hV⟩,fun z=>⟨hn,hs,?_⟩⟩
  ·dsimp only at z
   split at z<;>omega
  ·dsimp only at z ⊢
   split at z
   ·rename_i k
    have:=k.2
    rw[hm]at this
    omega
   ·omega
 ·rw[if_neg h,if_neg (fun k=>h k.1)]
  exact q
theorem Kb {g:VG} {i ro x acc:Int} {s:St} {v:Pq} {l:List Ke} {u:Va} {has:Bool} (hg:VI g) (hm:s.m=g.m) (q:QG g i ro v)
  (h1:PR g v.b x) (h2:VL g v.b x acc) (h3:SH g x l.length) (h4:g.base++l<+:g.H) (h5:has=false→acc=0) (h6:has=true→g.P acc=some u∧acc≤v.b):QG g i ro (kr s v x l acc u has):=by
 unfold kr ks
 by_cases h:v.ph=0∧x∈s.m∧¬x∈v.gt
 ·obtain⟨k1,k2,k3,k4,k5⟩:=q.p0 h.1
  have b0:0≤v.best:=by
   cases e:v.held with
   |none=>rw[k4 e];exact Int.le_refl _
   |some w=>have:=(hg.p _ _ (k5 w e).2).1;omega
  have ha:has=true→0<acc∧acc<v.b:=fun z=>by
   have z1:=(hg.p _ _ (h6 z).1).1
   have z2:=(h6 z).2
   have z3:¬acc=v.b:=fun e=>by have:=(h6 z).1;rw[e,k1]at this;cases this
   omega
  rw[if_pos h]
  dsimp only
  refine⟨q.own,q.b0,q.pr,List.nodup_append.2 ⟨q.nd,by simp,fun a ha b hb e=>h.2.2 (by rw[←List.mem_singleton.1 hb,←e];exact ha)⟩,fun y hy=>(List.mem_append.1 hy).elim (q.sub y) fun k=>by rw[List.mem_singleton.1 k,←hm];exact h.2.1,q.ro,
   fun _=>⟨k1,fun y hy=> ?_,?_,?_,?_⟩,fun z=>absurd h.1 z,fun z=>by have z:v.ph=2:=z;omega⟩
  ·have hl:v.qt.length≤(if v.qt.length<l.length then l else v.qt).length∧l.length≤(if v.qt.length<l.length then l else v.qt).length:=by split<;>omega
   have hb:v.best≤(if has=true∧(v.held=none∨v.best<acc) then acc else v.best)∧acc≤(if has=true∧(v.held=none∨v.best<acc) then acc else v.best):=by
    split
    ·rename_i z
     have:=ha z.1
     rcases z.2 with z2|z2
     ·have:=k4 z2;omega
     ·omega
    ·rename_i z
     cases e:has with
     |false=>have:=h5 e;omega
     |true=>
      refine⟨Int.le_refl _,?_⟩
      by_cases z3:v.best<acc
      ·exact absurd ⟨e,.inr z3⟩ z
      ·omega
   rcases List.mem_append.1 hy with hy|hy
   ·exact⟨(k2 y hy).1,(k2 y hy).2.1.le hb.1,(k2 y hy).2.2.le hl.1⟩
   ·rw[List.mem_singleton.1 hy]
    exact⟨h1,h2.le hb.2,h3.le hl.2⟩
  ·show g.base++(if v.qt.length<l.length then l else v.qt)<+:g.H
   split
   ·exact h4
   ·exact k3
  ·show(if has=true∧(v.held=none∨v.best<acc) then some u else v.held)=none→(if has=true∧(v.held=none∨v.best<acc) then acc else v.best)=0
   split
   ·intro z;cases z
   ·exact k4
  ·show∀w,(if has=true∧(v.held=none∨v.best<acc) then some u else v.held)=some w→(if has=true∧(v.held=none∨v.best<acc) then acc else v.best)<v.b∧g.P (if has=true∧(v.held=none∨v.best<acc) then acc else v.best)=some w
   split
   ·rename_i z
    intro w hw;cases hw
    exact⟨(ha z.1).2,(h6 z.1).1⟩
   ·exact k5
 ·rw[if_neg h]
  exact q
theorem ahz {G:GG} {now i fr:Int} {s:St} {m:Mx} (hG:GI G) (hs:SS G i s) (hN:0<s.N) (r:ROk s.m s.me s.log s.ba s.com s.hs) (hw:(bK s.m s.su s.jo s.go).Nodup∧¬bK s.m s.su s.jo s.go=[])
  (hm:MG G fr m) (hn:m.N=s.N) (h3:¬m.k=3) (h10:¬m.k=10):Ac G i s (gA now s fr m):=by
 obtain⟨_,g,g1,g2⟩:=hs.inn hN
 have hv:=(hG.v _ _ g1).2
 have l:=hv.s i s g2
 have hk:=hm.2.2.2.2.2.2
 unfold gA
 split
 ·rename_i q
  exact ahC hG hs hN r (by rw[←hn];exact hm.2.1 q)
 split
 ·rename_i q
  rcases q with q|q
  ·exact aaw hG hs hN r q
  ·exact aav hG hs hN r q hm hn
 split
 ·exact .refl hG hs fun o ho=>by cases ho
 rename_i v hq
 have x:=l.q v hq
 split
 ·exact rM hG hs ⟨rfl,rfl,rfl,rfl,rfl,rfl,rfl,rfl,rfl,rfl,rfl,rfl,Hb,Int.le_refl _,rfl,rfl⟩ (fun _ _ _ _ _ _ _ o ho=>by cases ho) (fun _ o ho=>by cases ho)
 split
 ·exact .refl hG hs fun o ho=>by cases ho
 rename_i hb
 have hb:m.b=v.b:=Decidable.of_not_not hb
 have go:Go1 s {s with q:=none}:=⟨amj _,Int.le_refl _,Int.le_refl _,fun h=>⟨h,rfl⟩⟩
 have e:=lJ (t:={s with q:=none}) g2 go
 have l0:LS g i {s with q:=none}:=⟨l.m,l.me,l.ba,l.b1,l.lg,l.hd,l.com,l.hs,l.sh,l.pa,l.aa,l.vt,fun u hu=>by cases hu⟩
 have v1:=pX hv g2 go (iO e l0)
 obtain⟨K,k1,k2,k3,k4⟩:=rj (N:=s.N) hG hs hN g1 e v1 dF rfl rfl rfl
 have k4:K s.N=some (g.put i {s with q:=none}):=k4
 have x':=JZ e x
 have m':=k1.mg hm
 have fin:∀{z:St×List (Int×Mx)},Ac K i {s with q:=none} z→Ac G i s z:=fun⟨L,o1,o2,o3,o4,o5⟩=>⟨L,k1.trans o1,o2,o3,o4,(eT (t:={s with q:=none}) hN hN (List.prefix_refl _) (Int.le_refl _) r.com1).trans o5⟩
 split
 ·rename_i q
  refine fin (Js k2 k3 hN r rfl (fun h z1 z2=> ?_) hw)
  rw[show K ({s with q:=none}:St).N=_ from k4]at z1;cases z1
  obtain⟨g',n1,n2,n3,n4,n5,n6,n7⟩:=m'.2.2.2.1 q
  rw[hn,k4]at n1;cases n1
  rw[hb]at n2 n3 n7
  exact Kb v1 l.m x' n2 n3 n4 n5 n6 n7
 ·refine fin (Js k2 k3 hN r rfl (fun h z1 z2=> ?_) hw)
  rw[show K ({s with q:=none}:St).N=_ from k4]at z1;cases z1
  have b0:=x.b0
  obtain⟨g',n1,n2⟩:=m'.2.2.2.2.1 (by
   have:=hk.2.2
   omega)
  rw[hn,k4]at n1;cases n1
  rw[hb]at n2
  exact ahu l.m x' n2
theorem ahA {G:GG} {now i:Int} {s:St} (hG:GI G) (hs:SS G i s) (hN:0<s.N) (r:ROk s.m s.me s.log s.ba s.com s.hs) (hq:s.q=none) (hw:(bK s.m s.su s.jo s.go).Nodup∧¬bK s.m s.su s.jo s.go=[])
  (hi:0≤i∧i<256) (hro:0≤s.ro):Ac G i s (ei now s):=by
 obtain⟨_,g,g1,g2⟩:=hs.inn hN
 have hv:=(hG.v _ _ g1).2
 have l:=hv.s i s g2
 unfold ei
 split
 ·exact .refl hG hs fun o ho=>by cases ho
 have hme:s.me=i:=hs.me
 generalize hb:(s.ro+1)*256+s.me=b
 have b1:b % 256=i∧b / 256=s.ro+1∧0<b:=by omega
 have hP:g.P b=none:=by
  cases e:g.P b with
  |none=>rfl
  |some u=>
   obtain⟨_,_,t,h1,h2⟩:=hv.p b u e
   rw[b1.1,g2]at h1;cases h1
   omega
 have key:∀(t:St) (v:Pq),t.N=s.N→t.se=s.se→t.me=s.me→t.m=s.m→t.q=none→Go1 s t→t.ro=s.ro+1→t.su=s.su→t.jo=s.jo→t.go=s.go→t.ba=s.ba→t.log=s.log→t.com=s.com→t.hs=s.hs→
   LS g i t→v.ph=0→(VI (g.put i t)→LS (g.put i t) i t→QG (g.put i t) i t.ro v)→Ac G i s ((dw now t v).1,eu t.N t.me t.m v++(dw now t v).2):=by
  intro t v t1 t2 t3 t4 t5 t6 t7 t8 t9 t10 t11 t12 t13 t14 lt hv0 hx
  have e:=lJ g2 t6
  have l1:=iO e lt
  have v1:=pX hv g2 t6 l1
  obtain⟨K,k1,k2,k3,k4⟩:=rj (N:=s.N) hG hs hN g1 e v1 dF t1 t2 t3
  have x:=hx v1 l1
  obtain⟨L,o1,o2,o3,o4,o5⟩:=Js (now:=now) (v:=v) k2 k3 (by rw[t1];exact hN) (by rw[t4,t3,t12,t11,t13,t14];exact r) t5 (fun h z1 z2=>by rw[k4]at z1;cases z1;exact x) (by rw[t4,t8,t9,t10];exact hw)
  refine⟨L,k1.trans o1,o2,o3,fun o ho=>(List.mem_append.1 ho).elim (fun h=>o1.mg (zV k4 (fun z=>by omega) o h)) (o4 o),List.IsPrefix.trans ?_ o5⟩
  exact eT hN (by rw[t1];exact hN) (by rw[t12];exact List.prefix_refl _) (by rw[t13];exact Int.le_refl _) r.com1
 have q0:∀(t:St),g.S i=some s→LS g i t→VI (g.put i t)→b≤t.prm→t.ro=s.ro+1→QG (g.put i t) i t.ro ⟨b,0,[],0,none,[],([],[])⟩:=fun t _ lt _ h1 h2=>
  ⟨b1.1,b1.2.2,⟨t,dF,h1⟩,List.nodup_nil,(fun y hy=>by cases hy),(by show b / 256≤t.ro;omega),fun _=>⟨hP,(fun y hy=>by cases hy),(by show g.base++[]<+:g.H;rw[List.append_nil];exact hv.hb),fun _=>rfl,fun w hw=>by cases hw⟩,fun z=>absurd rfl z,fun z=>absurd z (by show¬(0:Int)=2;omega)⟩
 dsimp only
 unfold gO
 split
 ·rename_i k
  have k2:s.prm≤b:=k.2
  refine key _ _ rfl rfl rfl rfl hq ⟨amj _,k2,(by show s.ro≤s.ro+1;omega),fun _=>⟨rfl,rfl⟩⟩ rfl rfl rfl rfl rfl rfl rfl rfl
   ⟨l.m,l.me,l.ba,l.b1,l.lg,l.hd,l.com,l.hs,fun _=>rfl,Int.le_trans l.pa k2,l.aa,l.vt,fun u hu=>by have hu:s.q=some u:=hu;rw[hq]at hu;cases hu⟩ ?_ fun v1 l1=> ?_
  ·show(kr _ _ _ _ _ _ _).ph=0
   rfl
  ·have hsp:=l1.split
   refine Kb v1 l.m (q0 _ g2 ⟨l.m,l.me,l.ba,l.b1,l.lg,l.hd,l.com,l.hs,fun _=>rfl,Int.le_trans l.pa k2,l.aa,l.vt,fun u hu=>by have hu:s.q=some u:=hu;rw[hq]at hu;cases hu⟩ v1 (Int.le_refl _) rfl) ?_ ?_ ?_ ?_ ?_ ?_
   ·exact⟨_,by show(g.put i _).S s.me=some _;rw[hme];exact dF,Int.le_refl _⟩
   ·intro d _ hd
    have hd:g.V d s.me:=hd
    rw[hme]at hd
    have h1:=l.vt d hd
    show d≤(cH s.aa s.av).1
    unfold cH
    split
    ·show d≤0;omega
    ·exact h1
   ·exact⟨_,by show(g.put i _).S s.me=some _;rw[hme];exact dF,rfl,Nat.le_of_eq hsp.2⟩
   ·show g.base++s.log.drop s.ba.toNat<+:g.H
    rw[show g.base++s.log.drop s.ba.toNat=s.log from hsp.1];exact l.lg
   ·show(cH s.aa s.av).2.2=false→(cH s.aa s.av).1=0
    unfold cH
    split
    ·exact fun _=>rfl
    ·intro h;cases h
   ·show(cH s.aa s.av).2.2=true→g.P (cH s.aa s.av).1=some (cH s.aa s.av).2.1∧(cH s.aa s.av).1≤b
    unfold cH
    split
    ·intro h;cases h
    ·rename_i z
     exact fun _=>⟨(l.aa z).1,Int.le_trans l.pa k2⟩
 ·rename_i k
  have k2:b≤s.prm:=by
   have k:¬(¬b=0∧s.prm≤b):=k
   omega
  exact key _ _ rfl rfl rfl rfl hq ⟨amj _,Int.le_refl _,(by show s.ro≤s.ro+1;omega),fun h=>⟨h,rfl⟩⟩ rfl rfl rfl rfl rfl rfl rfl rfl
   ⟨l.m,l.me,l.ba,l.b1,l.lg,l.hd,l.com,l.hs,l.sh,l.pa,l.aa,l.vt,fun u hu=>by have hu:s.q=some u:=hu;rw[hq]at hu;cases hu⟩ rfl fun v1 l1=>q0 _ g2 ⟨l.m,l.me,l.ba,l.b1,l.lg,l.hd,l.com,l.hs,l.sh,l.pa,l.aa,l.vt,fun u hu=>by have hu:s.q=some u:=hu;rw[hq]at hu;cases hu⟩ v1 k2 rfl
theorem NK {l:List Ke} {k n:Nat}:l.take k++(l.drop k).take n<+:l:=by
 rw[←List.take_add];exact List.take_prefix _ _
theorem Hf {K:GG} {g:VG} {i:Int} {s:St} (hK:K s.N=some g) (l:LS g i s) (r:ROk s.m s.me s.log s.ba s.com s.hs):∀o∈pG s,MG K i o.2:=by
 intro o ho
 unfold pG at ho
 rcases List.mem_append.1 ho with ho|ho
 ·unfold lI at ho
  split at ho
  ·rw[jl ho];exact rA (.inr (.inr ⟨.inr rfl,rfl⟩))
  ·cases ho
 ·unfold pP at ho
  split at ho
  ·rename_i q
   obtain⟨p,_,rfl⟩:=List.mem_map.1 ho
   have hd:g.m.head?=some i:=by rw[←l.m,←l.me];exact q
   have hH:=l.hd hd
   have hk:=fx r p
   refine alv rfl ⟨g,hK,hd,?_,?_,?_,l.com⟩
   ·show 0≤(fW s.m s.me s.log s.hs p).1
    unfold fW;split<;>dsimp only<;>omega
   ·show(fW s.m s.me s.log s.hs p).1≤(g.H.length:Int)
    rw[←hH]
    unfold fW;split<;>dsimp only<;>omega
   ·show g.H.take (fW s.m s.me s.log s.hs p).1.toNat++(fW s.m s.me s.log s.hs p).2<+:g.H
    rw[←hH]
    unfold fW
    split
    ·exact NK
    ·rw[List.append_nil];exact List.take_prefix _ _
  ·cases ho
theorem aau {G:GG} {now i:Int} {s:St} (hG:GI G) (hs:SS G i s) (r:0<s.N→ROk s.m s.me s.log s.ba s.com s.hs) (hw:0<s.N→(bK s.m s.su s.jo s.go).Nodup∧¬bK s.m s.su s.jo s.go=[])
  (hi:0≤i∧i<256) (hro:0≤s.ro):Ac G i s (bZ now s):=by
 unfold bZ
 split
 ·refine .refl hG hs fun o ho=> ?_
  split at ho
  ·rw[jl ho];exact rA (.inr (.inr ⟨.inl rfl,rfl⟩))
  ·cases ho
 rename_i q
 have hN:0<s.N:=Decidable.of_not_not q
 obtain⟨_,g,g1,g2⟩:=hs.inn hN
 have l:=(hG.v _ _ g1).2.s i s g2
 split
 ·rename_i v hv
  exact .refl hG hs fun o ho=>(List.mem_append.1 ho).elim (Hf g1 l (r hN) o) (zV g1 (fun z=>((l.q v hv).p1 (by omega)).1) o)
 ·rename_i hq
  split
  ·obtain⟨L,o1,o2,o3,o4,o5⟩:=ahA (now:=now) hG hs hN (r hN) hq (hw hN) hi hro
   exact⟨L,o1,o2,o3,fun o ho=>(List.mem_append.1 ho).elim (fun h=>o1.mg (Hf g1 l (r hN) o h)) (o4 o),o5⟩
  ·exact .refl hG hs (Hf g1 l (r hN))
end Go.Proofs.Tryz
