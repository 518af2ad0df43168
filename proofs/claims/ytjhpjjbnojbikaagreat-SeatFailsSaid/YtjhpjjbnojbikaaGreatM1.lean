/- Definitions and lemmas of the proof, without a condition of their own. -/
import Derived.Test.YtjhpjjbnojbikaaGreatM0
import Derived.MapKept
import Derived.Maps.RangeRun
open Bool renaming and_eq_true→apP
open Go.Result renaming andThen_ok→apG
open Go.Sem renaming run_bind→apH
open List renaming eq_nil_of_length_eq_zero→apS,flatten_cons→apB,getElem?_map→apR,getElem?_take_of_lt→apO,length_append→apv,length_drop→apW,length_map→apx,length_take→apL,map_append→apJ,mem_append→apK,mem_cons→apF,mem_of_getElem?→apA,nil_append→apD
open Nat renaming blt_eq→apV,eq_of_beq_eq_true→apz,le_refl→apM
open Option.some renaming inj→apT,injEq→apQ
namespace Go.Sy
open Go Go.RowKit Go.Eng
noncomputable def Ao:Nat→ET→AV→Bool→Bool:=
 Nat.rec (fun _ _ _=>false) (fun _ ih et v K=>ET.casesOn et
  (pp v fun _ _=>K) (agZ v fun _=>K) (Fi v fun _=>K)
  (fun fs=>asAgg v fun cs=>List.rec K (fun f _ r=>iy f.2.2.1 f.1 f.2.1 cs fun u=>ih f.2.2.2 u r) fs)
  (fun offs n agg e=>asAgg v fun cs=>List.rec K (fun o _ r=>iy agg o n cs fun u=>ih e u r) offs))
section
variable {P:Program} {E:Env} {ρ:Ren} {G:GS} {F:List bh} {M:T} {nx:Nat} {w:World}
theorem AK:∀(d:Nat) {et:ET} {v:AV} {K:Bool} {x:Value} {t:TypeId},du P d et t=true→den E ρ v=some x→Ao d et v K=true→K=true∧∀(e:Bool) (n:Nat) (w:World),d≤n→(Instr.checkKey e n t x).run P w= .ok () w
 |0,et,v,K,x,t,hc,_,_=>by simp[du]at hc
 |d+1,et,v,K,x,t,hc,hx,hk=>by
  unfold du at hc
  split at hc
  ·rename_i kk hu
   obtain⟨k,a,rfl,g⟩:=jD (K:=fun _ _=>K) hx hk
   refine⟨g,fun e n w hn=> ?_⟩
   obtain⟨n,rfl⟩:∃n',n=n'+1:=⟨n - 1,by omega⟩
   simp[Instr.checkKey,run_underlying hu]
  ·rename_i hu
   obtain⟨a,rfl,g⟩:=Zs (K:=fun _=>K) hx hk
   refine⟨g,fun e n w hn=> ?_⟩
   obtain⟨n,rfl⟩:∃n',n=n'+1:=⟨n - 1,by omega⟩
   simp[Instr.checkKey,run_underlying hu]
  ·rename_i hu
   obtain⟨a,rfl,g⟩:=og (K:=fun _=>K) hx hk
   refine⟨g,fun e n w hn=> ?_⟩
   obtain⟨n,rfl⟩:∃n',n=n'+1:=⟨n - 1,by omega⟩
   simp[Instr.checkKey,run_underlying hu]
  ·rename_i gs fs hu
   obtain⟨cs,rfl,g1⟩:=fg hk
   simp only[den]at hx
   split at hx
   case h_2=>cases hx
   rename_i xs hxs
   cases hx
   simp only[apP,Bool.not_eq_true']at hc
   have key:∀(l:List Field) (gs:List (Nat×Nat×Bool×ET)),fA (du P d) P l gs=true→(List.rec K (fun f _ r=>iy f.2.2.1 f.1 f.2.1 cs fun u=>Ao d f.2.2.2 u r) gs:Bool)=true→K=true∧
     ∀(e:Bool) (n:Nat) (w:World),d≤n→∀f∈l,f.name≠ "_" ∧∃z,(part f.type xs.toArray f.offset).run P w= .ok z w∧(Instr.checkKey e n f.type z).run P w= .ok () w:=by
    intro l
    induction l with
    |nil=>
     intro gs hf hk
     cases gs with
     |nil=>exact⟨hk,fun _ _ _ _ f hf=>by simp at hf⟩
     |cons g gs=>simp[fA]at hf
    |cons f l ihl=>
     intro gs hf hk
     cases gs with
     |nil=>simp[fA]at hf
     |cons g gs=>
      simp only[fA,apP,decide_eq_true_eq]at hf
      obtain⟨⟨⟨⟨⟨f1,f2⟩,f3⟩,f4⟩,f5⟩,f6⟩:=hf
      have f1:f.name≠ "_" :=by simpa using f1
      have hk':iy g.2.2.1 g.1 g.2.1 cs (fun u=>Ao d g.2.2.2 u (List.rec K (fun f _ r=>iy f.2.2.1 f.1 f.2.1 cs fun u=>Ao d f.2.2.2 u r) gs))=true:=hk
      obtain⟨u,zu,u1,u2,u3⟩:=rE hxs hk' f4 f3
      obtain⟨k1,k2⟩:=AK d f5 u1 u2
      obtain⟨k3,k4⟩:=ihl gs f6 k1
      refine⟨k3,fun e n w hn f' hf'=> ?_⟩
      rcases apF.1 hf' with rfl|hf'
      ·exact⟨f1,zu,by rw[f2];exact u3 w,k2 e n w hn⟩
      ·exact k4 e n w hn f' hf'
   obtain⟨k1,k2⟩:=key fs.toList gs hc.2 g1
   refine⟨k1,fun e n w hn=> ?_⟩
   obtain⟨n,rfl⟩:∃n',n=n'+1:=⟨n - 1,by omega⟩
   have k3:=k2 e n w (by omega)
   simp only[Instr.checkKey,apH,run_underlying hu,apG]
   rw[←Array.forIn_toList]
   generalize fs.toList=l at k3
   clear hu key k2 hc
   induction l with
   |nil=>simp
   |cons f l ihl=>
    obtain⟨q1,z,q2,q3⟩:=k3 f (by simp)
    have:=ihl fun g hg=>k3 g (by simp[hg])
    simp[q1,q2,q3]at this ⊢
    exact this
  ·rename_i offs n agg e len el hu
   obtain⟨cs,rfl,g1⟩:=fg hk
   simp only[den]at hx
   split at hx
   case h_2=>cases hx
   rename_i xs hxs
   cases hx
   simp only[apP,decide_eq_true_eq]at hc
   obtain⟨⟨⟨c1,c2⟩,c3⟩,c4⟩:=hc
   have key:∀(l:List Nat),(List.rec K (fun o _ r=>iy agg o n cs fun u=>Ao d e u r) l:Bool)=true→K=true∧∀(b:Bool) (m:Nat) (w:World),d≤m→∀o∈l,∃z,(part el xs.toArray o).run P w= .ok z w∧(Instr.checkKey b m el z).run P w= .ok () w:=by
    intro l
    induction l with
    |nil=>intro hk;exact⟨hk,fun _ _ _ _ o ho=>by simp at ho⟩
    |cons o l ihl=>
     intro hk
     have hk':iy agg o n cs (fun u=>Ao d e u (List.rec K (fun o _ r=>iy agg o n cs fun u=>Ao d e u r) l))=true:=hk
     obtain⟨u,zu,u1,u2,u3⟩:=rE hxs hk' c2 c1
     obtain⟨k1,k2⟩:=AK d c4 u1 u2
     obtain⟨k3,k4⟩:=ihl k1
     refine⟨k3,fun b m w hm o' ho'=> ?_⟩
     rcases apF.1 ho' with rfl|ho'
     ·exact⟨zu,u3 w,k2 b m w hm⟩
     ·exact k4 b m w hm o' ho'
   obtain⟨k1,k2⟩:=key offs g1
   refine⟨k1,fun b m w hm=> ?_⟩
   obtain⟨m,rfl⟩:∃n',m=n'+1:=⟨m - 1,by omega⟩
   have k3:=k2 b m w (by omega)
   simp only[Instr.checkKey,apH,run_underlying hu,apG]
   rw[Std.Legacy.Range.forIn_eq_forIn_range']
   simp only[Std.Legacy.Range.size,Nat.sub_zero,Nat.add_sub_cancel,Nat.div_one]
   rw[c3,List.range_eq_range']at k3
   generalize List.range' 0 len=l at k3 ⊢
   clear hu key c3 g1 k2
   induction l with
   |nil=>simp
   |cons i l ihl=>
    obtain⟨z,q2,q3⟩:=k3 (i*n) (by simp)
    have:=ihl fun g hg=>k3 g (by simp at hg ⊢;exact .inr hg)
    simp[Go.Eng.run_sizeOf c1,q2,q3]at this ⊢
    exact this
  ·cases hc
theorem Lv {d:Nat} {et:ET} {k:AV} {x:Value} {kt:TypeId} (hd:d≤10000) (hc:du P d et kt=true) (hx:den E ρ k=some x) {es:List (AV×AV×Nat)} {ms:List MapEntry} {Kn:Bool} {Ks:Nat→AV×AV×Nat→Bool} (he:bU E ρ es=some ms) (hk:TX d et k es Kn Ks=true):
  (Kn=true∧∀w,(Instr.findKey kt x ms).run P w= .ok none w)∨(∃j e y,es[j]?=some e∧Ks j e=true∧den E ρ e.2.1=some y∧∀w,(Instr.findKey kt x ms).run P w= .ok (some (j,y)) w):=by
 obtain⟨dd,hu⟩:∃dd,P.underlying kt=some dd:=by
  cases d with
  |zero=>simp[du]at hc
  |succ d=>
   unfold du at hc
   rcases hq:P.underlying kt with _|dd
   ·rw[hq]at hc;cases et<;>simp at hc
   ·exact⟨dd,rfl⟩
 rcases Wa hd hc hx (i:=0) he hk with⟨q1,q2⟩|⟨j,e,y,q1,q2,q3,q4⟩
 ·refine .inl ⟨q1,fun w=> ?_⟩
  rcases(q2 w).2 dd hu with q|q
  ·simp[Instr.findKey,run_underlying hu,q]
  ·simp[Instr.findKey,run_underlying hu,q,(q2 w).1]
 ·rw[Nat.zero_add]at q2
  refine .inr ⟨j,e,y,q1,q2,q3,fun w=> ?_⟩
  have:=q4 w
  rw[Nat.zero_add]at this
  rcases this.2 dd hu with q|q
  ·simp[Instr.findKey,run_underlying hu,q]
  ·simp[Instr.findKey,run_underlying hu,q,this.1]
theorem Sim.map (h:Sim E ρ G F M nx w) {i:Nat} {es:List (AV×AV×Nat)} {cl:Nat} (hi:M.get i=some (.map es cl)):∃e ms,ρ i=some e∧bU E ρ es=some ms∧w.heap[e.b]?=some (.map ms.toArray cl):=by
 obtain⟨e,ob,h1,h2,ms,h3,rfl⟩:=h.obj hi
 exact⟨e,ms,h1,h3,h2⟩
noncomputable def MN (M:T) (i:Nat) (K:Bool→Bool→Bool→(α:Type)→List α→(α→List PL)→(α→List PL)→Bool):Bool:=eu (M.get i) fun ob=>AObj.casesOn ob (fun _ _ _ _=>false) (fun _ _=>false) (fun _ _ _ _=>false) false (fun _ _ _ _ _=>false) K
theorem EC {M:T} {i:Nat} {K:Bool→Bool→Bool→(α:Type)→List α→(α→List PL)→(α→List PL)→Bool} (h:MN M i K=true):∃sure ak av α l k v,M.get i=some (.kmap sure ak av α l k v)∧K sure ak av α l k v=true:=by
 obtain⟨ob,h1,h2⟩:=ci h
 cases ob<;>first|exact⟨_,_,_,_,_,_,_,h1,h2⟩|cases h2
noncomputable def isK (M:T) (i:Nat):Bool:=Option.casesOn (M.get i) false fun ob=>AObj.casesOn ob (fun _ _ _ _=>false) (fun _ _=>false) (fun _ _ _ _=>false) false (fun _ _ _ _ _=>false) (fun _ _ _ _ _ _ _=>true)
noncomputable def agX (d:Nat) (et:ET) (key:AV) (ak:Bool) (α:Type) (l:List α) (k:α→List PL) (Q:α→Prop):Bool:=
 ae fun x:α=>bn (aN (x∈l)) (tR d et key (dT ak (k x)) fun b=>bn b (aN (Q x)) (aN (¬Q x))) true
theorem Zq {d:Nat} {et:ET} {key:AV} {ak:Bool} {α:Type} {l:List α} {k:α→List PL} {Q:α→Prop} (h:agX d et key ak α l k Q=true):∀x∈l,tR d et key (dT ak (k x)) (fun b=>bn b (aN (Q x)) (aN (¬Q x)))=true:=fun x hx=>by
 have h:=aq h x
 rw[prB_true.2 hx]at h
 exact h
theorem Wb {d:Nat} {et:ET} {key:AV} {x:Value} {kt:TypeId} (hd:d≤10000) (hc:du P d et kt=true) (hx:den E ρ key=some x) {α:Type} {ak av:Bool} {k v:α→List PL} {Q:α→Prop}:∀{l:List α} {es:List (AV×AV×Nat)} {ms:List MapEntry} {i:Nat},
  es.map (fun e=>(e.1,e.2.1))=l.map (fun x=>(dT ak (k x),dT av (v x)))→bU E ρ es=some ms→(∀y∈l,tR d et key (dT ak (k y)) (fun b=>bn b (aN (Q y)) (aN (¬Q y)))=true)→
  ((∀y∈l,¬Q y)∧∀w,(Instr.findAsking kt x ms i).run P w= .ok none w∧∀dd,P.underlying kt=some dd→(Instr.findNow dd x ms i=some none∨(Instr.findNow dd x ms i=none)))∨
  (∃j y z,l[j]?=some y∧Q y∧den E ρ (dT av (v y))=some z∧∀w,(Instr.findAsking kt x ms i).run P w= .ok (some (i+j,z)) w∧∀dd,P.underlying kt=some dd→(Instr.findNow dd x ms i=some (some (i+j,z))∨Instr.findNow dd x ms i=none))
 |[],[],ms,i,_,he,_=>by
  simp[bU]at he
  subst he
  exact .inl ⟨fun y hy=>(by cases hy),fun w=>⟨by simp[Instr.findAsking],fun dd _=>.inl rfl⟩⟩
 |[],_::_,ms,i,h1,_,_=>by simp at h1
 |_::_,[],ms,i,h1,_,_=>by simp at h1
 |y::l,(k',v',b')::es,ms,i,hs,he,hq=>by
  simp only[List.map_cons,List.cons.injEq,Prod.mk.injEq]at hs
  obtain⟨⟨rfl,rfl⟩,hs⟩:=hs
  obtain⟨x',y',ms',h1,h2,h3,rfl⟩:=dO he
  obtain⟨b,b1,b2,hsn⟩:=Fa d hc hx h1 (hq y List.mem_cons_self)
  have hr:∀w,(Op.equal kt x x').run P w= .ok b w:=fun w=>b2 10000 w hd
  rcases bi b1 with⟨rfl,b3⟩|⟨rfl,b3⟩
  ·refine .inr ⟨0,y,y',rfl,prB_true.1 b3,h2,fun w=>⟨by simp[Instr.findAsking,hr],fun dd hu=> ?_⟩⟩
   rcases hsn dd hu with q|q<;>simp[Instr.findNow,q]
  ·rcases Wb hd hc hx (i:=i+1) hs h3 (fun z hz=>hq z (List.mem_cons_of_mem _ hz)) with⟨q1,q2⟩|⟨j,z,y2,q1,q2,q3,q4⟩
   ·refine .inl ⟨fun z hz=> ?_,fun w=>⟨by simp[Instr.findAsking,hr,(q2 w).1],fun dd hu=> ?_⟩⟩
    ·rcases apF.1 hz with rfl|hz
     ·exact prB_true.1 b3
     ·exact q1 z hz
    rcases hsn dd hu with q|q
    ·simp only[Instr.findNow,q]
     exact(q2 w).2 dd hu
    ·exact .inr (by simp[Instr.findNow,q])
   ·refine .inr ⟨j+1,z,y2,by simpa using q1,q2,q3,fun w=>⟨by simp[Instr.findAsking,hr,(q4 w).1];omega,fun dd hu=> ?_⟩⟩
    rcases hsn dd hu with q|q
    ·simp only[Instr.findNow,q]
     have:=(q4 w).2 dd hu
     rw[show i+1+j=i+(j+1) by omega]at this
     exact this
    ·exact .inr (by simp[Instr.findNow,q])
theorem Sf {d:Nat} {et:ET} {key:AV} {x:Value} {kt:TypeId} (hd:d≤10000) (hc:du P d et kt=true) (hx:den E ρ key=some x) {α:Type} {ak av:Bool} {k v:α→List PL} {Q:α→Prop} {l:List α} {es:List (AV×AV×Nat)} {ms:List MapEntry}
  (hs:es.map (fun e=>(e.1,e.2.1))=l.map (fun x=>(dT ak (k x),dT av (v x)))) (he:bU E ρ es=some ms) (hq:∀y∈l,tR d et key (dT ak (k y)) (fun b=>bn b (aN (Q y)) (aN (¬Q y)))=true):
  ((∀y∈l,¬Q y)∧∀w,(Instr.findKey kt x ms).run P w= .ok none w)∨(∃j y z,l[j]?=some y∧Q y∧den E ρ (dT av (v y))=some z∧∀w,(Instr.findKey kt x ms).run P w= .ok (some (j,z)) w):=by
 obtain⟨dd,hu⟩:∃dd,P.underlying kt=some dd:=by
  cases d with
  |zero=>simp[du]at hc
  |succ d=>
   unfold du at hc
   rcases hq:P.underlying kt with _|dd
   ·rw[hq]at hc;cases et<;>simp at hc
   ·exact⟨dd,rfl⟩
 rcases Wb hd hc hx (i:=0) hs he hq with⟨q1,q2⟩|⟨j,y,z,q1,q2,q3,q4⟩
 ·refine .inl ⟨q1,fun w=> ?_⟩
  rcases(q2 w).2 dd hu with q|q
  ·simp[Instr.findKey,run_underlying hu,q]
  ·simp[Instr.findKey,run_underlying hu,q,(q2 w).1]
 ·refine .inr ⟨j,y,z,q1,q2,q3,fun w=> ?_⟩
  have:=q4 w
  rw[Nat.zero_add]at this
  rcases this.2 dd hu with q|q
  ·simp[Instr.findKey,run_underlying hu,q]
  ·simp[Instr.findKey,run_underlying hu,q,this.1]
theorem Sim.kmap (h:Sim E ρ G F M nx w) {i:Nat} {ak av:Bool} {α:Type} {l:List α} {k v:α→List PL} (hi:M.get i=some (.kmap false ak av α l k v)) {x:Value} (hm:den E ρ (.sy (.kmp i))=some x):
  ∃e,ρ i=some e∧((x= .map (some e.b)∧∃es ms cl,es.map (fun e=>(e.1,e.2.1))=l.map (fun x=>(dT ak (k x),dT av (v x)))∧bU E ρ es=some ms∧w.heap[e.b]?=some (.map ms.toArray cl))∨(x= .map none∧l=[])):=by
 obtain⟨e,h1,q⟩:=h.objP hi
 simp only[den,bo,h1,apQ]at hm
 refine⟨e,h1,?_⟩
 rcases q with⟨q1,ob,q2,es,cl,ms,h3,h4,rfl⟩|⟨q1,q2⟩
 ·refine .inl ⟨?_,es,ms,cl,h3,h4,q2⟩
  have q1:(false|| !Nat.beq e.cap 0)=true:=q1
  have q3:Nat.beq e.cap 0=false:=by simpa using q1
  rw[←hm,q3];rfl
 ·refine .inr ⟨?_,q2.2⟩
  have q1:(false|| !Nat.beq e.cap 0)=false:=q1
  have q3:Nat.beq e.cap 0=true:=by simpa using q1
  rw[←hm,q3];rfl
theorem Sim.kmapS (h:Sim E ρ G F M nx w) {i:Nat} {ak av:Bool} {α:Type} {l:List α} {k v:α→List PL} (hi:M.get i=some (.kmap true ak av α l k v)):∃e es ms cl,ρ i=some e∧es.map (fun e=>(e.1,e.2.1))=l.map (fun x=>(dT ak (k x),dT av (v x)))∧bU E ρ es=some ms∧w.heap[e.b]?=some (.map ms.toArray cl):=by
 obtain⟨e,ob,h1,h2,es,cl,ms,h3,h4,rfl⟩:=h.obj hi
 exact⟨e,es,ms,cl,h1,h3,h4,h2⟩
noncomputable def ack (v:AV) (K:Nat→Bool) (K0:Bool):Bool:=match v with
 |.sy (.kmp i)=>K i
 |_=>K0
theorem ag0 {v:AV} {K:Nat→Bool} {K0:Bool} (h:ack v K K0=true):(∃i,v= .sy (.kmp i)∧K i=true)∨K0=true:=by
 unfold ack at h
 split at h
 ·exact .inl ⟨_,rfl,h⟩
 ·exact .inr h
noncomputable def lkK (d:Nat) (et:ET) (zv:AV) (comma:Bool) (k:AV) (ak av:Bool) (α:Type) (l:List α) (kf vf:α→List PL) (K:AV→Bool):Bool:=
 aM fun Q:α→Prop=>aa (agX d et k ak α l kf Q) (aa (bn (aN (∀x∈l,¬Q x)) (bn comma (K (.tup [zv,.bool false])) (K zv)) true) (ae fun x:α=>bn (aN (x∈l∧Q x)) (bn comma (K (.tup [dT av (vf x),.bool true])) (K (dT av (vf x)))) true))
noncomputable def lkX (d:Nat) (et:ET) (zv:AV) (comma:Bool) (m k:AV) (M:T) (K:AV→Bool):Bool:=
 Ao d et k (ack m (fun i=>MN M i fun sure ak av α l kf vf=>bn sure false (lkK d et zv comma k ak av α l kf vf K)) (zS m (bn comma (K (.tup [zv,.bool false])) (K zv)) fun i=>bn (isK M i) (MN M i fun sure ak av α l kf vf=>aa sure (lkK d et zv comma k ak av α l kf vf K)) (te M i fun es _=>TX d et k es (bn comma (K (.tup [zv,.bool false])) (K zv)) fun _ e=>bn comma (K (.tup [e.2.1,.bool true])) (K e.2.1))))
theorem anX (h:Sim E ρ G F M nx w) {d:Nat} {et:ET} {zv:AV} {zx:Value} {comma:Bool} {m k:AV} {K:AV→Bool} {x y:Value} {t kt e:TypeId} (hd:d≤10000) (ht:P.underlying t=some (.map kt e)) (hc:du P d et kt=true) (hz:∀w,(zeroValue e).run P w= .ok zx w) (hzv:den E ρ zv=some zx)
  (hm:den E ρ m=some x) (hk:den E ρ k=some y) (hg:lkX d et zv comma m k M K=true):∃u z,den E ρ u=some z∧K u=true∧(Instr.lookup t x y comma).run P w= .ok z w:=by
 obtain⟨g1,g2⟩:=AK d hc hk hg
 have none_:(bn comma (K (.tup [zv,.bool false])) (K zv))=true→∃u z,den E ρ u=some z∧K u=true∧z=(if comma then .tuple #[zx,.bool false] else zx):=by
  intro hh
  rcases bi hh with⟨rfl,hh⟩|⟨rfl,hh⟩
  ·exact⟨_,_,by simp only[den,aS,hzv];rfl,hh,by simp⟩
  ·exact⟨_,_,hzv,hh,by simp⟩
 have nil_:(bn comma (K (.tup [zv,.bool false])) (K zv))=true→x= .map none→∃u z,den E ρ u=some z∧K u=true∧(Instr.lookup t x y comma).run P w= .ok z w:=fun g3 e=>by
  subst e
  obtain⟨u,z,u1,u2,u3⟩:=none_ g3
  refine⟨u,z,u1,u2,?_⟩
  have hf:(Instr.findKey kt y []).run P w= .ok none w:=by
   obtain⟨dd,hu⟩:∃dd,P.underlying kt=some dd:=by
    cases d with
    |zero=>simp[du]at hc
    |succ d=>
     unfold du at hc
     rcases hq:P.underlying kt with _|dd
     ·rw[hq]at hc;cases et<;>simp at hc
     ·exact⟨dd,rfl⟩
   simp[Instr.findKey,run_underlying hu,Instr.findNow]
  subst u3
  cases comma<;>simp[Instr.lookup,run_underlying ht,g2 _ 10000 w hd,hf,hz]
 have made_:∀{ak av:Bool} {α:Type} {l:List α} {kf vf:α→List PL} {f:eT} {es:List (AV×AV×Nat)} {ms:List MapEntry} {cl:Nat},lkK d et zv comma k ak av α l kf vf K=true→x= .map (some f.b)→es.map (fun e=>(e.1,e.2.1))=l.map (fun x=>(dT ak (kf x),dT av (vf x)))→bU E ρ es=some ms→w.heap[f.b]?=some (.map ms.toArray cl)→∃u z,den E ρ u=some z∧K u=true∧(Instr.lookup t x y comma).run P w= .ok z w:=by
  intro ak av α l kf vf f es ms cl g4 ex fs f2 f3
  subst ex
  obtain⟨Q,g5⟩:=cd g4
  obtain⟨g6,g7⟩:=aj g5
  obtain⟨g8,g9⟩:=aj g7
  rcases Sf hd hc hk fs f2 (Zq g6) with⟨q1,q2⟩|⟨j,e',y',q1,q2,q3,q4⟩
  ·rw[prB_true.2 q1]at g8
   obtain⟨u,z,u1,u2,u3⟩:=none_ g8
   refine⟨u,z,u1,u2,?_⟩
   subst u3
   cases comma<;>simp[Instr.lookup,run_underlying ht,MapKept.run_getObj_map f3,g2 _ 10000 w hd,q2,hz]
  ·have g10:=aq g9 e'
   rw[prB_true.2 ⟨apA q1,q2⟩]at g10
   have g10:(bn comma (K (.tup [dT av (vf e'),.bool true])) (K (dT av (vf e'))))=true:=g10
   rcases bi g10 with⟨rfl,q5⟩|⟨rfl,q5⟩
   ·exact⟨_,.tuple #[y',.bool true],by simp only[den,aS,q3],q5,by simp[Instr.lookup,run_underlying ht,MapKept.run_getObj_map f3,g2 _ 10000 w hd,q4]⟩
   ·exact⟨_,y',q3,q5,by simp[Instr.lookup,run_underlying ht,MapKept.run_getObj_map f3,g2 _ 10000 w hd,q4]⟩
 rcases ag0 g1 with⟨i,rfl,g3⟩|g1
 ·obtain⟨sure,ak,av,α,l,kf,vf,hi,g4⟩:=EC g3
  rcases bi g4 with⟨_,g4⟩|⟨rfl,g4⟩
  ·cases g4
  obtain⟨f,f1,⟨ex,es,ms,cl,fs,f2,f3⟩|⟨e0,rfl⟩⟩:=h.kmap hi hm
  ·exact made_ g4 ex fs f2 f3
  ·obtain⟨Q,g5⟩:=cd g4
   obtain⟨g6,g7⟩:=aj g5
   obtain⟨g8,g9⟩:=aj g7
   rw[prB_true.2 (fun z hz=>by cases hz)]at g8
   exact nil_ g8 e0
 rcases oZ g1 with⟨rfl,g3⟩|⟨i,rfl,g3⟩
 ·cases hm
  obtain⟨u,z,u1,u2,u3⟩:=none_ g3
  refine⟨u,z,u1,u2,?_⟩
  have hf:(Instr.findKey kt y []).run P w= .ok none w:=by
   obtain⟨dd,hu⟩:∃dd,P.underlying kt=some dd:=by
    cases d with
    |zero=>simp[du]at hc
    |succ d=>
     unfold du at hc
     rcases hq:P.underlying kt with _|dd
     ·rw[hq]at hc;cases et<;>simp at hc
     ·exact⟨dd,rfl⟩
   simp[Instr.findKey,run_underlying hu,Instr.findNow]
  subst u3
  cases comma<;>simp[Instr.lookup,run_underlying ht,g2 _ 10000 w hd,hf,hz]
 ·rcases bi g3 with⟨_,g3⟩|⟨_,g3⟩
  ·obtain⟨sure,ak,av,α,l,kf,vf,hi,g4⟩:=EC g3
   obtain⟨hs,g4⟩:=aj g4
   subst hs
   obtain⟨f,es,ms,cl,f1,fs,f2,f3⟩:=h.kmapS hi
   simp only[den,f1,apQ]at hm
   exact made_ g4 hm.symm fs f2 f3
  obtain⟨es,cl,hi,g4⟩:=kB g3
  obtain⟨f,ms,f1,f2,f3⟩:=h.map hi
  simp only[den,f1]at hm
  cases hm
  rcases Lv hd hc hk f2 g4 with⟨q1,q2⟩|⟨j,e',y',q1,q2,q3,q4⟩
  ·obtain⟨u,z,u1,u2,u3⟩:=none_ q1
   refine⟨u,z,u1,u2,?_⟩
   subst u3
   cases comma<;>simp[Instr.lookup,run_underlying ht,MapKept.run_getObj_map f3,g2 _ 10000 w hd,q2,hz]
  ·rcases bi q2 with⟨rfl,q5⟩|⟨rfl,q5⟩
   ·exact⟨_,.tuple #[y',.bool true],by simp only[den,aS,q3],q5,by simp[Instr.lookup,run_underlying ht,MapKept.run_getObj_map f3,g2 _ 10000 w hd,q4]⟩
   ·exact⟨_,y',q3,q5,by simp[Instr.lookup,run_underlying ht,MapKept.run_getObj_map f3,g2 _ 10000 w hd,q4]⟩
end
noncomputable def Uu (u v:AV):Bool:=AV.casesOn u false (fun k a=>jF v fun k2 b=>Bool.and (Nat.beq k k2) (xP a b)) (fun a=>Zt v fun b=>Bool.rec (Bool.not b) b a) (fun l=>qX v fun m=>Sw l m) (fun i o=>nz v fun j p=>Bool.and (Nat.beq i j) (Nat.beq o p)) (fun _ _ _ _=>false) (fun _=>false) false false false false false (fun _ _=>false) (fun _ _=>false) (fun _=>false) (fun _=>false) (fun _=>false) (fun _=>false) (fun _=>false)
noncomputable def sbL (l m:List AV):Bool:=List.rec (motive:=fun _=>List AV→Bool) (fun m=>List.casesOn m true (fun _ _=>false)) (fun x _ ih m=>List.casesOn m false (fun y r=>Bool.and (Uu x y) (ih r))) l m
noncomputable def sbX (u v:AV):Bool:=AV.casesOn u false (fun _ _=>Uu u v) (fun _=>Uu u v) (fun _=>Uu u v) (fun _ _=>Uu u v) (fun _ _ _ _=>false) (fun _=>false) false false false false false (fun _ _=>false) (fun _ _=>false) (fun _=>false) (fun l=>asAgg v fun m=>sbL l m) (fun _=>false) (fun _=>false) (fun _=>false)
noncomputable def ers {α:Type _} (l:List α):Nat→(List α→Bool)→Bool:=List.rec (fun _ _=>false) (fun x xs ih n K=>Nat.rec (K xs) (fun m _=>ih m fun r=>K (x::r)) n) l
theorem aeg {α:Type _}:∀{l:List α} {n:Nat} {K:List α→Bool},ers l n K=true→K (l.eraseIdx n)=true∧n<l.length
 |[],n,K,h=>by cases h
 |x::l,0,K,h=>⟨h,by simp⟩
 |x::l,n+1,K,h=>by
  have h':ers l n (fun r=>K (x::r))=true:=h
  obtain⟨h1,h2⟩:=aeg h'
  exact⟨by simpa using h1,by simp;omega⟩
section
variable {P:Program} {E:Env} {ρ:Ren} {G:GS} {F:List bh} {M:T} {nx:Nat} {w:World}
theorem xZ {a b:Bool} (h:Bool.and a b=true):a=true∧b=true:=by
 have h':(a&&b)=true:=h
 simpa using h'
theorem DH {u v:AV} {x y:Value} (h:Uu u v=true) (hx:den E ρ u=some x) (hy:den E ρ v=some y) (n:Nat):Instr.sameBits n x y=true:=by
 cases u<;>first|(cases h;done)|skip
 case int k a=>
  obtain⟨k2,b,rfl,h1⟩:=iF h
  obtain⟨h2,h3⟩:=xZ h1
  have h2:=apz h2
  subst h2
  rw[xO,decide_eq_true_eq]at h3
  subst h3
  cases hx;cases hy
  unfold Instr.sameBits;simp
 case bool a=>
  obtain⟨b,rfl,h1⟩:=Ns h
  cases hx;cases hy
  unfold Instr.sameBits
  cases a<;>cases b<;>first|rfl|cases h1
 case str l=>
  obtain⟨m,rfl,h1⟩:=jj h
  rw[By,decide_eq_true_eq]at h1
  subst h1
  cases hx;cases hy
  unfold Instr.sameBits
  rw[beq_toListBytes];simp
 case ptr i o=>
  obtain⟨j,p,rfl,h1⟩:=ie h
  obtain⟨h2,h3⟩:=xZ h1
  have h2:=apz h2
  have h3:=apz h3
  subst h2;subst h3
  rw[hx]at hy;cases hy
  simp only[den]at hx
  split at hx<;>cases hx
  unfold Instr.sameBits;simp
theorem ac7:∀{l m:List AV} {xs ys:List Value},sbL l m=true→aS E ρ l=some xs→aS E ρ m=some ys→∀n,xs.length=ys.length∧(xs.zip ys).all (fun p=>Instr.sameBits n p.1 p.2)=true
 |[],[],xs,ys,_,hx,hy,n=>by simp[aS]at hx hy;subst hx;subst hy;simp
 |[],b::m,xs,ys,h,hx,hy,n=>by cases h
 |a::l,[],xs,ys,h,hx,hy,n=>by cases h
 |a::l,b::m,xs,ys,h,hx,hy,n=>by
  obtain⟨x,xs,h1,h2,rfl⟩:=cE hx
  obtain⟨y,ys,h3,h4,rfl⟩:=cE hy
  obtain⟨h5,h6⟩:=xZ (a:=Uu a b) (b:=sbL l m) h
  obtain⟨h7,h8⟩:=ac7 h6 h2 h4 n
  refine⟨by simp[h7],?_⟩
  simp only[List.zip_cons_cons,List.all_cons,apP]
  exact⟨DH h5 h1 h3 n,h8⟩
theorem anm {u v:AV} {x y:Value} (h:sbX u v=true) (hx:den E ρ u=some x) (hy:den E ρ v=some y):Instr.sameBits 10000 x y=true:=by
 cases u<;>first|(cases h;done)|skip
 case int k a=>exact DH (u:=.int k a) h hx hy 10000
 case bool a=>exact DH (u:=.bool a) h hx hy 10000
 case str a=>exact DH (u:=.str a) h hx hy 10000
 case ptr i o=>exact DH (u:=.ptr i o) h hx hy 10000
 case agg l=>
  obtain⟨m,rfl,h1⟩:=fg h
  simp only[den]at hx hy
  split at hx
  case h_2=>cases hx
  rename_i xs hxs
  split at hy
  case h_2=>cases hy
  rename_i ys hys
  cases hx;cases hy
  obtain⟨h2,h3⟩:=ac7 h1 hxs hys 9999
  show Instr.sameBits (9999+1) (.agg xs.toArray) (.agg ys.toArray)=true
  unfold Instr.sameBits
  simp only[apP,beq_iff_eq]
  exact⟨by simpa using h2,by simpa using h3⟩
theorem LB:∀{es:List (AV×AV×Nat)} {ms:List MapEntry} {k v:AV} {b:Nat} {x y:Value},bU E ρ es=some ms→den E ρ k=some x→den E ρ v=some y→bU E ρ (es++[(k,v,b)])=some (ms++[⟨x,y,b⟩])
 |[],ms,k,v,b,x,y,h,h1,h2=>by simp[bU]at h;subst h;simp[bU,h1,h2]
 |(k',v',b')::es,ms,k,v,b,x,y,h,h1,h2=>by
  obtain⟨x',y',ms',q1,q2,q3,rfl⟩:=dO h
  have:=LB q3 h1 h2 (b:=b)
  simp[bU,q1,q2,this]
theorem Zm:∀{es:List (AV×AV×Nat)} {ms:List MapEntry} {i:Nat} {e:AV×AV×Nat},bU E ρ es=some ms→es[i]?=some e→∃x y,den E ρ e.1=some x∧den E ρ e.2.1=some y∧ms[i]?=some ⟨x,y,e.2.2⟩
 |[],ms,i,e,h,hi=>by simp at hi
 |(k',v',b')::es,ms,0,e,h,hi=>by
  obtain⟨x',y',ms',q1,q2,q3,rfl⟩:=dO h
  simp at hi;subst hi
  exact⟨x',y',q1,q2,rfl⟩
 |(k',v',b')::es,ms,i+1,e,h,hi=>by
  obtain⟨x',y',ms',q1,q2,q3,rfl⟩:=dO h
  obtain⟨x,y,h1,h2,h3⟩:=Zm q3 (show es[i]?=some e by simpa using hi)
  exact⟨x,y,h1,h2,by simpa using h3⟩
theorem Lz:∀{es:List (AV×AV×Nat)} {ms:List MapEntry},bU E ρ es=some ms→ms.length=es.length
 |[],ms,h=>by simp[bU]at h;subst h;rfl
 |(k',v',b')::es,ms,h=>by
  obtain⟨x',y',ms',q1,q2,q3,rfl⟩:=dO h
  simp[Lz q3]
theorem Wo:∀{es:List (AV×AV×Nat)} {ms:List MapEntry} {i:Nat} {k v:AV} {b:Nat} {x y:Value},bU E ρ es=some ms→den E ρ k=some x→den E ρ v=some y→bU E ρ (es.set i (k,v,b))=some (ms.set i ⟨x,y,b⟩)
 |[],ms,i,k,v,b,x,y,h,h1,h2=>by simp[bU]at h;subst h;simp[bU]
 |(k',v',b')::es,ms,0,k,v,b,x,y,h,h1,h2=>by
  obtain⟨x',y',ms',q1,q2,q3,rfl⟩:=dO h
  simp[bU,h1,h2,q3]
 |(k',v',b')::es,ms,i+1,k,v,b,x,y,h,h1,h2=>by
  obtain⟨x',y',ms',q1,q2,q3,rfl⟩:=dO h
  have:=Wo q3 h1 h2 (i:=i) (b:=b)
  simp[bU,q1,q2,this]
theorem Nl:∀{es:List (AV×AV×Nat)} {ms:List MapEntry} {i:Nat},bU E ρ es=some ms→bU E ρ (es.eraseIdx i)=some (ms.eraseIdx i)
 |[],ms,i,h=>by simp[bU]at h;subst h;simp[bU]
 |(k',v',b')::es,ms,0,h=>by
  obtain⟨x',y',ms',q1,q2,q3,rfl⟩:=dO h
  simpa using q3
 |(k',v',b')::es,ms,i+1,h=>by
  obtain⟨x',y',ms',q1,q2,q3,rfl⟩:=dO h
  have:=Nl q3 (i:=i)
  simp[bU,q1,q2,this]
theorem Sim.mapTurn (h:Sim E ρ G F M nx w) {i:Nat} {es es':List (AV×AV×Nat)} {cl cl':Nat} {e:eT} {ms':List MapEntry} {M':T} (hi:M.get i=some (.map es cl)) (he:ρ i=some e) (hd:bU E ρ es'=some ms') (h1:M'.get i=some (.map es' cl')) (h2:∀m,m≠i→M'.get m=M.get m):
  Sim E ρ G F M' nx {w with heap:=w.heap.setIfInBounds e.b (.map ms'.toArray cl')}:=by
 obtain⟨e',ms,q1,q2,q3⟩:=h.map hi
 rw[he]at q1;cases q1
 have hlt:=cg q3
 exact h.turn (o':=.map es' cl') (ob':=.map ms'.toArray cl') hi he rfl rfl rfl (fun b _ hb=>by
  have:¬e.b=b:=fun q=>hb q.symm
  simp[this]) (by simp[hlt]) ⟨ms',hd,rfl⟩ h1 h2
theorem Sim.kmapTurn (h:Sim E ρ G F M nx w) {i:Nat} {ak av:Bool} {α:Type} {l:List α} {kf vf:α→List PL} {y:α} {e:eT} {es:List (AV×AV×Nat)} {ms:List MapEntry} {x z:Value} {cl:Nat} {M':T} (hi:M.get i=some (.kmap true ak av α l kf vf)) (he:ρ i=some e)
  (hs:es.map (fun e=>(e.1,e.2.1))=l.map (fun x=>(dT ak (kf x),dT av (vf x)))) (hd:bU E ρ es=some ms) (h3:w.heap[e.b]?=some (.map ms.toArray cl)) (hk:den E ρ (dT ak (kf y))=some x) (hv:den E ρ (dT av (vf y))=some z)
  (h1:M'.get i=some (.kmap true ak av α (l++[y]) kf vf)) (h2:∀m,m≠i→M'.get m=M.get m):
  Sim E ρ G F M' nx {w with heap:=w.heap.setIfInBounds e.b (.map (ms++[(⟨x,z,cl⟩:MapEntry)]).toArray (cl+1))}:=by
 have hlt:=cg h3
 exact h.turn (o':=.kmap true ak av α (l++[y]) kf vf) (ob':=.map (ms++[(⟨x,z,cl⟩:MapEntry)]).toArray (cl+1)) hi he rfl rfl rfl (fun b _ hb=>by
  have:¬e.b=b:=fun q=>hb q.symm
  simp[this]) (by simp[hlt]) ⟨es++[(dT ak (kf y),dT av (vf y),cl)],cl+1,ms++[(⟨x,z,cl⟩:MapEntry)],by simp[hs],LB hd hk hv,rfl⟩ h1 h2
noncomputable def anR (M:T) (nx:Nat) (K:AV→T→Nat→Bool):Bool:=T.set bM M nx (some (.map [] 0)) fun M'=>fN (Nat.succ nx) fun n=>K (.map nx) M' n
theorem ajQ (h:Sim E ρ G F M nx w) {K:AV→T→Nat→Bool} (hk:anR M nx K=true) {t:TypeId} {kt e:TypeId} (ht:P.underlying t=some (.map kt e)) {hint:Option Value} (hh:∀v,hint=some v→∃k n,v= .int k n):
  ∃v M' nx' ρ' w' x,ρ.Le ρ'∧Sim E ρ' G F M' nx' w'∧K v M' nx'=true∧den E ρ' v=some x∧(Instr.makeMap t hint).run P w= .ok x w':=by
 obtain⟨M',k1,k2,k3⟩:=T.set_ok _ _ _ _ _ hk
 rw[bY]at k1
 have hn:=h.fresh nx (apM _)
 refine⟨_,M',_,ρ.set nx ⟨w.heap.size,0⟩,w.alloc (.map #[] 0),Value.map (some w.heap.size),Ren.le_set _ hn,h.alloc (o:=.map [] 0) (ob:=.map #[] 0) hn (Nat.le_succ _) (Nat.lt_succ_self _) (cap:=0) ⟨[],rfl,rfl⟩ k2 k3,k1,by simp[den,Ren.set_self],?_⟩
 rcases hint with _|v
 ·simp[Instr.makeMap,newObj,Sem.run]
 ·obtain⟨k,n,rfl⟩:=hh v rfl
  simp[Instr.makeMap,run_underlying ht,asInt,asIntOf,newObj,Sem.run]
noncomputable def muX (d:Nat) (et:ET) (m k v:AV) (M:T) (K:T→Bool):Bool:=
 Ao d et k (zS m false fun i=>bn (isK M i) (MN M i fun sure ak av α l kf vf=>aa sure (aM fun Q:α→Prop=>aa (agX d et k ak α l kf Q) (aa (aN (∀x∈l,¬Q x)) (aM fun x:α=>aa (aN (dT ak (kf x)=k)) (aa (aN (dT av (vf x)=v)) (T.set bM M i (some (.kmap true ak av α (l++[x]) kf vf)) K)))))) (te M i fun es cl=>TX d et k es
  (app es [(k,v,cl)] fun es'=>fN (Nat.succ cl) fun cl'=>T.set bM M i (some (.map es' cl')) K)
  fun j e=>aa (sbX e.1 k) (nR es j [(k,v,e.2.2)] fun es'=>T.set bM M i (some (.map es' cl)) K)))
theorem anN (h:Sim E ρ G F M nx w) {d:Nat} {et:ET} {m k v:AV} {K:T→Bool} {x y z:Value} {t kt e:TypeId} (hd:d≤10000) (ht:P.underlying t=some (.map kt e)) (hc:du P d et kt=true) (hm:den E ρ m=some x) (hk:den E ρ k=some y) (hv:den E ρ v=some z)
  (hg:muX d et m k v M K=true):∃M' w',Sim E ρ G F M' nx w'∧K M'=true∧(Instr.mapUpdate t x y z).run P w= .ok () w':=by
 obtain⟨g1,g2⟩:=AK d hc hk hg
 rcases oZ g1 with⟨_,g3⟩|⟨i,rfl,g3⟩
 ·cases g3
 rcases bi g3 with⟨_,g3⟩|⟨_,g3⟩
 ·obtain⟨sure,ak,av,α,l,kf,vf,hi,g4⟩:=EC g3
  obtain⟨hsu,g4⟩:=aj g4
  subst hsu
  obtain⟨Q,g5⟩:=cd g4
  obtain⟨g6,g7⟩:=aj g5
  obtain⟨g8,g9⟩:=ai g7
  obtain⟨y0,g10⟩:=cd g9
  obtain⟨g11,g12⟩:=ai g10
  obtain⟨g13,g14⟩:=ai g12
  obtain⟨f,es,ms,cl,f1,fs,f2,f3⟩:=h.kmapS hi
  simp only[den,f1]at hm
  cases hm
  obtain⟨M',k1,k2,k3⟩:=T.set_ok _ _ _ _ _ g14
  rcases Sf hd hc hk fs f2 (Zq g6) with⟨q1,q2⟩|⟨j,e',y',q1,q2,q3,q4⟩
  ·refine⟨M',_,h.kmapTurn hi f1 fs f2 f3 (by rw[g11];exact hk) (by rw[g13];exact hv) k2 k3,k1,?_⟩
   simp[Instr.mapUpdate,run_underlying ht,MapKept.run_getObj_map f3,g2 _ 10000 w hd,q2,MapKept.run_setObj_map _ f3]
  ·exact absurd q2 (g8 e' (apA q1))
 obtain⟨es,cl,hi,g4⟩:=kB g3
 obtain⟨f,ms,f1,f2,f3⟩:=h.map hi
 simp only[den,f1]at hm
 cases hm
 rcases Lv hd hc hk f2 g4 with⟨q1,q2⟩|⟨j,e',y',q1,q2,q3,q4⟩
 ·rw[BC,bY]at q1
  obtain⟨M',k1,k2,k3⟩:=T.set_ok _ _ _ _ _ q1
  refine⟨M',_,h.mapTurn hi f1 (LB f2 hk hv) k2 k3,k1,?_⟩
  simp[Instr.mapUpdate,run_underlying ht,MapKept.run_getObj_map f3,g2 _ 10000 w hd,q2,MapKept.run_setObj_map _ f3]
 ·obtain⟨hs,q5⟩:=aj q2
  obtain⟨q6,hle⟩:=fJ q5
  obtain⟨M',k1,k2,k3⟩:=T.set_ok _ _ _ _ _ q6
  obtain⟨xk,yv,r1,r2,r3⟩:=Zm f2 q1
  have hset:es.take j++[(k,v,e'.2.2)]++es.drop (j+[(k,v,e'.2.2)].length)=es.set j (k,v,e'.2.2):=by
   simp at hle
   rw[List.set_eq_take_append_cons_drop,if_pos (by omega)]
   simp
  rw[hset]at k2
  refine⟨M',_,h.mapTurn hi f1 (Wo (i:=j) f2 hk hv) k2 k3,k1,?_⟩
  have hm:(ms.toArray.modify j fun e=>{e with key:=y,val:=z})=(ms.set j ⟨y,z,e'.2.2⟩).toArray:=by
   apply Array.ext'
   simp only[Array.toList_modify,List.toList_toArray]
   refine List.ext_getElem? fun q=> ?_
   have hlt:=(List.getElem?_eq_some_iff.1 r3).1
   by_cases hq:j=q
   ·subst hq
    rw[List.getElem?_modify_eq,r3,List.getElem?_set_self hlt]
    rfl
   ·rw[List.getElem?_modify_ne _ _ hq,List.getElem?_set_ne hq]
  have hstay:(Instr.keyThatStays (((ms.toArray[j]?).map (·.key)).getD y) y).run P w= .ok y w:=by
   simp[r3,Instr.keyThatStays,anm hs r1 hk]
  simp only[Instr.mapUpdate,apH,run_underlying ht,apG,MapKept.run_getObj_map f3,g2 _ 10000 w hd,q4,hstay,MapKept.run_setObj_map _ f3]
  rw[hm]
noncomputable def aor (d:Nat) (et:ET) (m k:AV) (M:T) (K:T→Bool):Bool:=
 Ao d et k (zS m (K M) fun i=>te M i fun es cl=>TX d et k es (T.set bM M i (some (.map es cl)) K) fun j _=>ers es j fun es'=>T.set bM M i (some (.map es' cl)) K)
theorem akh (h:Sim E ρ G F M nx w) {d:Nat} {et:ET} {m k:AV} {K:T→Bool} {x y:Value} {t t2 kt e ty:TypeId} (hd:d≤10000) (ht:P.underlying t=some (.map kt e)) (hc:du P d et kt=true) (hm:den E ρ m=some x) (hk:den E ρ k=some y)
  (hg:aor d et m k M K=true):∃M' w',Sim E ρ G F M' nx w'∧K M'=true∧(Builtin.delete_ #[t,t2] ty #[x,y]).run P w= .ok (.tuple #[]) w':=by
 obtain⟨g1,g2⟩:=AK d hc hk hg
 rcases oZ g1 with⟨rfl,g3⟩|⟨i,rfl,g3⟩
 ·cases hm
  exact⟨M,w,h,g3,by simp[Builtin.delete_,run_underlying ht,g2 _ 10000 w hd]⟩
 obtain⟨es,cl,hi,g4⟩:=kB g3
 obtain⟨f,ms,f1,f2,f3⟩:=h.map hi
 simp only[den,f1]at hm
 cases hm
 rcases Lv hd hc hk f2 g4 with⟨q1,q2⟩|⟨j,e',y',q1,q2,q3,q4⟩
 ·obtain⟨M',k1,k2,k3⟩:=T.set_ok _ _ _ _ _ q1
  exact⟨M',_,h.mapTurn hi f1 f2 k2 k3,k1,by simp[Builtin.delete_,run_underlying ht,MapKept.run_getObj_map f3,g2 _ 10000 w hd,q2,MapKept.run_setObj_map _ f3]⟩
 ·obtain⟨q5,hlt⟩:=aeg q2
  obtain⟨M',k1,k2,k3⟩:=T.set_ok _ _ _ _ _ q5
  refine⟨M',_,h.mapTurn hi f1 (Nl (i:=j) f2) k2 k3,k1,?_⟩
  have hm:ms.toArray.eraseIdxIfInBounds j=(ms.eraseIdx j).toArray:=by
   have hl:=Lz f2
   rw[Array.eraseIdxIfInBounds,dif_pos (by simp;omega)]
   simp
  simp[Builtin.delete_,run_underlying ht,MapKept.run_getObj_map f3,g2 _ 10000 w hd,q4,MapKept.run_setObj_map _ f3,hm]
noncomputable def anS (m:AV) (M:T) (K:T→Bool):Bool:=zS m (K M) fun i=>te M i fun _ cl=>T.set bM M i (some (.map [] cl)) K
theorem ajR (h:Sim E ρ G F M nx w) {m:AV} {K:T→Bool} {x:Value} {t kt e ty:TypeId} (ht:P.underlying t=some (.map kt e)) (hm:den E ρ m=some x) (hg:anS m M K=true):
  ∃M' w',Sim E ρ G F M' nx w'∧K M'=true∧(Builtin.clear_ #[t] ty #[x]).run P w= .ok (.tuple #[]) w':=by
 rcases oZ hg with⟨rfl,g3⟩|⟨i,rfl,g3⟩
 ·cases hm
  exact⟨M,w,h,g3,by simp[Builtin.clear_,run_underlying ht]⟩
 obtain⟨es,cl,hi,g4⟩:=kB g3
 obtain⟨f,ms,f1,f2,f3⟩:=h.map hi
 simp only[den,f1]at hm
 cases hm
 obtain⟨M',k1,k2,k3⟩:=T.set_ok _ _ _ _ _ g4
 exact⟨M',_,h.mapTurn hi f1 (es':=[]) (ms':=[]) rfl k2 k3,k1,by simp[Builtin.clear_,run_underlying ht,MapKept.run_getObj_map f3,MapKept.run_setObj_map _ f3]⟩
end
end Go.Sy
namespace Go.Sy
open Go Go.RowKit Go.Eng
open Go.ChangeMaps (setBlock)
section
variable {P:Program} {E:Env} {ρ:Ren} {G:GS} {F:List bh} {M:T} {nx:Nat} {w:World}
noncomputable def ahY (v:AV) (K:AV→Bool):Bool:=qX v fun l=>fN (db l) fun n=>K (.int 0 (.ofNat n))
theorem afU {v:AV} {K:AV→Bool} {x:Value} {t ty:TypeId} (ht:P.underlying t=some .string) (hv:den E ρ v=some x) (hk:ahY v K=true):∃u z,den E ρ u=some z∧K u=true∧∀(cs:Array Bool) w,(builtin .len #[t] ty cs #[x]).run P w= .ok (.value z) w:=by
 obtain⟨l,rfl,k1⟩:=jj hk
 rw[bY,cw]at k1
 cases hv
 refine⟨_,_,rfl,k1,fun cs w=> ?_⟩
 have h1:ByteArray.size ⟨(l.map UInt8.ofNat).toArray⟩=l.length:=by simp[ByteArray.size]
 simp[builtin,Builtin.len_,h1,goInt,run_underlying ht,cR]
noncomputable def an2 (v:AV) (K:AV→Bool):Bool:=ue v (K (.int 0 (.ofNat 0))) fun _ _ n _=>K (.int 0 (.ofNat n))
theorem ajZ {v:AV} {K:AV→Bool} {x:Value} {t ty e:TypeId} (ht:P.underlying t=some (.slice e)) (hv:den E ρ v=some x) (hk:an2 v K=true):∃u z,den E ρ u=some z∧K u=true∧∀(cs:Array Bool) w,(builtin .len #[t] ty cs #[x]).run P w= .ok (.value z) w:=by
 rcases jE hk with⟨rfl,k1⟩|⟨i,o,n,c,rfl,k1⟩
 ·cases hv
  exact⟨_,_,rfl,k1,fun cs w=>by simp[builtin,Builtin.len_,goInt,run_underlying ht,cR]⟩
 ·simp only[den]at hv
  split at hv
  ·cases hv
   exact⟨_,_,rfl,k1,fun cs w=>by simp[builtin,Builtin.len_,goInt,run_underlying ht,cR]⟩
  ·cases hv
noncomputable def aoy (v:AV) (K:AV→Bool):Bool:=ue v (K (.int 0 (.ofNat 0))) fun _ _ _ c=>ACap.casesOn c (fun n=>K (.int 0 (.ofNat n))) (fun _=>false)
theorem ako {v:AV} {K:AV→Bool} {x:Value} {t ty e:TypeId} (ht:P.underlying t=some (.slice e)) (hv:den E ρ v=some x) (hk:aoy v K=true):∃u z,den E ρ u=some z∧K u=true∧∀(cs:Array Bool) w,(builtin .cap #[t] ty cs #[x]).run P w= .ok (.value z) w:=by
 rcases jE hk with⟨rfl,k1⟩|⟨i,o,n,c,rfl,k1⟩
 ·cases hv
  exact⟨_,_,rfl,k1,fun cs w=>by simp[builtin,Builtin.cap_,goInt,run_underlying ht,cR]⟩
 ·simp only[den]at hv
  split at hv
  ·cases hv
   cases c with
   |ex c=>exact⟨_,_,rfl,k1,fun cs w=>by simp[builtin,Builtin.cap_,goInt,run_underlying ht,cR,df]⟩
   |rest k=>cases k1
  ·cases hv
noncomputable def ah3 (v:AV) (M:T) (K:AV→Bool):Bool:=zS v (K (.int 0 (.ofNat 0))) fun i=>te M i fun es _=>fN (db es) fun n=>K (.int 0 (.ofNat n))
theorem agf (h:Sim E ρ G F M nx w) {v:AV} {K:AV→Bool} {x:Value} {t ty kt e:TypeId} (ht:P.underlying t=some (.map kt e)) (hv:den E ρ v=some x) (hk:ah3 v M K=true):∃u z,den E ρ u=some z∧K u=true∧∀cs:Array Bool,(builtin .len #[t] ty cs #[x]).run P w= .ok (.value z) w:=by
 rcases oZ hk with⟨rfl,k1⟩|⟨i,rfl,k1⟩
 ·cases hv
  exact⟨_,_,rfl,k1,fun cs=>by simp[builtin,Builtin.len_,goInt,run_underlying ht,cR]⟩
 ·obtain⟨es,cl,hi,k2⟩:=kB k1
  rw[bY,cw]at k2
  obtain⟨f,ms,f1,f2,f3⟩:=h.map hi
  simp only[den,f1]at hv
  cases hv
  refine⟨_,_,rfl,k2,fun cs=> ?_⟩
  have:=Lz f2
  simp[builtin,Builtin.len_,goInt,run_underlying ht,cR,MapKept.run_getObj_map f3,this]
noncomputable def mxX (mx:Bool) (v1 v2:AV) (K:AV→Bool):Bool:=jF v1 fun k a=>jF v2 fun k2 b=>aa (Nat.beq k k2) (bn (xA a b) (bn mx (K v2) (K v1)) (bn mx (K v1) (K v2)))
theorem anM {mx:Bool} {v1 v2:AV} {K:AV→Bool} {x y:Value} {ta:Array TypeId} {ty:TypeId} (h1:den E ρ v1=some x) (h2:den E ρ v2=some y) (hk:mxX mx v1 v2 K=true):
  ∃u z,den E ρ u=some z∧K u=true∧∀(cs:Array Bool) w,(builtin (bif mx then .max else .min) ta ty cs #[x,y]).run P w= .ok (.value z) w:=by
 obtain⟨k,a,b,rfl,rfl,g⟩:=qe (f:=fun k a b=>bn (xA a b) (bn mx (K v2) (K v1)) (bn mx (K v1) (K v2))) hk
 cases h1;cases h2
 rw[Bi]at g
 rcases bi g with⟨q,g⟩|⟨q,g⟩
 ·have q:a<b:=of_decide_eq_true q
  rcases bi g with⟨rfl,g⟩|⟨rfl,g⟩
  ·exact⟨_,_,rfl,g,fun cs w=>by simp[builtin,Builtin.max_,Builtin.max2,q]⟩
  ·exact⟨_,_,rfl,g,fun cs w=>by
    have:¬b<a:=by omega
    simp[builtin,Builtin.min_,Builtin.min2,this]⟩
 ·have q:¬a<b:=of_decide_eq_false q
  rcases bi g with⟨rfl,g⟩|⟨rfl,g⟩
  ·exact⟨_,_,rfl,g,fun cs w=>by simp[builtin,Builtin.max_,Builtin.max2,q]⟩
  ·refine⟨_,_,rfl,g,fun cs w=> ?_⟩
   by_cases e:b<a
   ·simp[builtin,Builtin.min_,Builtin.min2,e]
   ·have:a=b:=by omega
    subst this
    simp[builtin,Builtin.min_,Builtin.min2]
noncomputable def aok (i:Nat) (v:AV) (K:AV→Bool):Bool:=aic v fun l=>eu (fb l i) K
theorem ake {i:Nat} {v:AV} {K:AV→Bool} {x:Value} (hv:den E ρ v=some x) (hk:aok i v K=true):∃u z,den E ρ u=some z∧K u=true∧∀w,(Instr.extract x i).run P w= .ok z w:=by
 obtain⟨l,rfl,k1⟩:=agY hk
 obtain⟨u,hu,k2⟩:=ci k1
 rw[iA]at hu
 simp only[den]at hv
 split at hv
 ·rename_i xs hd
  cases hv
  obtain⟨z,h1,h2⟩:=rO hd hu
  exact⟨u,z,h1,k2,fun w=>by simp[Instr.extract,h2]⟩
 ·cases hv
noncomputable def anj (v iv:AV) (K:AV→Bool):Bool:=qX v fun l=>GY iv fun _ n=>eu (fb l n) fun c=>aa (Nat.blt c 256) (K (.int 1 (.ofNat c)))
theorem ajn {v iv:AV} {K:AV→Bool} {x y:Value} {t:TypeId} (ht:P.underlying t=some .string) (hv:den E ρ v=some x) (hi:den E ρ iv=some y) (hk:anj v iv K=true):∃u z,den E ρ u=some z∧K u=true∧∀w,(Instr.index t x y).run P w= .ok z w:=by
 obtain⟨l,rfl,k1⟩:=jj hk
 obtain⟨kd,n,rfl,k2⟩:=yb k1
 obtain⟨c,hc,k3⟩:=ci k2
 obtain⟨hb,k4⟩:=aj k3
 rw[apV]at hb
 rw[iA]at hc
 cases hv;cases hi
 refine⟨_,_,rfl,k4,fun w=> ?_⟩
 have hlt:=(List.getElem?_eq_some_iff.1 hc).1
 have hg:(ByteArray.data ⟨(l.map UInt8.ofNat).toArray⟩)[n]?=some (UInt8.ofNat c):=by simp[hc]
 have h1:ByteArray.size ⟨(l.map UInt8.ofNat).toArray⟩=l.length:=by simp[ByteArray.size]
 have hx:l[n]'hlt=c:=(List.getElem?_eq_some_iff.1 hc).2
 simp[Instr.index,run_underlying ht,asIntOf,h1,hlt,cR]
 show(((((l.map UInt8.ofNat).toArray)[n]'(by simp;omega)).toNat:Nat):Int)=c
 simp[hx]
 omega
noncomputable def itX (mi:Option Nat) (cl:Nat) (M:T) (nx:Nat) (K:AV→T→Nat→Bool):Bool:=T.set bM M nx (some (.iter mi cl [] cl)) fun M'=>fN (Nat.succ nx) fun n=>K (.ptr nx 0) M' n
noncomputable def ann (m:AV) (M:T) (nx:Nat) (K:AV→T→Nat→Bool):Bool:=zS m (itX none 0 M nx K) fun i=>te M i fun _ cl=>itX (some i) cl M nx K
theorem ajq (h:Sim E ρ G F M nx w) {m:AV} {K:AV→T→Nat→Bool} {x:Value} {t kt e:TypeId} (ht:P.underlying t=some (.map kt e)) (hm:den E ρ m=some x) (hk:ann m M nx K=true):
  ∃v M' nx' ρ' w' z,ρ.Le ρ'∧Sim E ρ' G F M' nx' w'∧K v M' nx'=true∧den E ρ' v=some z∧(Instr.range t x).run P w= .ok z w':=by
 have hn:=h.fresh nx (apM _)
 rcases oZ hk with⟨rfl,g⟩|⟨i,rfl,g⟩
 ·cases hm
  obtain⟨M',k1,k2,k3⟩:=T.set_ok _ _ _ _ _ g
  rw[bY]at k1
  exact⟨_,M',_,ρ.set nx ⟨w.heap.size,0⟩,w.alloc (.mapIter none 0 #[] 0),.pointer (some ⟨w.heap.size,0,none⟩),Ren.le_set _ hn,h.alloc (o:=.iter none 0 [] 0) (ob:=.mapIter none 0 #[] 0) hn (Nat.le_succ _) (Nat.lt_succ_self _) (cap:=0) ⟨none,rfl,rfl⟩ k2 k3,k1,by simp[den,Ren.set_self],run_range_nilMap w t kt e ht⟩
 ·obtain⟨es,cl,hi,g2⟩:=kB g
  obtain⟨f,ms,f1,f2,f3⟩:=h.map hi
  simp only[den,f1]at hm
  cases hm
  obtain⟨M',k1,k2,k3⟩:=T.set_ok _ _ _ _ _ g2
  rw[bY]at k1
  have hne:i≠nx:=fun q=>by rw[q,hn]at f1;cases f1
  exact⟨_,M',_,ρ.set nx ⟨w.heap.size,0⟩,w.alloc (.mapIter (some f.b) cl #[] cl),.pointer (some ⟨w.heap.size,0,none⟩),Ren.le_set _ hn,h.alloc (o:=.iter (some i) cl [] cl) (ob:=.mapIter (some f.b) cl #[] cl) hn (Nat.le_succ _) (Nat.lt_succ_self _) (cap:=0) ⟨some f.b,⟨f,f1,rfl⟩,rfl⟩ k2 k3,k1,by simp[den,Ren.set_self],run_range_map w t kt e f.b _ cl ht f3⟩
noncomputable def Lt (n:Nat) (l:List Nat):Bool:=List.rec false (fun x _ ih=>Bool.rec ih true (Nat.beq x n)) l
theorem Ox (n:Nat):∀l,Lt n l=l.contains n
 |[]=>rfl
 |x::l=>by
  have:Lt n (x::l)=Bool.rec (motive:=fun _=>Bool) (Lt n l) true (Nat.beq x n):=rfl
  rw[this,Ox n l]
  by_cases h:x=n
  ·subst h;simp
  ·have hb:Nat.beq x n=false:=by
    cases e:Nat.beq x n with
    |false=>rfl
    |true=>exact absurd (apz e) h
   simp[hb,Ne.symm h]
noncomputable def ach (since:Nat) (es:List (AV×AV×Nat)):Bool:=List.rec true (fun e _ ih=>Bool.rec false ih (Nat.blt e.2.2 since)) es
theorem Ww {since:Nat}:∀{es:List (AV×AV×Nat)} {ms:List MapEntry},ach since es=true→bU E ρ es=some ms→∀x∈ms,x.born<since
 |[],ms,_,h=>by simp[bU]at h;subst h;simp
 |(k,v,b)::es,ms,hb,h=>by
  obtain⟨x,y,ms',h1,h2,h3,rfl⟩:=dO h
  have hb':Bool.rec (motive:=fun _=>Bool) false (ach since es) (Nat.blt b since)=true:=hb
  have hv:Nat.blt b since=true:=by
   cases q:Nat.blt b since with
   |true=>rfl
   |false=>rw[q]at hb';cases hb'
  rw[hv]at hb'
  rw[apV]at hv
  intro z hz
  rcases apF.1 hz with rfl|hz
  ·exact hv
  ·exact Ww hb' h3 z hz
noncomputable def Ua (seen:List Nat) (es:List (AV×AV×Nat)) (K:AV×AV×Nat→Bool):Bool:=List.rec true (fun e _ ih=>bn (Lt e.2.2 seen) ih (aa (K e) ih)) es
noncomputable def Fj (seen:List Nat) (es:List (AV×AV×Nat)):Bool:=List.rec false (fun e _ ih=>bn (Lt e.2.2 seen) ih true) es
theorem LD {seen:List Nat} {K:AV×AV×Nat→Bool}:∀{es:List (AV×AV×Nat)} {ms:List MapEntry},Ua seen es K=true→bU E ρ es=some ms→∀x∈ms,seen.contains x.born=false→∃e,K e=true∧e∈es∧den E ρ e.1=some x.key∧den E ρ e.2.1=some x.val∧e.2.2=x.born
 |[],ms,_,h=>by simp[bU]at h;subst h;simp
 |(k,v,b)::es,ms,hc,h=>by
  obtain⟨x,y,ms',h1,h2,h3,rfl⟩:=dO h
  have hc':bn (Lt b seen) (Ua seen es K) (aa (K (k,v,b)) (Ua seen es K))=true:=hc
  intro z hz hs
  rcases bi hc' with⟨q,hc'⟩|⟨q,hc'⟩
  ·rcases apF.1 hz with rfl|hz
   ·rw[Ox]at q
    rw[q]at hs;cases hs
   ·obtain⟨e,e1,e2,e3⟩:=LD hc' h3 z hz hs
    exact⟨e,e1,by simp[e2],e3⟩
  ·obtain⟨q1,q2⟩:=aj hc'
   rcases apF.1 hz with rfl|hz
   ·exact⟨_,q1,by simp,h1,h2,rfl⟩
   ·obtain⟨e,e1,e2,e3⟩:=LD q2 h3 z hz hs
    exact⟨e,e1,by simp[e2],e3⟩
theorem OO {seen:List Nat}:∀{es:List (AV×AV×Nat)} {ms:List MapEntry},bU E ρ es=some ms→(Fj seen es=true↔∃x∈ms,seen.contains x.born=false)
 |[],ms,h=>by simp[bU]at h;subst h;simp[Fj]
 |(k,v,b)::es,ms,h=>by
  obtain⟨x,y,ms',h1,h2,h3,rfl⟩:=dO h
  have hu:Fj seen ((k,v,b)::es)=bn (Lt b seen) (Fj seen es) true:=rfl
  rw[hu,MW,Ox]
  have ih:=OO (seen:=seen) h3
  cases q:seen.contains b with
  |true=>
   simp only[cond_true,ih,apF,exists_eq_or_imp,q,Bool.true_eq_false,false_or]
  |false=>
   simp only[cond_false,apF,exists_eq_or_imp,q,true_or]
noncomputable def anB (it:AV) (M:T) (K:AV→T→Bool):Bool:=nz it fun r o=>aa (Nat.beq o 0) (VI M r fun mi since seen c0=>Option.casesOn mi (K (.tup [.bool false]) M) fun i=>te M i fun es cl=>
 aa (Nat.ble since c0) (aa (ach since es) (bn (Fj seen es)
  (Ua seen es fun e=>app seen [e.2.2] fun seen'=>T.set bM M r (some (.iter (some i) since seen' cl)) fun M'=>K (.tup [.bool true,e.1,e.2.1]) M')
  (K (.tup [.bool false]) M))))
theorem ajy (h:Sim E ρ G F M nx w) {it:AV} {K:AV→T→Bool} {x:Value} {ty:TypeId} (hv:den E ρ it=some x) (hk:anB it M K=true):
  ∃v M' w' z,Sim E ρ G F M' nx w'∧K v M'=true∧den E ρ v=some z∧(Instr.next x false ty).run P w= .ok z w':=by
 obtain⟨r,o,rfl,g1⟩:=ie hk
 obtain⟨g2,g3⟩:=aj g1
 have g2:=apz g2
 subst g2
 obtain⟨mi,since,seen,c0,hi,g4⟩:=Sd g3
 obtain⟨e,ob,e1,e2,mb,e3,rfl⟩:=h.obj hi
 simp only[den,e1]at hv
 cases hv
 cases mi with
 |none=>
  have e3:mb=none:=e3
  subst e3
  refine⟨_,M,w,.tuple #[.bool false],h,g4,rfl,?_⟩
  simp only[Instr.next,getObj,apH,Sem.run,e2,Result.andThen]
  rfl
 |some i=>
  obtain⟨f,f1,rfl⟩:∃f,ρ i=some f∧mb=some f.b:=e3
  obtain⟨es,cl,hm,g5⟩:=kB g4
  obtain⟨f',ms,f2,f3,f4⟩:=h.map hm
  rw[f1]at f2;cases f2
  obtain⟨g6,g7⟩:=aj g5
  obtain⟨g8,g9⟩:=aj g7
  rw[Nat.ble_eq]at g6
  have hold:=Ww g8 f3
  rcases run_next_at (P:=P) w ty e.b f.b since c0 seen.toArray ms.toArray cl e2 f4 (by simpa using hold) g6 with⟨n1,n2⟩|⟨en,n1,w1,n2,n3⟩
  ·have hno:Fj seen es=false:=by
    cases q:Fj seen es with
    |false=>rfl
    |true=>
     obtain⟨x,hx,hs⟩:=(OO f3).1 q
     have hmem:x∈leftOf ms.toArray seen.toArray:=by simpa[leftOf] using⟨hx,by simpa using hs⟩
     have:=Array.size_pos_of_mem hmem
     omega
   rw[MW,hno,cond_false]at g9
   exact⟨_,M,w,_,h,g9,rfl,n2⟩
  ·have hmem:en∈ms∧seen.contains en.born=false:=by simpa[leftOf] using n1
   have hyes:Fj seen es=true:=(OO f3).2 ⟨en,hmem⟩
   rw[MW,hyes,cond_true]at g9
   obtain⟨c,c1,c2,c3,c4,c5⟩:=LD g9 f3 en hmem.1 hmem.2
   rw[BC]at c1
   obtain⟨M',k1,k2,k3⟩:=T.set_ok _ _ _ _ _ c1
   have hw1:Sim E ρ G F M nx w1:=by rcases n2 with rfl|rfl<;>first|exact h|exact h.drawn
   have hr1:w1.heap=w.heap:=by rcases n2 with rfl|rfl<;>rfl
   have hlt:=cg e2
   refine⟨_,M',_,.tuple #[.bool true,en.key,en.val],?_,k1,by simp only[den,aS,c3,c4],n3⟩
   refine hw1.turn (o':=.iter (some i) since (seen++[c.2.2]) cl) (ob':=.mapIter (some f.b) since (seen.toArray.push en.born) cl) hi e1 rfl rfl rfl (fun b _ hb=> ?_) ?_ ⟨some f.b,⟨f,f1,rfl⟩,by rw[c5];simp⟩ k2 k3
   ·have:¬e.b=b:=fun q=>hb q.symm
    simp[setBlock,this]
   ·simp[setBlock,hr1,hlt]
noncomputable def agv (b:Nat) (es:List (AV×AV×Nat)) (K:AV×AV×Nat→Bool):Bool:=List.rec false (fun e _ ih=>bn (Nat.beq e.2.2 b) (K e) ih) es
theorem Zg {b:Nat} {K:AV×AV×Nat→Bool}:∀{es:List (AV×AV×Nat)} {ms:List MapEntry},agv b es K=true→bU E ρ es=some ms→∃e x y,K e=true∧den E ρ e.1=some x∧den E ρ e.2.1=some y∧ms.find? (·.born==b)=some ⟨x,y,b⟩
 |[],ms,hf,h=>by cases hf
 |(k,v,c)::es,ms,hf,h=>by
  obtain⟨x,y,ms',h1,h2,h3,rfl⟩:=dO h
  have hf':bn (Nat.beq c b) (K (k,v,c)) (agv b es K)=true:=hf
  rcases bi hf' with⟨q,g⟩|⟨q,g⟩
  ·have:=apz q
   subst this
   exact⟨_,x,y,g,h1,h2,by simp⟩
  ·obtain⟨e,x',y',r1,r2,r3,r4⟩:=Zg g h3
   refine⟨e,x',y',r1,r2,r3,?_⟩
   have:(c==b)=false:=by
    rw[abC]at q
    simpa using q
   simp[this,r4]
noncomputable def ah4 (l:List Nat) (K:Nat→Bool):Bool:=List.rec false (fun x xs ih=>List.casesOn xs (K x) fun _ _=>ih) l
theorem Vl {K:Nat→Bool}:∀{l:List Nat},ah4 l K=true→∃x r,l=r++[x]∧K x=true
 |[],h=>by cases h
 |[x],h=>⟨x,[],rfl,h⟩
 |x::y::l,h=>by
  obtain⟨z,r,h1,h2⟩:=Vl (l:=y::l) h
  exact⟨z,x::r,by rw[h1];rfl,h2⟩
noncomputable def aoq (it:AV) (M:T) (K:AV→Bool):Bool:=nz it fun r o=>aa (Nat.beq o 0) (VI M r fun mi _ seen c0=>eu mi fun i=>te M i fun es cl=>aa (Nat.beq c0 cl) (ah4 seen fun b=>agv b es fun e=>K (.tup [e.1,e.2.1])))
theorem akf (h:Sim E ρ G F M nx w) {it:AV} {K:AV→Bool} {x:Value} (hv:den E ρ it=some x) (hk:aoq it M K=true):∃v z,den E ρ v=some z∧K v=true∧(Instr.entry x).run P w= .ok z w:=by
 obtain⟨r,o,rfl,g1⟩:=ie hk
 obtain⟨g2,g3⟩:=aj g1
 have g2:=apz g2
 subst g2
 obtain⟨mi,since,seen,c0,hi,g4⟩:=Sd g3
 obtain⟨i,rfl,g5⟩:=ci g4
 obtain⟨e,ob,e1,e2,mb,e3,rfl⟩:=h.obj hi
 obtain⟨f,f1,rfl⟩:∃f,ρ i=some f∧mb=some f.b:=e3
 simp only[den,e1]at hv
 cases hv
 obtain⟨es,cl,hm,g6⟩:=kB g5
 obtain⟨f',ms,f2,f3,f4⟩:=h.map hm
 rw[f1]at f2;cases f2
 obtain⟨g7,g8⟩:=aj g6
 have g7:=apz g7
 subst g7
 obtain⟨b,q,rfl,g9⟩:=Vl g8
 obtain⟨c,x,y,c1,c2,c3,c4⟩:=Zg g9 f3
 refine⟨_,.tuple #[x,y],by simp only[den,aS,c2,c3],c1,?_⟩
 have hb:(q++[b]).toArray.back?=some b:=by simp
 have hf:ms.toArray.find? (·.born==b)=some ⟨x,y,b⟩:=by simpa using c4
 simp only[Instr.entry,getObj,apH,Sem.run,e2,f4,Result.andThen,hb,hf]
 simp
end
end Go.Sy
namespace Go.Sy
open Go Go.RowKit Go.Eng
section
variable {P:Program} {E:Env} {ρ:Ren} {G:GS} {F:List bh} {M:T} {nx:Nat} {w:World}
noncomputable def arS (o:Nat) (v1 v2:AV) (K:AV→Bool):Bool:=
 pp v1 fun k a=>pp v2 fun k2 b=>aa (Nat.beq k k2) (
  Nat.rec (xx k (a+b) K) (fun o _=>
  Nat.rec (xx k (a - b) K) (fun o _=>
  Nat.rec (xx k (a*b) K) (fun o _=>
  Nat.rec (aa (aN (b≠0)) (xx k (Int.tdiv a b) K)) (fun _ _=>
  aa (aN (b≠0)) (K (.sy (.int k (Int.tmod a b))))) o) o) o) o)
theorem ru {v1 v2:AV} {x y:Value} {f:Nat→Int→Int→Bool} (h1:den E ρ v1=some x) (h2:den E ρ v2=some y) (h:(pp v1 fun k a=>pp v2 fun k2 b=>aa (Nat.beq k k2) (f k a b))=true):∃k a b,x= .int (cR k) a∧y= .int (cR k) b∧f k a b=true:=by
 obtain⟨k,a,e1,g1⟩:=jD h1 h
 obtain⟨k2,b,e2,g2⟩:=jD h2 g1
 obtain⟨g3,g4⟩:=aj g2
 have:=apz g3
 subst this
 exact⟨k,a,b,e1,e2,g4⟩
theorem aoH {o:Nat} {v1 v2:AV} {K:AV→Bool} {x y:Value} (h1:den E ρ v1=some x) (h2:den E ρ v2=some y) (h:arS o v1 v2 K=true) (t:TypeId) (p q:Operand):
  ∃v z,den E ρ v=some z∧K v=true∧∀w,((do eqGuard (mr o) t p q x y;binOp (mr o) t x y):Sem Value).run P w= .ok z w:=by
 match o with
 |0=>
  obtain⟨k,a,b,rfl,rfl,g⟩:=ru (f:=fun k a b=>xx k (a+b) K) h1 h2 h
  obtain⟨g1,g2,g3⟩:=vr (E:=E) (ρ:=ρ) g
  exact⟨_,_,g3,g2,fun w=>by simp[mr,eqGuard,binOp,Op.intArith,g1]⟩
 |1=>
  obtain⟨k,a,b,rfl,rfl,g⟩:=ru (f:=fun k a b=>xx k (a - b) K) h1 h2 h
  obtain⟨g1,g2,g3⟩:=vr (E:=E) (ρ:=ρ) g
  exact⟨_,_,g3,g2,fun w=>by simp[mr,eqGuard,binOp,Op.intArith,g1]⟩
 |2=>
  obtain⟨k,a,b,rfl,rfl,g⟩:=ru (f:=fun k a b=>xx k (a*b) K) h1 h2 h
  obtain⟨g1,g2,g3⟩:=vr (E:=E) (ρ:=ρ) g
  exact⟨_,_,g3,g2,fun w=>by simp[mr,eqGuard,binOp,Op.intArith,g1]⟩
 |3=>
  obtain⟨k,a,b,rfl,rfl,g⟩:=ru (f:=fun k a b=>aa (aN (b≠0)) (xx k (Int.tdiv a b) K)) h1 h2 h
  obtain⟨hb,g⟩:=ai g
  obtain⟨g1,g2,g3⟩:=vr (E:=E) (ρ:=ρ) g
  exact⟨_,_,g3,g2,fun w=>by simp[mr,eqGuard,binOp,Op.intDiv,hb,g1]⟩
 |o+4=>
  obtain⟨k,a,b,rfl,rfl,g⟩:=ru (f:=fun k a b=>aa (aN (b≠0)) (K (.sy (.int k (Int.tmod a b))))) h1 h2 h
  obtain⟨hb,g⟩:=ai g
  exact⟨_,_,rfl,g,fun w=>by simp[mr,eqGuard,binOp,Op.intDiv,hb]⟩
noncomputable def LN (u v:AV):Bool:=Bool.or (fy u) (fy v)
noncomputable def arY (o:Nat) (u v:AV) (K:AV→Bool):Bool:=bn (LN u v) (arS o u v K) (arX o u v K)
theorem aoF {o:Nat} {v1 v2:AV} {K:AV→Bool} {x y:Value} (h1:den E ρ v1=some x) (h2:den E ρ v2=some y) (h:arY o v1 v2 K=true) (t:TypeId) (p q:Operand):
  ∃v z,den E ρ v=some z∧K v=true∧∀w,((do eqGuard (mr o) t p q x y;binOp (mr o) t x y):Sem Value).run P w= .ok z w:=by
 rcases bi h with⟨_,g⟩|⟨_,g⟩
 ·exact aoH h1 h2 g t p q
 ·exact aoG h1 h2 g t p q
def Fc (o:Nat) (a b:Int):Prop:=match o with
 |0=>a<b|1=>a≤b|2=>b<a|3=>b≤a|4=>a=b|_=>¬a=b
noncomputable def aph (o:Nat) (v1 v2:AV) (K:AV→Bool):Bool:=pp v1 fun k a=>pp v2 fun k2 b=>aa (Nat.beq k k2) (K (.sy (.bool (Fc o a b))))
noncomputable def agL (o:Nat) (u v:AV) (K:AV→Bool):Bool:=bn (LN u v) (aph o u v K) (aox o u v K)
theorem akm {o:Nat} {v1 v2:AV} {K:AV→Bool} {x y:Value} (h1:den E ρ v1=some x) (h2:den E ρ v2=some y) (h:agL o v1 v2 K=true) (t:TypeId) (p q:Operand):
  ∃v z,den E ρ v=some z∧K v=true∧∀w,((do eqGuard (mq o) t p q x y;binOp (mq o) t x y):Sem Value).run P w= .ok z w:=by
 rcases bi h with⟨_,g⟩|⟨_,g⟩
 ·obtain⟨k,a,b,rfl,rfl,g⟩:=ru (f:=fun k a b=>K (.sy (.bool (Fc o a b)))) h1 h2 g
  refine⟨_,_,rfl,g,fun w=> ?_⟩
  match o with
  |0=>simp[mq,Fc,eqGuard,binOp,Op.intCmp,pg]
  |1=>simp[mq,Fc,eqGuard,binOp,Op.intCmp,pg]
  |2=>simp[mq,Fc,eqGuard,binOp,Op.intCmp,pg]
  |3=>simp[mq,Fc,eqGuard,binOp,Op.intCmp,pg]
  |4=>simp[mq,Fc,eqGuard,binOp,Op.intCmp,pg,pn]
  |o+5=>simp[mq,Fc,eqGuard,binOp,Op.intCmp,pg,bne,pn]
 ·exact akn h1 h2 g t p q
theorem ajg (l m:List UInt8):(⟨l.toArray⟩:ByteArray)++⟨m.toArray⟩=⟨(l++m).toArray⟩:=by
 apply ByteArray.ext
 simp
noncomputable def abk (u v:AV) (K:AV→Bool):Bool:=bn (LN u v) (Fi u fun l=>Fi v fun m=>aa (aN (l.length+m.length≤9223372036854775807)) (K (.sy (.str (l++m))))) (ahZ u v K)
theorem afY {v1 v2:AV} {K:AV→Bool} {x y:Value} (h1:den E ρ v1=some x) (h2:den E ρ v2=some y) (h:abk v1 v2 K=true) (t:TypeId) (p q:Operand):
  ∃v z,den E ρ v=some z∧K v=true∧∀w,((do eqGuard .add t p q x y;binOp .add t x y):Sem Value).run P w= .ok z w:=by
 rcases bi h with⟨_,g⟩|⟨_,g⟩
 ·obtain⟨l,rfl,g1⟩:=og h1 g
  obtain⟨m,rfl,g2⟩:=og h2 g1
  obtain⟨hb,g⟩:=ai g2
  refine⟨_,_,rfl,g,fun w=> ?_⟩
  have e1:ByteArray.size ⟨l.toArray⟩=l.length:=by simp[ByteArray.size]
  have e2:ByteArray.size ⟨m.toArray⟩=m.length:=by simp[ByteArray.size]
  simp[eqGuard,binOp,Op.stringOp,e1,e2,ajg]
  omega
 ·exact afZ h1 h2 g t p q
noncomputable def afV (ne:Bool) (u v:AV) (K:AV→Bool):Bool:=bn (LN u v) (Fi u fun l=>Fi v fun m=>Bool.rec (K (.sy (.bool (l=m)))) (K (.sy (.bool (¬l=m)))) ne) (anl ne u v K)
theorem ajo {ne:Bool} {v1 v2:AV} {K:AV→Bool} {x y:Value} (h1:den E ρ v1=some x) (h2:den E ρ v2=some y) (h:afV ne v1 v2 K=true) (t:TypeId) (p q:Operand):
  ∃v z,den E ρ v=some z∧K v=true∧∀w,((do eqGuard (bif ne then .neq else .eql) t p q x y;binOp (bif ne then .neq else .eql) t x y):Sem Value).run P w= .ok z w:=by
 rcases bi h with⟨_,g⟩|⟨_,g⟩
 ·obtain⟨l,rfl,g1⟩:=og h1 g
  obtain⟨m,rfl,g2⟩:=og h2 g1
  cases ne
  ·refine⟨.sy (.bool (l=m)),_,rfl,g2,fun w=> ?_⟩
   simp only[cond_false,eqGuard,binOp,Op.stringOp,pb,apH,Sem.run_pure,apG,pg]
   by_cases h:l=m<;>simp[h]
  ·refine⟨.sy (.bool (¬l=m)),_,rfl,g2,fun w=> ?_⟩
   simp only[cond_true,eqGuard,binOp,Op.stringOp,pb,apH,Sem.run_pure,apG,pg]
   by_cases h:l=m<;>simp[h]
 ·exact ajp h1 h2 g t p q
noncomputable def anC (u:AV) (K:AV→Bool):Bool:=bn (fy u) (agZ u fun p=>K (.sy (.bool (¬p)))) (anD u K)
theorem ajz {v:AV} {K:AV→Bool} {x:Value} (h1:den E ρ v=some x) (h:anC v K=true):∃u z,den E ρ u=some z∧K u=true∧∀w,(Op.unary .not x).run P w= .ok z w:=by
 rcases bi h with⟨_,g⟩|⟨_,g⟩
 ·obtain⟨p,rfl,g⟩:=Zs h1 g
  refine⟨_,_,rfl,g,fun w=> ?_⟩
  have:aN (¬p)= !aN p:=by
   by_cases hp:p
   ·rw[prB_true.2 hp,prB_false.2 (fun q=>q hp)];rfl
   ·rw[prB_false.2 hp,prB_true.2 hp];rfl
  simp[Op.unary,this]
 ·exact ajA h1 g
noncomputable def anE (u:AV) (K:AV→Bool):Bool:=bn (fy u) (pp u fun k z=>xx k (-z) K) (anF u K)
theorem ajB {v:AV} {K:AV→Bool} {x:Value} (h1:den E ρ v=some x) (h:anE v K=true):∃u z,den E ρ u=some z∧K u=true∧∀w,(Op.unary .neg x).run P w= .ok z w:=by
 rcases bi h with⟨_,g⟩|⟨_,g⟩
 ·obtain⟨k,z,rfl,g⟩:=jD h1 g
  obtain⟨g1,g2,g3⟩:=vr (E:=E) (ρ:=ρ) g
  exact⟨_,_,g3,g2,fun w=>by simp[Op.unary,Op.intArith,g1]⟩
 ·exact ajC h1 g
noncomputable def aov (k:Nat) (u:AV) (K:AV→Bool):Bool:=bn (fy u) (pp u fun _ z=>xx k z K) (aow k u K)
theorem akk {k:Nat} {v:AV} {K:AV→Bool} {x:Value} (h1:den E ρ v=some x) (h:aov k v K=true) {src dst:TypeId} (hs:(P.underlying src).isSome=true) (hd:P.underlying dst=some (.int (cR k))):
  ∃u z,den E ρ u=some z∧K u=true∧∀w,(convert src dst x).run P w= .ok z w:=by
 rcases bi h with⟨_,g⟩|⟨_,g⟩
 ·obtain⟨k0,z,rfl,g⟩:=jD h1 g
  obtain⟨g1,g2,g3⟩:=vr (E:=E) (ρ:=ρ) g
  obtain⟨d,hs⟩:=Option.isSome_iff_exists.1 hs
  exact⟨_,_,g3,g2,fun w=>by simp[convert,run_underlying hs,run_underlying hd,Conv.intToInt,g1]⟩
 ·exact akl h1 g hs hd
noncomputable def aou (k:Nat) (u:AV) (K:AV→Bool):Bool:=pp u fun _ z=>K (.sy (.int k ((cR k).wrap z)))
theorem akj {k:Nat} {v:AV} {K:AV→Bool} {x:Value} (h1:den E ρ v=some x) (h:aou k v K=true) {src dst:TypeId} (hs:(P.underlying src).isSome=true) (hd:P.underlying dst=some (.int (cR k))):
  ∃u z,den E ρ u=some z∧K u=true∧∀w,(convert src dst x).run P w= .ok z w:=by
 obtain⟨k0,z,rfl,g⟩:=jD h1 h
 obtain⟨d,hs⟩:=Option.isSome_iff_exists.1 hs
 exact⟨_,_,rfl,g,fun w=>by simp[convert,run_underlying hs,run_underlying hd,Conv.intToInt]⟩
noncomputable def ahX (u:AV) (K:AV→Bool):Bool:=bn (fy u) (Fi u fun l=>K (.sy (.int 0 (l.length:Int)))) (ahY u K)
theorem afT {v:AV} {K:AV→Bool} {x:Value} {t ty:TypeId} (ht:P.underlying t=some .string) (hv:den E ρ v=some x) (hk:ahX v K=true):∃u z,den E ρ u=some z∧K u=true∧∀(cs:Array Bool) w,(builtin .len #[t] ty cs #[x]).run P w= .ok (.value z) w:=by
 rcases bi hk with⟨_,g⟩|⟨_,g⟩
 ·obtain⟨l,rfl,g⟩:=og hv g
  refine⟨_,_,rfl,g,fun cs w=> ?_⟩
  have e:ByteArray.size ⟨l.toArray⟩=l.length:=by simp[ByteArray.size]
  simp[builtin,Builtin.len_,goInt,run_underlying ht,cR,e]
 ·exact afU ht hv g
noncomputable def mxY (mx:Bool) (u v:AV) (K:AV→Bool):Bool:=bn (LN u v) (pp u fun k a=>pp v fun k2 b=>aa (Nat.beq k k2) (Bool.rec (K (.sy (.int k (min a b)))) (K (.sy (.int k (max a b)))) mx)) (mxX mx u v K)
theorem anL {mx:Bool} {v1 v2:AV} {K:AV→Bool} {x y:Value} {ta:Array TypeId} {ty:TypeId} (h1:den E ρ v1=some x) (h2:den E ρ v2=some y) (hk:mxY mx v1 v2 K=true):
  ∃u z,den E ρ u=some z∧K u=true∧∀(cs:Array Bool) w,(builtin (bif mx then .max else .min) ta ty cs #[x,y]).run P w= .ok (.value z) w:=by
 rcases bi hk with⟨_,g⟩|⟨_,g⟩
 ·obtain⟨k,m,n,rfl,rfl,g⟩:=ru (f:=fun k a b=>Bool.rec (K (.sy (.int k (min a b)))) (K (.sy (.int k (max a b)))) mx) h1 h2 g
  cases mx
  ·refine⟨.sy (.int k (min m n)),_,rfl,g,fun cs w=> ?_⟩
   have e:(if n<m then n else m)=min m n:=by simp only[Int.min_def];split<;>split<;>omega
   simp[builtin,Builtin.min_,Builtin.min2,e]
  ·refine⟨.sy (.int k (max m n)),_,rfl,g,fun cs w=> ?_⟩
   have e:(if n > m then n else m)=max m n:=by simp only[Int.max_def];split<;>split<;>omega
   simp[builtin,Builtin.max_,Builtin.max2,e]
 ·exact anM h1 h2 g
noncomputable def ani (u v:AV) (K:AV→Bool):Bool:=bn (LN u v) (Fi u fun l=>pp v fun _ z=>aa (aN (0≤z∧z<(l.length:Int))) (K (.sy (.int 1 ((l.getD z.toNat 0).toNat:Int))))) (anj u v K)
theorem ajm {v iv:AV} {K:AV→Bool} {x y:Value} {t:TypeId} (ht:P.underlying t=some .string) (hv:den E ρ v=some x) (hi:den E ρ iv=some y) (hk:ani v iv K=true):∃u z,den E ρ u=some z∧K u=true∧∀w,(Instr.index t x y).run P w= .ok z w:=by
 rcases bi hk with⟨_,g⟩|⟨_,g⟩
 ·obtain⟨l,rfl,g1⟩:=og hv g
  obtain⟨kd,z,rfl,g2⟩:=jD hi g1
  obtain⟨⟨z0,zl⟩,g⟩:=ai g2
  obtain⟨n,rfl⟩:=Int.eq_ofNat_of_zero_le z0
  have hlt:n<l.length:=by omega
  refine⟨_,_,rfl,g,fun w=> ?_⟩
  have h1:ByteArray.size ⟨l.toArray⟩=l.length:=by simp[ByteArray.size]
  simp[Instr.index,run_underlying ht,asIntOf,h1,hlt,cR]
  rfl
 ·exact ajn ht hv hi g
end
section
variable {P:Program} {E:Env} {ρ:Ren} {G:GS} {F:List bh} {M:T} {nx:Nat} {w:World}
noncomputable def toP (v:AV) (K:PL→Bool):Bool:=AV.casesOn v false (fun k z=>K (.int k z)) (fun b=>K (.bool b)) (fun l=>K (.str l)) (fun _ _=>false) (fun _ _ _ _=>false) (fun _=>false) (K .nilP) (K .nilS) (K .nilM) (K .nilF) (K .nilI) (fun _ _=>false) (fun _ _=>false) (fun _=>false) (fun _=>false) (fun _=>false) (fun _=>false)
 fun s=>SY.casesOn s (fun k z=>K (.sint k z)) (fun p=>K (.sbool p)) (fun l=>K (.sstr l)) (fun h sz α l enc=>K (.imm h sz α l enc)) (fun _ _ _=>false) (fun _ _=>false) (fun _ _ _ _ _ _=>false) (fun _ _ _ _=>false) (fun _ _ _=>false) (fun _=>false)
theorem ac2 {v:AV} {x:Value} {K:PL→Bool} (hd:den E ρ v=some x) (h:toP v K=true):∃p,OkP E.M p∧x=bw p∧K p=true:=by
 cases v<;>first|(cases h;done)|skip
 case int k z=>cases hd;exact⟨.int k z,.int k z,rfl,h⟩
 case bool b=>cases hd;exact⟨.bool b,.bool b,rfl,h⟩
 case str l=>cases hd;exact⟨.str l,.str l,rfl,h⟩
 case nilP=>cases hd;exact⟨.nilP,.nilP,rfl,h⟩
 case nilS=>cases hd;exact⟨.nilS,.nilS,rfl,h⟩
 case nilM=>cases hd;exact⟨.nilM,.nilM,rfl,h⟩
 case nilF=>cases hd;exact⟨.nilF,.nilF,rfl,h⟩
 case nilI=>cases hd;exact⟨.nilI,.nilI,rfl,h⟩
 case sy s=>
  cases s<;>first|(cases h;done)|skip
  case int k z=>cases hd;exact⟨.sint k z,.sint k z,rfl,h⟩
  case bool p=>cases hd;exact⟨.sbool p,.sbool p,rfl,h⟩
  case str l=>cases hd;exact⟨.sstr l,.sstr l,rfl,h⟩
  case imm hh sz α l enc=>
   obtain⟨h1,h2⟩:=iE (show ji E (.imm hh sz α l enc)=some x from hd)
   exact⟨_,h1,h2,h⟩
noncomputable def abf (vs:List AV):(List PL→Bool)→Bool:=List.rec (fun K=>K []) (fun v _ ih K=>toP v fun p=>ih fun ps=>K (p::ps)) vs
theorem NX:∀{vs:List AV} {xs:List Value} {K:List PL→Bool},aS E ρ vs=some xs→abf vs K=true→∃ps,(∀p∈ps,OkP E.M p)∧xs=ps.map bw∧K ps=true∧ps.length=vs.length
 |[],xs,K,hd,h=>by
  simp[aS]at hd
  subst hd
  exact⟨[],by simp,rfl,h,rfl⟩
 |v::vs,xs,K,hd,h=>by
  obtain⟨x,ys,h1,h2,rfl⟩:=cE hd
  obtain⟨p,p1,rfl,p2⟩:=ac2 (K:=fun p=>abf vs fun ps=>K (p::ps)) h1 h
  obtain⟨ps,q1,rfl,q2,q3⟩:=NX h2 p2
  exact⟨p::ps,fun q hq=>by
   rcases apF.1 hq with rfl|hq
   ·exact p1
   ·exact q1 q hq,rfl,q2,by simp[q3]⟩
theorem BK {p:PL} {M:re} (h:OkP M p):Value.oneCell' (bw p)=true:=by
 cases h with
 |imm ao cap hh=>subst hh;rfl
 |_=>rfl
theorem BW {M:re} {h:Value} {sz:Nat} {α:Type} {l:List α} {enc:α→List PL} (hp:OkP M (.imm h sz α l enc)):∃ao cap,h= .slice ao l.length cap∧l.length≤cap∧cap≤maxLen∧0<sz∧
  (0<l.length→ao=some ⟨blk ao,AY ao,none⟩)∧(∀x∈l,(enc x).length=sz)∧(∀x∈l,∀p∈enc x,OkP M p)∧(∀i x,l[i]?=some x→MRow M (blk ao) (AY ao+i*sz) ((enc x).map bw)):=by
 cases hp with
 |imm ao cap hh h1 h2 h3 ha hl ho hr=>exact⟨ao,cap,hh,h1,h2,h3,ha,hl,ho,hr⟩
theorem eG {e:eT} {n:Nat} {x:Value} (h:ub e n=some x):(e.cap=0∧n=0∧x= .slice none 0 0)∨∃c,e.cap=c+1∧x= .slice (some ⟨e.b,0,none⟩) n c:=by
 unfold ub at h
 split at h
 ·rename_i hc
  split at h
  ·rename_i hn;cases h;exact .inl ⟨hc,hn,rfl⟩
  ·cases h
 ·rename_i c hc;cases h;exact .inr ⟨c,hc,rfl⟩
theorem tQ {e:eT} {n m:Nat} {x:Value} (h:uc e n m=some x):(e.cap=0∧n=0∧m=0∧x= .slice none 0 0)∨∃c,e.cap=c+1∧x= .slice (some ⟨e.b,0,none⟩) n m:=by
 unfold uc at h
 split at h
 ·rename_i hc
  split at h
  ·rename_i hn;cases h;exact .inl ⟨hc,hn.1,hn.2,rfl⟩
  ·cases h
 ·rename_i c hc;cases h;exact .inr ⟨c,hc,rfl⟩
theorem fU {e:eT} {sz a n o:Nat} {oc:Option Nat} {x:Value} (h:nP e sz a n o oc=some x):(e.cap=0∧n=0∧a=0∧x= .slice none 0 0)∨∃c,e.cap=c+1∧x= .slice (some ⟨e.b,if c=a then o else a*sz,none⟩) n (c - a)∧a+n≤c∧(∀q,oc=some q→q=c):=by
 unfold nP at h
 split at h
 ·rename_i hc
  split at h
  ·rename_i hn;cases h;exact .inl ⟨hc,hn.1,hn.2.1,rfl⟩
  ·cases h
 ·rename_i c hc
  split at h
  ·rename_i hn;cases h;exact .inr ⟨c,hc,rfl,hn⟩
  ·cases h
theorem VM {e:eT} {sz a n o q:Nat} {x:Value} (h:nP e sz a n o (some q)=some x) (hc:e.cap=0):q=0:=by
 unfold nP at h
 rw[hc]at h
 simp only at h
 split at h
 ·rename_i hn;exact hn.2.2 q rfl
 ·cases h
theorem BS {t ty e:TypeId} (ht:P.underlying t=some (.slice e)) (ao:Option Addr) (n c:Nat) (cs:Array Bool) (w:World):(builtin .len #[t] ty cs #[.slice ao n c]).run P w= .ok (.value (.int .i64 n)) w:=by
 simp[builtin,Builtin.len_,goInt,run_underlying ht]
noncomputable def ao5 (u:AV) (K:AV→Bool):Bool:=kI u fun s=>SY.casesOn s (fun _ _=>false) (fun _=>false) (fun _=>false) (fun _ _ _ l _=>K (.sy (.int 0 (l.length:Int)))) (fun _ _ _=>false) (fun _ n=>K (.sy (.int 0 (n:Int)))) (fun _ _ _ n _ _=>K (.sy (.int 0 (n:Int)))) (fun _ _ _ _=>false) (fun _ n _=>K (.sy (.int 0 (n:Int)))) (fun _=>false)
noncomputable def an1 (u:AV) (K:AV→Bool):Bool:=bn (fy u) (ao5 u K) (an2 u K)
theorem ajY {v:AV} {K:AV→Bool} {x:Value} {t ty e:TypeId} (ht:P.underlying t=some (.slice e)) (hv:den E ρ v=some x) (hk:an1 v K=true):∃u z,den E ρ u=some z∧K u=true∧∀(cs:Array Bool) w,(builtin .len #[t] ty cs #[x]).run P w= .ok (.value z) w:=by
 rcases bi hk with⟨-,g⟩|⟨-,g⟩
 ·replace g:=eI g
  obtain⟨s,rfl,g⟩:=g
  cases s<;>first|(cases g;done)|skip
  case imm h sz α l enc=>
   obtain⟨h1,rfl⟩:=iE (show ji E (.imm h sz α l enc)=some x from hv)
   obtain⟨ao,cap,rfl,_⟩:=BW h1
   exact⟨_,.int .i64 (l.length:Int),rfl,g,fun cs w=>BS ht _ _ _ cs w⟩
  case prow i n=>
   refine⟨.sy (.int 0 (n:Int)),.int .i64 (n:Int),rfl,g,fun cs w=> ?_⟩
   simp only[den,bo]at hv
   split at hv
   ·rcases eG hv with⟨_,rfl,rfl⟩|⟨c,_,rfl⟩<;>rw[BS ht]
   ·cases hv
  case psub i sz a n o oc=>
   refine⟨.sy (.int 0 (n:Int)),.int .i64 (n:Int),rfl,g,fun cs w=> ?_⟩
   simp only[den,bo]at hv
   split at hv
   ·rcases fU hv with⟨_,rfl,rfl,rfl⟩|⟨c,_,rfl,_,_⟩<;>rw[BS ht]
   ·cases hv
  case pfix i n c=>
   refine⟨.sy (.int 0 (n:Int)),.int .i64 (n:Int),rfl,g,fun cs w=> ?_⟩
   simp only[den,bo]at hv
   split at hv
   ·rcases tQ hv with⟨_,rfl,rfl,rfl⟩|⟨c,_,rfl⟩<;>rw[BS ht]
   ·cases hv
 ·exact ajZ ht hv g
noncomputable def faS (off:Nat) (v:AV) (K:AV→Bool):Bool:=kI v fun s=>SY.casesOn s (fun _ _=>false) (fun _=>false) (fun _=>false) (fun _ _ _ _ _=>false) (fun b o cs=>K (.sy (.pim b (o+off) (Bz cs off)))) (fun _ _=>false) (fun _ _ _ _ _ _=>false) (fun i sz q o=>K (.sy (.rptr i sz q (o+off)))) (fun _ _ _=>false) (fun _=>false)
noncomputable def faY (off:Nat) (v:AV) (K:AV→Bool):Bool:=bn (fy v) (faS off v K) (faX off v K)
theorem HT {t i off b o:Nat} (h:EX P t i=some off) (w:World):(Instr.fieldAt t (.pointer (some ⟨b,o,none⟩)) i).run P w= .ok (.pointer (some ⟨b,o+off,none⟩)) w:=by
 have h':=h
 unfold EX at h'
 rcases ht:P.underlying t with _|d
 ·simp[ht]at h'
 rw[ht]at h'
 cases d<;>simp at h'
 rename_i fs
 rcases hf:fs[i]? with _|f
 ·simp[hf]at h'
 simp[Instr.fieldAt,Instr.sureAddr,run_underlying ht,hf,AL ht hf h]
theorem af4 {b o:Nat} {cs:List PL} (off:Nat) (h:(∀p∈cs,OkP E.M p)∧MRow E.M b o (cs.map bw)):(∀p∈cs.drop off,OkP E.M p)∧MRow E.M b (o+off) ((cs.drop off).map bw):=
 ⟨fun p hp=>h.1 p (List.mem_of_mem_drop hp),fun j v hv=>by
  have:=h.2 (off+j) v (by rw[List.map_drop,List.getElem?_drop]at hv;exact hv)
  rwa[←Nat.add_assoc]at this⟩
theorem Ly {b o:Nat} {cs:List PL} {x:Value} (h:bo E ρ (.pim b o cs)=some x):((∀p∈cs,OkP E.M p)∧MRow E.M b o (cs.map bw))∧x= .pointer (some ⟨b,o,none⟩):=by
 simp only[bo]at h
 split at h
 ·exact⟨‹_›,(apT h).symm⟩
 ·cases h
theorem Kt {b o:Nat} {cs:List PL} (h:(∀p∈cs,OkP E.M p)∧MRow E.M b o (cs.map bw)):bo E ρ (.pim b o cs)=some (.pointer (some ⟨b,o,none⟩)):=by
 simp only[bo];rw[if_pos h]
theorem zR {i sz q o:Nat} {x:Value} (h:bo E ρ (.rptr i sz q o)=some x):∃e,ρ i=some e∧x= .pointer (some ⟨e.b,q*sz+o,none⟩):=by
 simp only[bo]at h
 split at h
 ·rename_i e he;exact⟨e,he,(apT h).symm⟩
 ·cases h
theorem aoi {off:Nat} {v:AV} {K:AV→Bool} {x:Value} {t i:Nat} (h:EX P t i=some off) (hv:den E ρ v=some x) (hk:faY off v K=true):∃u z,den E ρ u=some z∧K u=true∧∀w,(Instr.fieldAt t x i).run P w= .ok z w:=by
 rcases bi hk with⟨-,g⟩|⟨-,g⟩
 ·replace g:=eI g
  obtain⟨s,rfl,g⟩:=g
  cases s<;>first|(cases g;done)|skip
  case pim b o cs=>
   obtain⟨h1,rfl⟩:=Ly (show bo E ρ (.pim b o cs)=some x from hv)
   replace g:K (.sy (.pim b (o+off) (Bz cs off)))=true:=g
   rw[xQ]at g
   exact⟨_,_,show den E ρ (.sy (.pim b (o+off) (cs.drop off)))=_ from Kt (af4 off h1),g,fun w=>HT h w⟩
  case rptr j sz q o=>
   obtain⟨e,he,rfl⟩:=zR (show bo E ρ (.rptr j sz q o)=some x from hv)
   exact⟨_,.pointer (some ⟨e.b,q*sz+(o+off),none⟩),by simp only[den,bo,he],g,fun w=>by rw[HT h,Nat.add_assoc]⟩
 ·exact aoj h hv g
noncomputable def ao4 (v:AV) (K:AV→Bool):Bool:=kI v fun s=>SY.casesOn s (fun _ _=>false) (fun _=>false) (fun _=>false) (fun _ _ _ _ _=>false) (fun _ _ _=>K v) (fun _ _=>false) (fun _ _ _ _ _ _=>false) (fun _ _ _ _=>K v) (fun _ _ _=>false) (fun _=>false)
noncomputable def anG (v:AV) (K:AV→Bool):Bool:=bn (fy v) (ao4 v K) (anH v K)
theorem ajD {v:AV} {K:AV→Bool} {x:Value} (hv:den E ρ v=some x) (hk:anG v K=true) {a:Act} {o:Operand} (ha:a.eval o=x) {dst:Option Tmp} {ty:TypeId} {pos:String} {af:Array Edge} {g:Option (Nat×Bool)}:
  K v=true∧∀w,(execOp a.eval ⟨dst,.nilCheck o,ty,pos,af,g⟩).run P w= .ok (.value x) w:=by
 rcases bi hk with⟨-,k⟩|⟨-,k⟩
 ·replace k:=eI k
  obtain⟨s,rfl,k⟩:=k
  cases s<;>first|(cases k;done)|skip
  case pim b o cs=>
   obtain⟨h1,rfl⟩:=Ly (show bo E ρ (.pim b o cs)=some x from hv)
   exact⟨k,fun w=>by simp[execOp,ha]⟩
  case rptr j sz q o=>
   obtain⟨e,he,rfl⟩:=zR (show bo E ρ (.rptr j sz q o)=some x from hv)
   exact⟨k,fun w=>by simp[execOp,ha]⟩
 ·exact ajE hv k ha
noncomputable def OF (n:Nat) (z:Int) (K:Nat→Bool):Nat→Bool:=Nat.rec (fun _=>aa (aN False) true) (fun _ ih k=>bn (aN (z=Int.ofNat k)) (K k) (ih (Nat.succ k))) n
theorem GH {z:Int} {K:Nat→Bool}:∀{n k:Nat},OF n z K k=true→∃j:Nat,z=(j:Int)∧j<k+n∧K j=true
 |0,k,h=>absurd (ai (show aa (aN False) true=true from h)).1 id
 |n+1,k,h=>by
  have h':bn (aN (z=Int.ofNat k)) (K k) (OF n z K (Nat.succ k))=true:=h
  rcases jC h' with⟨q,g⟩|⟨_,g⟩
  ·exact⟨k,q,by omega,g⟩
  ·obtain⟨j,h1,h2,h3⟩:=GH g
   exact⟨j,h1,by omega,h3⟩
noncomputable def ao8 (n sz:Nat) (v iv:AV) (K:AV→Bool):Bool:=nz v fun i o=>pp iv fun _ z=>OF n z (fun k=>fN (Nat.add o (Nat.mul k sz)) fun o=>K (.ptr i o)) 0
noncomputable def an9 (n sz:Nat) (v iv:AV) (K:AV→Bool):Bool:=bn (fy iv) (ao8 n sz v iv K) (aoa n sz v iv K)
theorem aj6 {n sz:Nat} {v iv:AV} {K:AV→Bool} {x y:Value} {t e:TypeId} (ht:P.underlying t=some (.array n e)) (hs:cA P e=some sz) (hv:den E ρ v=some x) (hi:den E ρ iv=some y) (hk:an9 n sz v iv K=true):
  ∃u z,den E ρ u=some z∧K u=true∧∀w,(Instr.indexAt t x y).run P w= .ok z w:=by
 rcases bi hk with⟨-,g⟩|⟨-,g⟩
 ·obtain⟨j,o,rfl,k1⟩:=ie g
  obtain⟨kd,z,rfl,k2⟩:=jD hi k1
  obtain⟨q,rfl,hq,k3⟩:=GH k2
  rw[bY]at k3
  simp only[den]at hv
  split at hv
  ·rename_i f hf
   cases hv
   have hq:q<n:=by omega
   refine⟨_,.pointer (some ⟨f.b,o+q*sz,none⟩),by simp only[den,hf];rfl,k3,fun w=> ?_⟩
   simp[Instr.indexAt,Instr.sureAddr,asIntOf,run_underlying ht,Go.Eng.run_sizeOf hs,hq,de]
  ·cases hv
 ·exact aj7 ht hs hv hi g
def aoC:Value→Nat
 |.slice ao _ _=>blk ao
 |_=>0
def anx:Value→Nat
 |.slice ao _ _=>AY ao
 |_=>0
noncomputable def ao6 (sz:Nat) (v iv:AV) (K:AV→Bool):Bool:=pp iv fun _ z=>kI v fun s=>SY.casesOn s (fun _ _=>false) (fun _=>false) (fun _=>false)
 (fun h sz' _ l enc=>aa (Nat.beq sz sz') (aa (aN (0≤z∧z<(l.length:Int))) (ae fun x=>bn (aN (l[z.toNat]?=some x)) (K (.sy (.pim (aoC h) (anx h+z.toNat*sz) (enc x)))) true)))
 (fun _ _ _=>false) (fun i n=>aa (aN (0≤z∧z<(n:Int))) (K (.sy (.rptr i sz z.toNat 0)))) (fun i sz' a n _ _=>aa (Nat.beq sz sz') (aa (aN (0≤z∧z<(n:Int))) (K (.sy (.rptr i sz (a+z.toNat) 0))))) (fun _ _ _ _=>false)
 (fun i n _=>aa (aN (0≤z∧z<(n:Int))) (K (.sy (.rptr i sz z.toNat 0)))) (fun _=>false)
noncomputable def ao7 (sz:Nat) (v iv:AV) (K:AV→Bool):Bool:=ue v false fun i o n _=>pp iv fun _ z=>OF n z (fun k=>fN (Nat.add o (Nat.mul k sz)) fun o=>K (.ptr i o)) 0
noncomputable def an7 (sz:Nat) (v iv:AV) (K:AV→Bool):Bool:=bn (fy v) (ao6 sz v iv K) (bn (fy iv) (ao7 sz v iv K) (an8 sz v iv K))
theorem qf {t e sz n c i:Nat} {k:IntKind} {b o:Nat} (ht:P.underlying t=some (.slice e)) (hs:cA P e=some sz) (hi:i<n) (w:World):(Instr.indexAt t (.slice (some ⟨b,o,none⟩) n c) (.int k (i:Int))).run P w= .ok (.pointer (some ⟨b,o+i*sz,none⟩)) w:=by
 simp[Instr.indexAt,asIntOf,run_underlying ht,Go.Eng.run_sizeOf hs,hi,de]
theorem aj4 {sz:Nat} {v iv:AV} {K:AV→Bool} {x y:Value} {t e:TypeId} (ht:P.underlying t=some (.slice e)) (hs:cA P e=some sz) (hv:den E ρ v=some x) (hi:den E ρ iv=some y) (hk:an7 sz v iv K=true):
  ∃u z,den E ρ u=some z∧K u=true∧∀w,(Instr.indexAt t x y).run P w= .ok z w:=by
 rcases bi hk with⟨-,g⟩|⟨-,g⟩
 ·replace g:=jD hi g
  obtain⟨kd,z,rfl,g⟩:=g
  replace g:=eI g
  obtain⟨s,rfl,g⟩:=g
  cases s<;>first|(cases g;done)|skip
  case imm h sz' α l enc=>
   obtain⟨g1,g2⟩:=aj g
   have g1:=apz g1
   subst g1
   obtain⟨⟨z0,zl⟩,g3⟩:=ai g2
   obtain⟨n,rfl⟩:=Int.eq_ofNat_of_zero_le z0
   have hlt:n<l.length:=by omega
   obtain⟨h1,rfl⟩:=iE (show ji E (.imm h sz α l enc)=some x from hv)
   obtain⟨ao,cap,rfl,c1,c2,c3,ha,hl,ho,hr⟩:=BW h1
   ·
    have g4:=aq g3 l[n]
    rcases jC g4 with⟨q,g5⟩|⟨q,_⟩
    ·have hx:l[n]?=some l[n]:=List.getElem?_eq_getElem hlt
     have hao:=ha (by omega)
     refine⟨.sy (.pim _ _ _),_,Kt (ρ:=ρ) ⟨ho _ (List.getElem_mem hlt),?_⟩,g5,fun w=> ?_⟩
     ·simpa[aoC,anx] using hr n _ hx
     ·show(Instr.indexAt t (.slice ao l.length cap) (.int (cR kd) (n:Int))).run P w=_
      rw[hao,qf ht hs hlt]
      rfl
    ·exact absurd (by simp[hlt]) q
  case prow i n=>
   obtain⟨⟨z0,zl⟩,g3⟩:=ai g
   obtain⟨m,rfl⟩:=Int.eq_ofNat_of_zero_le z0
   have hlt:m<n:=by omega
   simp only[den,bo]at hv
   split at hv
   case h_2=>cases hv
   rename_i f hf
   rcases eG hv with⟨_,q,rfl⟩|⟨c,_,rfl⟩
   ·omega
   ·exact⟨_,.pointer (some ⟨f.b,m*sz+0,none⟩),by simp only[den,bo,hf];rfl,g3,fun w=>by rw[qf ht hs hlt,Nat.zero_add,Nat.add_zero]⟩
  case psub i sz' a n o oc=>
   obtain⟨g1,g2⟩:=aj g
   have g1:=apz g1
   subst g1
   obtain⟨⟨z0,zl⟩,g3⟩:=ai g2
   obtain⟨m,rfl⟩:=Int.eq_ofNat_of_zero_le z0
   have hlt:m<n:=by omega
   simp only[den,bo]at hv
   split at hv
   case h_2=>cases hv
   rename_i f hf
   rcases fU hv with⟨_,q,_,rfl⟩|⟨c,_,rfl,hc,_⟩
   ·omega
   ·have hne:¬c=a:=by omega
    rw[if_neg hne]
    refine⟨_,.pointer (some ⟨f.b,(a+m)*sz+0,none⟩),by simp only[den,bo,hf];rfl,g3,fun w=> ?_⟩
    rw[qf ht hs hlt,Nat.add_mul,Nat.add_zero]
  case pfix i n cc=>
   obtain⟨⟨z0,zl⟩,g3⟩:=ai g
   obtain⟨m,rfl⟩:=Int.eq_ofNat_of_zero_le z0
   have hlt:m<n:=by omega
   simp only[den,bo]at hv
   split at hv
   case h_2=>cases hv
   rename_i f hf
   rcases tQ hv with⟨_,q,_,rfl⟩|⟨c,_,rfl⟩
   ·omega
   ·exact⟨_,.pointer (some ⟨f.b,m*sz+0,none⟩),by simp only[den,bo,hf];rfl,g3,fun w=>by rw[qf ht hs hlt,Nat.zero_add,Nat.add_zero]⟩
 ·rcases bi g with⟨-,g⟩|⟨-,g⟩
  ·rcases jE g with⟨_,k1⟩|⟨j,o,n,c,rfl,k1⟩
   ·cases k1
   obtain⟨kd,z,rfl,k2⟩:=jD hi k1
   obtain⟨q,rfl,hq,k3⟩:=GH k2
   rw[bY]at k3
   simp only[den]at hv
   split at hv
   ·rename_i f hf
    cases hv
    have hq:q<n:=by omega
    exact⟨_,.pointer (some ⟨f.b,o+q*sz,none⟩),by simp only[den,hf];rfl,k3,fun w=>qf ht hs hq w⟩
   ·cases hv
  ·exact aj5 ht hs hv hi g
end
section
variable {P:Program} {E:Env} {ρ:Ren} {G:GS} {F:List bh} {M:T} {nx:Nat} {w:World}
noncomputable def abq (agg:Bool) (n:Nat) (cs:List PL) (o:Nat) (K:AV→Bool):Bool:=bn agg (DC (Bz cs o) n fun l=>K (.agg (tY l))) (eu (fb cs o) fun p=>K (HP p))
theorem UB {agg:Bool} {n:Nat} {cs:List PL} {o b base:Nat} {K:AV→Bool} {t:TypeId} (hk:abq agg n cs o K=true) (hp:∀p∈cs,OkP E.M p) (hc:∀j v,(cs.map bw)[j]?=some v→w.cell? ⟨b,base+j,none⟩=some v)
  (hag:kC P t=some agg) (hs:cA P t=some n):∃u z,den E ρ u=some z∧K u=true∧(Instr.loadAt t (.pointer (some ⟨b,base+o,none⟩))).run P w= .ok z w:=by
 rcases bi hk with⟨rfl,g⟩|⟨rfl,g⟩
 ·obtain⟨g1,hle⟩:=AI g
  rw[xQ]at g1 hle
  have hl:∀p∈(cs.drop o).take n,OkP E.M p:=fun p q=>hp p (List.mem_of_mem_drop (List.mem_of_mem_take q))
  refine⟨.agg (tY ((cs.drop o).take n)),.agg (((cs.drop o).take n).map bw).toArray,by simp only[den,Vi hl],g1,?_⟩
  have hlen:(((cs.drop o).take n).map bw).length=n:=by simp only[apx,apL];omega
  have:=Go.Eng.run_loadCells (P:=P) (w:=w) b (base+o) (((cs.drop o).take n).map bw) 0 #[] (fun j v hv=>by
   rw[Nat.zero_add,Nat.add_assoc]
   refine hc (o+j) v ?_
   rw[List.map_take,List.map_drop]at hv
   have hj:j<n:=by
    have:=(List.getElem?_eq_some_iff.1 hv).1
    rw[apL]at this;omega
   rw[apO hj,List.getElem?_drop]at hv
   exact hv)
  rw[hlen]at this
  simp[Instr.loadAt,Instr.sureAddr,loadVar,Go.Eng.run_isAgg hag,Go.Eng.run_sizeOf hs,loadCells,this]
 ·obtain⟨p,h1,g1⟩:=ci g
  rw[iA]at h1
  have hm:=apA h1
  have:=hc o (bw p) (by rw[apR,h1];rfl)
  exact⟨HP p,bw p,Yw (hp p hm),g1,by simp[Instr.loadAt,Instr.sureAddr,loadVar,run_isAgg hag,load,Sem.run,this]⟩
noncomputable def fL (M:T) (i:Nat) (K:Nat→Nat→(α:Type)→List α→(α→List PL)→Bool):Bool:=eu (M.get i) fun ob=>AObj.casesOn ob (fun _ _ _ _=>false) (fun _ _=>false) (fun _ _ _ _=>false) false K (fun _ _ _ _ _ _ _=>false)
theorem dK {M:T} {i:Nat} {K:Nat→Nat→(α:Type)→List α→(α→List PL)→Bool} (h:fL M i K=true):∃Ty sz α l enc,M.get i=some (.prow Ty sz α l enc)∧K Ty sz α l enc=true:=by
 obtain⟨ob,h1,h2⟩:=ci h
 cases ob<;>first|exact⟨_,_,_,_,_,h1,h2⟩|cases h2
theorem dN {e:eT} {c Ty sz:Nat} {α:Type} {l:List α} {enc:α→List PL} (h:e.cap=c+1):cU e (.prow Ty sz α l enc)=true:=by
 unfold cU;rw[h];rfl
structure RowAt (E:Env) (w:World) (e:eT) (Ty sz:Nat) (ps:List PL) (n c:Nat) (arr:Array Value):Prop where
 heap:w.heap[e.b]?=some (.cells arr Ty (0,0))
 ok:∀p∈ps,OkP E.M p
 len:ps.length=n*sz
 size:arr.size=c*sz
 take:arr.toList.take (n*sz)=ps.map bw
 le:n≤c
 max:c≤maxLen
theorem gM {α:Type} {enc:α→List PL} {sz:Nat}:∀{l:List α},(∀x∈l,(enc x).length=sz)→(l.flatMap enc).length=l.length*sz
 |[],_=>by simp
 |x::l,h=>by
  rw[List.flatMap_cons,apv,h x (by simp),gM fun y hy=>h y (by simp[hy]),List.length_cons,Nat.add_mul]
  omega
theorem Sim.prow (h:Sim E ρ G F M nx w) {i Ty sz:Nat} {α:Type} {l:List α} {enc:α→List PL} (hi:M.get i=some (.prow Ty sz α l enc)):
  ∃e,ρ i=some e∧0<sz∧((e.cap=0∧l=[])∨∃c arr,e.cap=c+1∧(∀x∈l,(enc x).length=sz)∧RowAt E w e Ty sz (l.flatMap enc) l.length c arr):=by
 obtain⟨e,h1,⟨q,ob,h2,arr,xs,rfl,h4,h5,h6,h7,h8,h9,h10⟩|⟨q,h3,h4⟩⟩:=h.objP hi
 ·have hc:e.cap≠0:=by
   intro hc
   simp[cU,hc]at q
  obtain⟨c,hc⟩:=Nat.exists_eq_succ_of_ne_zero hc
  obtain⟨p1,rfl⟩:=CH h6
  rw[hc]at h7 h9 h10
  exact⟨e,h1,h4,.inr ⟨c,arr,hc,h5,h2,p1,gM h5,by simpa using h7,h8,by simpa using h9,by simpa using h10⟩⟩
 ·refine⟨e,h1,h4,.inl ⟨?_,h3⟩⟩
  simp[cU]at q
  exact q
theorem RowAt.cell {e:eT} {Ty sz n c:Nat} {ps:List PL} {arr:Array Value} (r:RowAt E w e Ty sz ps n c arr) {j:Nat} {v:Value} (hv:(ps.map bw)[j]?=some v):w.cell? ⟨e.b,j,none⟩=some v:=by
 rw[←r.take]at hv
 have hlt:j<n*sz:=by
  have:=(List.getElem?_eq_some_iff.1 hv).1
  rw[apL]at this;omega
 rw[apO hlt]at hv
 simp only[World.cell?,r.heap]
 simpa using hv
theorem CG {α:Type} {enc:α→List PL} {sz:Nat} {l:List α} {q:Nat} {x:α} (hl:∀x∈l,(enc x).length=sz) (hx:l[q]?=some x) {j:Nat} {p:PL} (hp:(enc x)[j]?=some p):(l.flatMap enc)[q*sz+j]?=some p:=by
 have:=EO (els:=l.map enc) (sz:=sz) (q:=q) (r:=j) (el:=enc x) (v:=p) (fun e he=>by
  obtain⟨y,hy,rfl⟩:=List.mem_map.1 he
  exact hl y hy) (by rw[apR,hx];rfl) hp
 rwa[←List.flatMap_def]at this
noncomputable def ldS (agg:Bool) (n:Nat) (v:AV) (M:T) (K:AV→Bool):Bool:=kI v fun s=>SY.casesOn s (fun _ _=>false) (fun _=>false) (fun _=>false) (fun _ _ _ _ _=>false) (fun _ _ cs=>abq agg n cs 0 K) (fun _ _=>false) (fun _ _ _ _ _ _=>false)
 (fun i sz q o=>fL M i fun _ sz' _ l enc=>aa (Nat.beq sz sz') (aa (aN (q<l.length)) (ae fun x=>bn (aN (l[q]?=some x)) (abq agg n (enc x) o K) true))) (fun _ _ _=>false) (fun _=>false)
theorem an4 (h:Sim E ρ G F M nx w) {agg:Bool} {n:Nat} {v:AV} {K:AV→Bool} {x:Value} (hv:den E ρ v=some x) (hk:ldS agg n v M K=true) {t:TypeId} (hag:kC P t=some agg) (hs:cA P t=some n):∃u z,den E ρ u=some z∧K u=true∧(Instr.loadAt t x).run P w= .ok z w:=by
 replace hk:=eI hk
 obtain⟨s,rfl,g⟩:=hk
 cases s<;>first|(cases g;done)|skip
 case pim b o cs=>
  obtain⟨⟨h1,h2⟩,rfl⟩:=Ly (show bo E ρ (.pim b o cs)=some x from hv)
  exact UB (b:=b) (base:=o) (o:=0) g h1 (fun j v hv=>h.cellM (h2 j v hv)) hag hs
 case rptr i sz q o=>
  obtain⟨e,he,rfl⟩:=zR (show bo E ρ (.rptr i sz q o)=some x from hv)
  obtain⟨Ty,sz',α,l,enc,hi,g1⟩:=dK g
  obtain⟨g2,g3⟩:=aj g1
  have g2:=apz g2
  subst g2
  obtain⟨hlt,g4⟩:=ai g3
  have hx:l[q]?=some l[q]:=List.getElem?_eq_getElem hlt
  obtain⟨e',q1,hsz,⟨_,q2⟩|⟨c,arr,q2,q3,r⟩⟩:=h.prow hi
  ·subst q2;simp at hlt
  rw[he]at q1;cases q1
  rcases jC (aq g4 l[q]) with⟨_,g5⟩|⟨q,_⟩
  ·exact UB (b:=e.b) (base:=q*sz) (o:=o) g5 (fun p hp=>r.ok p (List.mem_flatMap.2 ⟨_,List.getElem_mem hlt,hp⟩)) (fun j v hv=>by
    rw[apR]at hv
    rcases hp:(enc l[q])[j]? with _|p
    ·rw[hp]at hv;cases hv
    ·rw[hp]at hv
     have:=r.cell (j:=q*sz+j) (v:=v) (by rw[apR,CG q3 hx hp];exact hv)
     exact this) hag hs
  ·exact absurd hx q
noncomputable def MM (agg:Bool) (n:Nat) (v:AV) (M:T) (K:AV→Bool):Bool:=bn (fy v) (ldS agg n v M K) (bn agg (an3 n v M K) (an5 v M K))
theorem ML (h:Sim E ρ G F M nx w) {agg:Bool} {n:Nat} {v:AV} {K:AV→Bool} {x:Value} (hv:den E ρ v=some x) (hk:MM agg n v M K=true) {t:TypeId} (hag:kC P t=some agg) (hs:cA P t=some n):∃u z,den E ρ u=some z∧K u=true∧(Instr.loadAt t x).run P w= .ok z w:=by
 rcases bi hk with⟨-,g⟩|⟨-,g⟩
 ·exact an4 h hv g hag hs
 ·rcases bi g with⟨rfl,g⟩|⟨rfl,g⟩
  ·exact aj1 h hv g hag hs
  ·exact aj2 h hv g hag
noncomputable def stS (n:Nat) (v x:AV) (M:T) (K:T→Bool):Bool:=kI v fun s=>SY.casesOn s (fun _ _=>false) (fun _=>false) (fun _=>false) (fun _ _ _ _ _=>false) (fun _ _ _=>false) (fun _ _=>false) (fun _ _ _ _ _ _=>false)
 (fun i sz q o=>fL M i fun Ty sz' α l enc=>aa (Nat.beq sz sz') (aa (Nat.beq (db (cn x)) n) (aa (aN (q<l.length)) (abf (cn x) fun ps=>ae fun y=>bn (aN (l[q]?=some y)) (aM fun y'=>aa (aN (o+ps.length≤sz∧enc y'=(enc y).take o++ps++(enc y).drop (o+ps.length)))
  (T.set bM M i (some (.prow Ty sz α (l.set q y') enc)) K)) true)))) (fun _ _ _=>false) (fun _=>false)
noncomputable def stY (n:Nat) (v x:AV) (M:T) (K:T→Bool):Bool:=bn (fy v) (stS n v x M K) (stX n v x M K)
theorem XY {α:Type} {enc:α→List PL} {sz:Nat} {l:List α} {q o:Nat} {y y':α} {ps:List PL} (hl:∀x∈l,(enc x).length=sz) (hx:l[q]?=some y) (ho:o+ps.length≤sz) (he:enc y'=(enc y).take o++ps++(enc y).drop (o+ps.length)):
  (l.set q y').flatMap enc=(l.flatMap enc).take (q*sz+o)++ps++(l.flatMap enc).drop (q*sz+o+ps.length):=by
 have hmem:∀e∈l.map enc,e.length=sz:=fun e he=>by
  obtain⟨y,hy,rfl⟩:=List.mem_map.1 he
  exact hl y hy
 have hy:=hl y (apA hx)
 have:=VY (els:=l.map enc) (sz:=sz) (q:=q) (r:=o) (el:=enc y) (vs:=ps) hmem (by rw[apR,hx];rfl) (by omega)
 rw[List.flatMap_def,List.flatMap_def,←this,List.map_set]
 congr 1
 have hq:=(List.getElem?_eq_some_iff.1 hx).1
 rw[List.set_eq_take_append_cons_drop,if_pos (by simpa using hq),he]
 simp
theorem am8 (hE:fV E) (h:Sim E ρ G F M nx w) {n:Nat} {v x:AV} {K:T→Bool} {p y:Value} (hv:den E ρ v=some p) (hx:den E ρ x=some y) (hk:stY n v x M K=true) {t:TypeId} (hs:cA P t=some n):
  ∃M' w',Sim E ρ G F M' nx w'∧K M'=true∧(Instr.storeAt t p y).run P w= .ok () w':=by
 rcases bi hk with⟨-,g⟩|⟨-,g⟩
 ·replace g:=eI g
  obtain⟨s,rfl,g⟩:=g
  cases s<;>first|(cases g;done)|skip
  case rptr i sz q o=>
   obtain⟨e,he,rfl⟩:=zR (show bo E ρ (.rptr i sz q o)=some p from hv)
   obtain⟨Ty,sz',α,l,enc,hi,g1⟩:=dK g
   obtain⟨g2,g3⟩:=aj g1
   have g2:=apz g2
   subst g2
   obtain⟨g4,g5⟩:=aj g3
   obtain⟨hlt,g6⟩:=ai g5
   have hcx:=qW hE hx
   have hcl:=cL hcx
   have hn':(cn x).length=n:=by rw[←cw];exact apz g4
   obtain⟨ps,p1,p2,g7,p3⟩:=NX hcx g6
   have hlx:l[q]?=some l[q]:=List.getElem?_eq_getElem hlt
   rcases jC (aq g7 l[q]) with⟨_,g8⟩|⟨q,_⟩
   case inr=>exact absurd hlx q
   obtain⟨y',g9⟩:=cd g8
   obtain⟨⟨ho,henc⟩,g10⟩:=ai g9
   obtain⟨M',hK,hg1,hg2⟩:=T.set_ok _ _ _ _ _ g10
   obtain⟨e',q1,hsz,⟨_,q2⟩|⟨c,arr,q2,q3,r⟩⟩:=h.prow hi
   ·subst q2;simp at hlt
   rw[he]at q1;cases q1
   have hlen:q*sz+o+y.cells.toList.length≤l.length*sz:=by
    rw[p2,apx]
    have:(q+1)*sz≤l.length*sz:=Nat.mul_le_mul_right _ (by omega)
    rw[Nat.add_mul,Nat.one_mul]at this
    omega
   have hle:l.length*sz≤arr.size:=by rw[r.size];exact Nat.mul_le_mul_right _ r.le
   obtain⟨w',hr,w1,w2,w3,w4,w5,w6⟩:=BR (P:=P) (q*sz+o) y.cells.toList 0 w arr r.heap (by omega) (by
    rw[p2,List.all_map]
    exact List.all_eq_true.2 fun u hu=>BK (p1 u hu))
   rw[Nat.add_zero]at w1
   have hB:cU e (.prow Ty sz α l enc)=true:=dN q2
   have hsp:=yp y.cells.toList arr (q*sz+o) (by omega)
   have hfm:=XY q3 hlx ho henc
   refine⟨M',w',h.turn (o':=.prow Ty sz α (l.set q y') enc) (ob':=.cells (gV arr (q*sz+o) y.cells.toList) Ty (0,0)) hi he w2 w3 w4 (fun b _ hb=>w6 b hb) w1 ⟨gV arr (q*sz+o) y.cells.toList,((l.set q y').flatMap enc).map bw,rfl,hsz,?_,oV ?_,?_,?_,?_,?_⟩ hg1 hg2 hB (dN q2),hK,?_⟩
   ·intro x hx
    rcases List.mem_or_eq_of_mem_set hx with hx|rfl
    ·exact q3 x hx
    ·rw[henc]
     have:=q3 _ (apA hlx)
     simp only[apv,apL,apW]
     omega
   ·intro p hp
    rw[hfm]at hp
    simp only[apK]at hp
    rcases hp with(hp|hp)|hp
    ·exact r.ok p (List.mem_of_mem_take hp)
    ·exact p1 p hp
    ·exact r.ok p (List.mem_of_mem_drop hp)
   ·rw[rX,r.size,q2];simp
   ·rw[List.length_set,hsp,hfm,apJ,apJ,List.map_take,List.map_drop,p2,apx]
    have hlen':q*sz+o+(ps.map bw).length≤l.length*sz:=by rw[←p2];exact hlen
    rw[apx]at hlen'
    have:=HQ (arr:=arr.toList) (xs:=(l.flatMap enc).map bw) (ys:=ps.map bw) (o:=q*sz+o) (L:=l.length*sz) r.take (by rw[apx];exact hlen') (by rw[Array.length_toList];exact hle)
    rw[apx]at this
    exact this
   ·rw[List.length_set,q2];simpa using r.le
   ·rw[q2];simpa using r.max
   ·have hsz2:y.cells.size=n:=by rw[←Array.length_toList,hcl,hn']
    simp[Instr.storeAt,Instr.sureAddr,storeVar,Go.Eng.run_sizeOf hs,hsz2,hr]
 ·exact am9 hE h hv hx g hs
end
section
variable {P:Program} {E:Env} {ρ:Ren} {G:GS} {F:List bh} {M:T} {nx:Nat} {w:World}
def Lr (ao:Option Addr) (sz a b m:Nat):Value:=.slice (if m=a then ao else ao.map (·.add (a*sz))) (b - a) (m - a)
def fp (h:Value) (sz a b:Nat):Value:=match h with|.slice ao _ cap=>Lr ao sz a b cap|v=>v
def apc (h:Value) (sz a b m:Nat):Value:=match h with|.slice ao _ _=>Lr ao sz a b m|v=>v
theorem adw {M:re} {ao:Option Addr} {n cap sz a b m:Nat} {α:Type} {l:List α} {enc:α→List PL} (h:OkP M (.imm (.slice ao n cap) sz α l enc)) (h1:a≤b) (h2:b≤l.length) (h3:b≤m) (h4:m≤cap):
  OkP M (.imm (Lr ao sz a b m) sz α ((l.drop a).take (b - a)) enc):=by
 obtain⟨ao',cap',hh,c1,c2,c3,ha,hl,ho,hr⟩:=BW h
 injection hh with e1 e2 e3
 subst e1;subst e2;subst e3
 have hlen:((l.drop a).take (b - a)).length=b - a:=by rw[apL,apW];omega
 refine .imm (if m=a then ao else ao.map (·.add (a*sz))) (m - a) (by rw[hlen];rfl) (by rw[hlen];omega) (by omega) c3 (fun q=> ?_) (fun x hx=>hl x (List.mem_of_mem_drop (List.mem_of_mem_take hx))) (fun x hx=>ho x (List.mem_of_mem_drop (List.mem_of_mem_take hx))) (fun i x hx=> ?_)
 ·rw[hlen]at q
  rw[if_neg (by omega),ha (by omega)]
  simp[de,blk,AY]
 ·have hi:i<b - a:=by
   have:=(List.getElem?_eq_some_iff.1 hx).1
   omega
  rw[apO hi,List.getElem?_drop]at hx
  have:=hr (a+i) x hx
  rw[if_neg (by omega),ha (by omega)]
  rw[ha (by omega)]at this
  simp only[Option.map_some,de,blk,AY]at this ⊢
  rw[Nat.add_mul,←Nat.add_assoc]at this
  exact this
noncomputable def qF (d:Int) (o:Option AV) (K:Int→Bool):Bool:=Option.casesOn o (K d) fun v=>pp v fun _ z=>K z
theorem gS {d:Int} {o:Option AV} {xo:Option Value} {K:Int→Bool} (hd:xR E ρ o xo) (h:qF d o K=true):∃z,K z=true∧((o=none∧xo=none∧z=d)∨∃k,xo=some (.int (cR k) z)):=by
 rcases hd with⟨rfl,rfl⟩|⟨v,y,rfl,rfl,hv⟩
 ·exact⟨d,h,.inl ⟨rfl,rfl,rfl⟩⟩
 ·obtain⟨k,z,rfl,g⟩:=jD (K:=fun _ z=>K z) hv h
  exact⟨z,g,.inr ⟨k,rfl⟩⟩
noncomputable def aoW (sz:Nat) (v:AV) (lo hi mx:Option AV) (M:T) (K:AV→Bool):Bool:=kI v fun s=>SY.casesOn s (fun _ _=>false) (fun _=>false) (fun _=>false)
 (fun h sz' α l enc=>aa (Nat.beq sz sz') (qF 0 lo fun a=>qF (l.length:Int) hi fun b=>Option.casesOn mx
  (aa (aN (0≤a∧a≤b∧b≤(l.length:Int))) (K (.sy (.imm (fp h sz a.toNat b.toNat) sz α ((l.drop a.toNat).take (b.toNat - a.toNat)) enc))))
  (fun _=>aa (jB hi) (qF 0 mx fun m=>aa (aN (0≤a∧a≤b∧b≤m∧m≤(l.length:Int))) (K (.sy (.imm (apc h sz a.toNat b.toNat m.toNat) sz α ((l.drop a.toNat).take (b.toNat - a.toNat)) enc)))))))
 (fun _ _ _=>false)
 (fun i n=>fL M i fun _ sz' _ l _=>aa (Nat.beq sz sz') (qF 0 lo fun a=>qF (n:Int) hi fun b=>Option.casesOn mx
  (aa (aN (n=l.length∧0≤a∧a≤b∧b≤(n:Int))) (K (.sy (.psub i sz a.toNat (b.toNat - a.toNat) 0 none))))
  (fun _=>aa (jB hi) (qF 0 mx fun m=>aa (aN (n=l.length∧a=0∧b=(n:Int)∧m=(n:Int))) (K (.sy (.pfix i n n)))))))
 (fun i sz0 a n o oc=>fL M i fun _ sz' _ _ _=>aa (Nat.beq sz sz') (aa (Nat.beq sz sz0) (qF 0 lo fun x=>qF (n:Int) hi fun y=>Option.casesOn mx (aa (aN (0≤x∧x≤y∧y≤(n:Int))) (Option.casesOn oc (ae fun o:Nat=>K (.sy (.psub i sz (a+x.toNat) (y.toNat - x.toNat) o none))) (fun c=>K (.sy (.psub i sz (a+x.toNat) (y.toNat - x.toNat) (if c=a then o else a*sz) (some c)))))) (fun _=>aa (jB hi) (qF 0 mx fun m=>aa (aN (a=0∧o=0∧x=0∧y=(n:Int)∧m=(n:Int)∧oc=some n)) (K (.sy (.prow i n)))))))) (fun _ _ _ _=>false) (fun i n c=>qF 0 lo fun a=>qF (n:Int) hi fun b=>Option.casesOn mx (aa (aN (a=0∧0≤b∧b≤(n:Int)∧n≤c)) (K (.sy (.pfix i b.toNat c)))) (fun _=>false)) (fun _=>false)
noncomputable def ang (sz:Nat) (v:AV) (lo hi mx:Option AV) (M:T) (K:AV→Bool):Bool:=bn (fy v) (aoW sz v lo hi mx M K) (anh sz v lo hi mx M K)
theorem dQ {o:Option AV} {xo:Option Value} {z d:Int} {n dn:Nat} (hz:z=(n:Int)) (hd:d=(dn:Int)) (h:(o=none∧xo=none∧z=d)∨∃k,xo=some (.int (cR k) z)):(xo=none∧n=dn)∨∃k,xo=some (.int k (.ofNat n)):=by
 rcases h with⟨_,h1,h2⟩|⟨k,h1⟩
 ·exact .inl ⟨h1,by omega⟩
 ·exact .inr ⟨cR k,by rw[h1,hz];rfl⟩
theorem ajk (h:Sim E ρ G F M nx w) {sz:Nat} {v:AV} {lo hi mx:Option AV} {K:AV→Bool} {x:Value} {xl xh xm:Option Value} {t e:TypeId} (ht:P.underlying t=some (.slice e)) (hs:cA P e=some sz) (hv:den E ρ v=some x)
  (hlo:xR E ρ lo xl) (hhi:xR E ρ hi xh) (hmx:xR E ρ mx xm) (hk:ang sz v lo hi mx M K=true):∃u z,den E ρ u=some z∧K u=true∧(Instr.sliceAt t x xl xh xm).run P w= .ok z w:=by
 rcases bi hk with⟨-,g⟩|⟨-,g⟩
 case inr=>exact ajl h ht hs hv hlo hhi hmx g
 have hrun:∀(ao:Option Addr) (n c l hh m:Nat),(Instr.sliceBounds true n c xl xh xm).run P w= .ok (l,hh,m) w→(Instr.sliceAt t (.slice ao n c) xl xh xm).run P w= .ok (.slice (if m=l then ao else ao.map (·.add (l*sz))) (hh - l) (m - l)) w:=by
  intro ao n c l hh m hb
  simp[Instr.sliceAt,Instr.slice,run_underlying ht,hb,Go.Eng.run_sizeOf hs]
 have hno:mx=none→xm=none:=fun q=>by
  rcases hmx with⟨_,h2⟩|⟨_,_,h2,_⟩
  ·exact h2
  ·rw[q]at h2;cases h2
 have hsome:jB hi=true→xh≠none:=fun q=>by
  rcases hhi with⟨p,_⟩|⟨_,_,_,p,_⟩
  ·rw[p]at q;cases q
  ·rw[p];simp
 replace g:=eI g
 obtain⟨s,rfl,g⟩:=g
 cases s<;>first|(cases g;done)|skip
 case imm hh sz' α l enc=>
  obtain⟨g1,g2⟩:=aj g
  have g1:=apz g1
  subst g1
  obtain⟨a,g3,ha⟩:=gS hlo g2
  obtain⟨b,g4,hb⟩:=gS hhi g3
  obtain⟨h1,rfl⟩:=iE (show ji E (.imm hh sz α l enc)=some x from hv)
  obtain⟨ao,cap,rfl,c1,c2,_⟩:=BW h1
  cases mx with
  |none=>
   have hxm:=hno rfl
   subst hxm
   obtain⟨⟨b1,b2,b3⟩,g5⟩:=ai g4
   obtain⟨a,rfl⟩:=Int.eq_ofNat_of_zero_le b1
   obtain⟨b,rfl⟩:=Int.eq_ofNat_of_zero_le (show 0≤b by omega)
   have hbd:=dr (P:=P) (isS:=true) (len:=l.length) (cap:=cap) (dQ rfl (show(0:Int)=((0:Nat):Int) from rfl) ha) (dQ rfl rfl hb) (.inl ⟨rfl,rfl⟩) (fun q=>absurd rfl q) (by omega) (by omega) (apM cap) w
   exact⟨.sy (.imm (Lr ao sz a b cap) sz α ((l.drop a).take (b - a)) enc),Lr ao sz a b cap,vt (adw h1 (by omega) (by omega) (by omega) (apM cap)),g5,hrun ao l.length cap a b cap hbd⟩
  |some mv=>
   obtain⟨q1,g5⟩:=aj (b:=jB hi) g4
   obtain⟨m,g6,hm⟩:=gS hmx g5
   obtain⟨⟨b1,b2,b3,b4⟩,g7⟩:=ai g6
   obtain⟨a,rfl⟩:=Int.eq_ofNat_of_zero_le b1
   obtain⟨b,rfl⟩:=Int.eq_ofNat_of_zero_le (show 0≤b by omega)
   obtain⟨m,rfl⟩:=Int.eq_ofNat_of_zero_le (show 0≤m by omega)
   have hm':∃k,xm=some (.int k (.ofNat m)):=by
    rcases hm with⟨q,_⟩|⟨k,q⟩
    ·cases q
    ·exact⟨cR k,q⟩
   have hbd:=dr (P:=P) (isS:=true) (len:=l.length) (cap:=cap) (dQ rfl (show(0:Int)=((0:Nat):Int) from rfl) ha) (dQ rfl rfl hb) (.inr hm') (fun _=>hsome q1) (by omega) (by omega) (by omega) w
   exact⟨.sy (.imm (Lr ao sz a b m) sz α ((l.drop a).take (b - a)) enc),Lr ao sz a b m,vt (adw h1 (by omega) (by omega) (by omega) (by omega)),g7,hrun ao l.length cap a b m hbd⟩
 case psub i sz0 d n o oc=>
  obtain⟨Ty,sz',α,l,enc,hi',g1⟩:=dK g
  obtain⟨g2,g3⟩:=aj g1
  have g2:=apz g2
  subst g2
  obtain⟨g5,g6⟩:=aj g3
  have g5:=apz g5
  subst g5
  obtain⟨a,g7,ha⟩:=gS hlo g6
  obtain⟨b,g4,hb⟩:=gS hhi g7
  simp only[den,bo]at hv
  obtain⟨f,q1,hsz,hrow⟩:=h.prow hi'
  rw[q1]at hv
  cases mx with
  |some mv=>
   obtain⟨p1,g5⟩:=aj (b:=jB hi) g4
   obtain⟨m,g6,hm⟩:=gS hmx g5
   obtain⟨⟨rfl,rfl,rfl,rfl,rfl,rfl⟩,g8⟩:=ai g6
   have hm':∃k,xm=some (.int k (.ofNat n)):=by
    rcases hm with⟨q,_⟩|⟨k,q⟩
    ·cases q
    ·exact⟨cR k,q⟩
   rcases fU hv with⟨q2,rfl,_,rfl⟩|⟨c,q2,rfl,hc,hq⟩
   ·have hbd:=dr (P:=P) (isS:=true) (len:=0) (cap:=0) (dQ (n:=0) rfl (show(0:Int)=((0:Nat):Int) from rfl) ha) (dQ rfl rfl hb) (.inr hm') (fun _=>hsome p1) (by omega) (by omega) (apM 0) w
    refine⟨_,_,?_,g8,hrun none 0 0 0 0 0 hbd⟩
    simp[den,bo,q1,ub,q2]
   ·obtain rfl:=hq n rfl
    have hbd:=dr (P:=P) (isS:=true) (len:=n) (cap:=n - 0) (dQ (n:=0) rfl (show(0:Int)=((0:Nat):Int) from rfl) ha) (dQ rfl rfl hb) (.inr hm') (fun _=>hsome p1) (by omega) (by omega) (by omega) w
    refine⟨_,_,?_,g8,hrun _ n (n - 0) 0 n n hbd⟩
    simp only[den,bo,q1,ub,q2]
    by_cases q:n=0
    ·simp[q]
    ·simp[q,de]
  |none=>
   have hxm:=hno rfl
   subst hxm
   obtain⟨⟨b1,b2,b3⟩,g9⟩:=ai g4
   obtain⟨a,rfl⟩:=Int.eq_ofNat_of_zero_le b1
   obtain⟨b,rfl⟩:=Int.eq_ofNat_of_zero_le (show 0≤b by omega)
   rcases fU hv with⟨q2,rfl,rfl,rfl⟩|⟨c,q2,rfl,hc,hq⟩
   ·have ea:a=0:=by omega
    have eb:b=0:=by omega
    subst ea;subst eb
    have hbd:=dr (P:=P) (isS:=true) (len:=0) (cap:=0) (dQ rfl (show(0:Int)=((0:Nat):Int) from rfl) ha) (dQ rfl rfl hb) (.inl ⟨rfl,rfl⟩) (fun q=>absurd rfl q) (by omega) (by omega) (apM 0) w
    cases oc with
    |none=>
     refine⟨_,_,?_,aq g9 0,hrun none 0 0 0 0 0 hbd⟩
     simp[den,bo,q1,nP,q2]
    |some c=>
     obtain rfl:=VM hv q2
     refine⟨_,_,?_,g9,hrun none 0 0 0 0 0 hbd⟩
     simp[den,bo,q1,nP,q2]
   ·have hbd:=dr (P:=P) (isS:=true) (len:=n) (cap:=c - d) (dQ rfl (show(0:Int)=((0:Nat):Int) from rfl) ha) (dQ rfl rfl hb) (.inl ⟨rfl,rfl⟩) (fun q=>absurd rfl q) (by omega) (by omega) (by omega) w
    have e1:(a:Int).toNat=a:=Int.toNat_natCast a
    have e2:(b:Int).toNat=b:=Int.toNat_natCast b
    have key:∀oc':Option Nat,(∀q,oc'=some q→q=c)→den E ρ (.sy (.psub i sz (d+(a:Int).toNat) ((b:Int).toNat - (a:Int).toNat) (if c=d then o else d*sz) oc'))=some (.slice (if c - d=a then some ⟨f.b,if c=d then o else d*sz,none⟩ else (some ⟨f.b,if c=d then o else d*sz,none⟩:Option Addr).map (·.add (a*sz))) (b - a) (c - d - a)):=fun oc' hoc=>by
     simp only[den,bo,q1,nP,q2]
     rw[if_pos ⟨by simp;omega,hoc⟩]
     by_cases q:c=d+a
     ·rw[if_pos (by omega),if_pos (show c - d=a by omega),e1,e2,Nat.sub_sub]
     ·rw[if_neg (by omega),if_neg (show¬c - d=a by omega),e1,e2,Nat.sub_sub]
      have hne:¬c=d:=by omega
      simp[hne,de,Nat.add_mul]
    cases oc with
    |none=>exact⟨_,_,key none (fun q e=>by cases e),aq g9 _,hrun _ n (c - d) a b (c - d) hbd⟩
    |some c0=>
     obtain rfl:=hq c0 rfl
     exact⟨_,_,key (some c0) (fun q e=>by cases e;rfl),g9,hrun _ n (c0 - d) a b (c0 - d) hbd⟩
 case pfix i n c=>
  obtain⟨a,g3,ha⟩:=gS hlo g
  obtain⟨b,g4,hb⟩:=gS hhi g3
  simp only[den,bo]at hv
  cases mx with
  |some mv=>cases g4
  |none=>
   have hxm:=hno rfl
   subst hxm
   obtain⟨⟨rfl,b1,b2,b3⟩,g5⟩:=ai g4
   obtain⟨b,rfl⟩:=Int.eq_ofNat_of_zero_le b1
   split at hv
   case h_2=>cases hv
   rename_i f q1
   have hbd:=dr (P:=P) (isS:=true) (len:=n) (cap:=c) (dQ (n:=0) rfl (show(0:Int)=((0:Nat):Int) from rfl) ha) (dQ rfl rfl hb) (.inl ⟨rfl,rfl⟩) (fun q=>absurd rfl q) (by omega) (by omega) (apM c) w
   have e2:(b:Int).toNat=b:=Int.toNat_natCast b
   unfold uc at hv
   split at hv
   ·rename_i q2
    split at hv
    case isFalse=>cases hv
    rename_i q3
    obtain⟨rfl,rfl⟩:=q3
    cases hv
    have eb:b=0:=by omega
    subst eb
    refine⟨_,_,?_,g5,hrun none 0 0 0 0 0 hbd⟩
    simp[den,bo,q1,uc,q2]
   ·rename_i c' q2
    cases hv
    refine⟨_,_,?_,g5,hrun _ n c 0 b c hbd⟩
    simp only[den,bo,q1,uc,q2,e2]
    by_cases q:c=0
    ·simp[q]
    ·simp[q,de]
 case prow i n=>
  obtain⟨Ty,sz',α,l,enc,hi',g1⟩:=dK g
  obtain⟨g2,g3⟩:=aj g1
  have g2:=apz g2
  subst g2
  obtain⟨a,g3,ha⟩:=gS hlo g3
  obtain⟨b,g4,hb⟩:=gS hhi g3
  simp only[den,bo]at hv
  obtain⟨f,q1,hsz,hrow⟩:=h.prow hi'
  rw[q1]at hv
  cases mx with
  |none=>
   have hxm:=hno rfl
   subst hxm
   obtain⟨⟨b0,b1,b2,b3⟩,g5⟩:=ai g4
   obtain⟨a,rfl⟩:=Int.eq_ofNat_of_zero_le b1
   obtain⟨b,rfl⟩:=Int.eq_ofNat_of_zero_le (show 0≤b by omega)
   rcases hrow with⟨q2,q3⟩|⟨c,arr,q2,q3,r⟩
   ·rcases eG hv with⟨_,rfl,rfl⟩|⟨c,q4,_⟩
    ·have ea:a=0:=by omega
     have eb:b=0:=by omega
     subst ea;subst eb
     have hbd:=dr (P:=P) (isS:=true) (len:=0) (cap:=0) (dQ rfl (show(0:Int)=((0:Nat):Int) from rfl) ha) (dQ rfl rfl hb) (.inl ⟨rfl,rfl⟩) (fun q=>absurd rfl q) (by omega) (by omega) (apM 0) w
     refine⟨_,_,?_,g5,hrun none 0 0 0 0 0 hbd⟩
     simp[den,bo,q1,nP,q2]
    ·omega
   ·rcases eG hv with⟨q4,_⟩|⟨c',q4,rfl⟩
    ·omega
    ·have:c'=c:=by omega
     subst this
     have hle:=r.le
     have hbd:=dr (P:=P) (isS:=true) (len:=n) (cap:=c') (dQ rfl (show(0:Int)=((0:Nat):Int) from rfl) ha) (dQ rfl rfl hb) (.inl ⟨rfl,rfl⟩) (fun q=>absurd rfl q) (by omega) (by omega) (apM c') w
     refine⟨_,_,?_,g5,hrun _ n c' a b c' hbd⟩
     simp only[den,bo,q1,nP,q2]
     rw[if_pos ⟨by omega,fun q e=>by cases e⟩]
     by_cases q:c'=a
     ·simp[q]
     ·simp[q,de]
  |some mv=>
   obtain⟨p1,g5⟩:=aj (b:=jB hi) g4
   obtain⟨m,g6,hm⟩:=gS hmx g5
   obtain⟨⟨b0,b1,b2,b3⟩,g7⟩:=ai g6
   subst b1;subst b2;subst b3
   have hm':∃k,xm=some (.int k (.ofNat n)):=by
    rcases hm with⟨q,_⟩|⟨k,q⟩
    ·cases q
    ·exact⟨cR k,q⟩
   rcases hrow with⟨q2,q3⟩|⟨c,arr,q2,q3,r⟩
   ·rcases eG hv with⟨_,rfl,rfl⟩|⟨c,q4,_⟩
    ·have hbd:=dr (P:=P) (isS:=true) (len:=0) (cap:=0) (dQ (n:=0) rfl (show(0:Int)=((0:Nat):Int) from rfl) ha) (dQ rfl rfl hb) (.inr hm') (fun _=>hsome p1) (by omega) (by omega) (apM 0) w
     refine⟨_,_,?_,g7,hrun none 0 0 0 0 0 hbd⟩
     simp[den,bo,q1,uc,q2]
    ·omega
   ·rcases eG hv with⟨q4,_⟩|⟨c',q4,rfl⟩
    ·omega
    ·have:c'=c:=by omega
     subst this
     have hle:=r.le
     have hbd:=dr (P:=P) (isS:=true) (len:=n) (cap:=c') (dQ (n:=0) rfl (show(0:Int)=((0:Nat):Int) from rfl) ha) (dQ rfl rfl hb) (.inr hm') (fun _=>hsome p1) (by omega) (by omega) (by omega) w
     refine⟨_,_,?_,g7,hrun _ n c' 0 n n hbd⟩
     simp only[den,bo,q1,uc,q2]
     by_cases q:n=0
     ·simp[q]
     ·simp[q,de]
def nM (h:Value):Prop:=∃n c,h= .slice none n c
noncomputable def anf (v:AV) (lo hi:Option AV) (K:AV→Bool):Bool:=Fi v fun l=>qF 0 lo fun a=>qF (l.length:Int) hi fun b=>aa (aN (0≤a∧a≤b∧b≤(l.length:Int))) (K (.sy (.str ((l.drop a.toNat).take (b.toNat - a.toNat)))))
theorem ajj {v:AV} {lo hi:Option AV} {K:AV→Bool} {x:Value} {xl xh:Option Value} {t:TypeId} (ht:P.underlying t=some .string) (hv:den E ρ v=some x)
  (hlo:xR E ρ lo xl) (hhi:xR E ρ hi xh) (hk:anf v lo hi K=true):∃u z,den E ρ u=some z∧K u=true∧∀w,(Instr.sliceAt t x xl xh none).run P w= .ok z w:=by
 obtain⟨l,rfl,g1⟩:=og hv hk
 obtain⟨a,g3,ha⟩:=gS hlo g1
 obtain⟨b,g4,hb⟩:=gS hhi g3
 obtain⟨⟨b1,b2,b3⟩,g5⟩:=ai g4
 obtain⟨a,rfl⟩:=Int.eq_ofNat_of_zero_le b1
 obtain⟨b,rfl⟩:=Int.eq_ofNat_of_zero_le (show 0≤b by omega)
 refine⟨_,_,rfl,g5,fun w=> ?_⟩
 have hsz:ByteArray.size ⟨l.toArray⟩=l.length:=by simp[ByteArray.size]
 have hbd:=dr (P:=P) (isS:=false) (len:=l.length) (cap:=l.length) (dQ rfl (show(0:Int)=((0:Nat):Int) from rfl) ha) (dQ rfl rfl hb) (.inl ⟨rfl,rfl⟩) (fun q=>absurd rfl q) (by omega) (by omega) (apM _) w
 have hx:ByteArray.extract ⟨l.toArray⟩ a b=⟨((l.drop a).take (b - a)).toArray⟩:=by
  apply ByteArray.ext
  rw[ByteArray.data_extract]
  apply Array.ext'
  simp[List.extract]
 simp[Instr.sliceAt,Instr.slice,run_underlying ht,hsz,hbd,hx,S]
noncomputable def ao9 (ne:Bool) (kd:Nat) (v:AV) (K:AV→Bool):Bool:=aa (Nat.beq kd 2) (kI v fun s=>SY.casesOn s (fun _ _=>false) (fun _=>false) (fun _=>false)
 (fun h _ _ l _=>bn (aN (nM h→l=[])) (Bool.rec (K (.sy (.bool (nM h)))) (K (.sy (.bool (¬nM h)))) ne) true) (fun _ _ _=>false) (fun _ n=>ae fun p:Prop=>bn (aN (p→n=0)) (Bool.rec (K (.sy (.bool p))) (K (.sy (.bool (¬p)))) ne) true) (fun _ _ _ _ _ _=>false) (fun _ _ _ _=>false) (fun _ _ _=>false) (fun _=>false))
noncomputable def aob (ne:Bool) (kd:Nat) (v:AV) (K:AV→Bool):Bool:=bn (fy v) (ao9 ne kd v K) (aoc ne kd v K)
theorem YG (p:Prop):aN (¬p)= !aN p:=by
 by_cases hp:p
 ·rw[prB_true.2 hp,prB_false.2 (fun q=>q hp)];rfl
 ·rw[prB_false.2 hp,prB_true.2 hp];rfl
theorem aj8 {ne:Bool} {kd:Nat} {v:AV} {K:AV→Bool} {x:Value} {t:TypeId} {y:Value} (hn:UQ P t kd=some y) (h1:den E ρ v=some x) (h:aob ne kd v K=true) (p:Operand) (c:Value):
  ∃u z,den E ρ u=some z∧K u=true∧∀w,((do eqGuard (bif ne then .neq else .eql) t p (.const c) x y;binOp (bif ne then .neq else .eql) t x y):Sem Value).run P w= .ok z w:=by
 rcases bi h with⟨-,g⟩|⟨-,g⟩
 case inr=>exact aj9 hn h1 g p c
 obtain⟨g1,g2⟩:=aj g
 have g1:=apz g1
 subst g1
 have hty:∃e,P.underlying t=some (.slice e)∧y= .slice none 0 0:=by
  unfold UQ at hn
  split at hn<;>first|(cases hn;done)|skip
  all_goals(rename_i q;first|(cases hn;exact⟨_,by assumption,rfl⟩)|skip)
  all_goals simp_all
 obtain⟨e,hu,rfl⟩:=hty
 have hr:∀(ao:Option Addr) (n cc:Nat) (w:World),((do eqGuard (bif ne then .neq else .eql) t p (.const c) (.slice ao n cc) (.slice none 0 0);binOp (bif ne then .neq else .eql) t (.slice ao n cc) (.slice none 0 0)):Sem Value).run P w= .ok (.bool (bif ne then !ao.isNone else ao.isNone)) w:=by
  intro ao n cc w
  have ho:∀x y:Value,Op.equal t x y=Op.equalIn (9999+1) t x y:=fun _ _=>rfl
  cases ne<;>simp[eqGuard,binOp,ho,EZ hu]
 replace g2:=eI g2
 clear g h
 obtain⟨s,rfl,g⟩:=g2
 cases s<;>first|(cases g;done)|skip
 case imm hh sz α l enc=>
  obtain⟨h1,rfl⟩:=iE (show ji E (.imm hh sz α l enc)=some x from h1)
  obtain⟨ao,cap,rfl,_,_,_,ha,_⟩:=BW h1
  have hl0:nM (.slice ao l.length cap)→l=[]:=fun⟨_,_,q⟩=>by
   injection q with q
   subst q
   rcases Nat.eq_zero_or_pos l.length with z|z
   ·exact apS z
   ·exact absurd (ha z) (by simp)
  have g:(Bool.rec (K (.sy (.bool (nM (.slice ao l.length cap))))) (K (.sy (.bool (¬nM (.slice ao l.length cap))))) ne:Bool)=true:=by
   have g':bn (aN (nM (.slice ao l.length cap)→l=[])) (Bool.rec (K (.sy (.bool (nM (.slice ao l.length cap))))) (K (.sy (.bool (¬nM (.slice ao l.length cap))))) ne) true=true:=g
   rwa[prB_true.2 hl0]at g'
  have hnil:aN (nM (.slice ao l.length cap))=ao.isNone:=by
   cases ao with
   |none=>exact prB_true.2 ⟨_,_,rfl⟩
   |some a=>exact prB_false.2 (fun⟨_,_,q⟩=>by injection q with q;cases q)
  cases ne with
  |false=>exact⟨.sy (.bool (nM (.slice ao l.length cap))),_,rfl,g,fun w=>by rw[hnil];exact hr ao _ _ w⟩
  |true=>exact⟨.sy (.bool (¬nM (.slice ao l.length cap))),_,rfl,g,fun w=>by rw[YG,hnil];exact hr ao _ _ w⟩
 case prow i n=>
  simp only[den,bo]at h1
  split at h1
  case h_2=>cases h1
  have key:∃ao n' c',x= .slice ao n' c'∧(ao.isNone=true→n=0):=by
   rcases eG h1 with⟨_,rfl,rfl⟩|⟨c,_,rfl⟩
   ·exact⟨_,_,_,rfl,fun _=>rfl⟩
   ·exact⟨_,_,_,rfl,fun q=>by cases q⟩
  obtain⟨ao,n',c',rfl,hn0⟩:=key
  rcases jC (aq g (ao.isNone=true)) with⟨_,g⟩|⟨q,_⟩
  ·cases ne with
   |false=>exact⟨.sy (.bool (ao.isNone=true)),_,rfl,g,fun w=>by rw[wy];exact hr ao _ _ w⟩
   |true=>exact⟨.sy (.bool (¬ao.isNone=true)),_,rfl,g,fun w=>by rw[YG,wy];exact hr ao _ _ w⟩
  ·exact absurd hn0 q
theorem Sim.freeze (h:Sim E ρ G F M nx w) {i:Nat} {o:AObj} {e:eT} {M':T} (hi:M.get i=some o) (he:ρ i=some e) (hB:cU e o=true) (h1:M'.get i=none) (h2:∀m,m≠i→M'.get m=M.get m):
  ∃ob E',Kx ρ E E'∧E'.at_=E.at_∧E'.M e.b=some ob∧ORel E ρ e o ob∧Sim E' ρ G F M' nx w:=by
 obtain⟨c,hh,ho,hinj⟩:=h.ex
 obtain⟨f,a1,⟨_,ob,a2,a3⟩|⟨q,_⟩⟩:=ho i o hi
 case inr=>rw[he]at a1;cases a1;rw[hB]at q;cases q
 rw[he]at a1;cases a1
 obtain⟨A,B,rfl⟩:=List.append_of_mem a2
 have hh':Holds {G with M:=E.M} w ([(e.b,ob)]::(A++B)::F):=hh.perm (by
  simp only[apB,List.cons_append,apD,List.append_assoc]
  exact List.perm_middle.symm)
 obtain⟨t1,t2,t3⟩:=hh'.toG
 refine⟨ob,⟨E.at_,(GS.add {G with M:=E.M} [(e.b,ob)]).M⟩,⟨fun _ _ _=>rfl,t1.mem⟩,rfl,t3 (e.b,ob) (by simp),a3,⟨A++B,t2,fun k o2 hk=> ?_,fun k l e' f' o1 o2 hk hl he' hf' hb1 hb2 hb=> ?_⟩,MLe.trans h.mem t1.mem,h.fresh⟩
 ·have hki:k≠i:=fun q=>by subst q;rw[h1]at hk;cases hk
  rw[h2 k hki]at hk
  obtain⟨f,b1,⟨b0,ob2,b2,b3⟩|b4⟩:=ho k o2 hk
  ·refine⟨f,b1,.inl ⟨b0,ob2,?_,ORel.env (E:=E) (E':=⟨E.at_,(GS.add {G with M:=E.M} [(e.b,ob)]).M⟩) ⟨fun _ _ _=>rfl,t1.mem⟩ b3⟩⟩
   simp only[apK,apF]at b2 ⊢
   rcases b2 with b2|b2|b2
   ·exact .inl b2
   ·exfalso
    injection b2 with b2 _
    exact hki (hinj k i f e _ _ hk hi b1 he b0 hB b2)
   ·exact .inr b2
  ·exact⟨f,b1,.inr b4⟩
 ·have hki:k≠i:=fun q=>by subst q;rw[h1]at hk;cases hk
  have hli:l≠i:=fun q=>by subst q;rw[h1]at hl;cases hl
  rw[h2 k hki]at hk
  rw[h2 l hli]at hl
  exact hinj k l e' f' _ _ hk hl he' hf' hb1 hb2 hb
theorem anu {E':Env} {e:eT} {Ty sz c m:Nat} {α:Type} {l:List α} {enc:α→List PL} {arr:Array Value} (hm:MLe E.M E'.M) (hM:E'.M e.b=some (.cells arr Ty (0,0))) (hsz:0<sz) (hl:∀x∈l,(enc x).length=sz) (r:RowAt E w e Ty sz (l.flatMap enc) l.length c arr) (h1:l.length≤m) (h2:m≤c):
  OkP E'.M (.imm (.slice (some ⟨e.b,0,none⟩) l.length m) sz α l enc):=by
 refine .imm (some ⟨e.b,0,none⟩) m rfl h1 (Nat.le_trans h2 r.max) hsz (fun _=>rfl) hl (fun x hx p hp=>(r.ok p (List.mem_flatMap.2 ⟨x,hx,hp⟩)).mono hm) (fun i x hx j v hv=> ?_)
 rw[apR]at hv
 rcases hp:(enc x)[j]? with _|p
 ·rw[hp]at hv;cases hv
 rw[hp]at hv
 have hf:=CG hl hx hp
 have:((l.flatMap enc).map bw)[i*sz+j]?=some v:=by rw[apR,hf];exact hv
 rw[←r.take]at this
 have hlt:i*sz+j<l.length*sz:=by
  have:=(List.getElem?_eq_some_iff.1 this).1
  rw[apL]at this;omega
 rw[apO hlt]at this
 simp only[blk,AY,Nat.zero_add,ou,hM]
 simpa using this
noncomputable def ags (i n:Nat) (M:T) (K:AV→T→Bool):Bool:=fL M i fun _ sz α l enc=>aa (aN (n=l.length)) (T.set bM M i none fun M'=>ae fun h:Value=>K (.sy (.imm h sz α l enc)) M')
noncomputable def ab0 (v:AV) (M:T) (K:AV→T→Bool):Bool:=bn (fy v) (kI v fun s=>SY.casesOn s (fun _ _=>K v M) (fun _=>K v M) (fun _=>K v M) (fun _ _ _ _ _=>K v M) (fun _ _ _=>false) (fun i n=>ags i n M K) (fun _ _ _ _ _ _=>false) (fun _ _ _ _=>false) (fun i n m=>aa (aN (n=m)) (ags i n M K)) (fun _=>false))
 (toP v fun _=>K v M)
theorem afP {v:AV} {x:Value} {K:PL→Bool} (hd:den E ρ v=some x) (h:toP v K=true):den E (fun _=>none) v=some x:=by
 cases v<;>first|(cases h;done)|exact hd|skip
 case sy s=>
  cases s<;>first|(cases h;done)|exact hd
theorem Ze (h:Sim E ρ G F M nx w) {i n m:Nat} {x:Value} {K:AV→T→Bool} (hd:bo E ρ (.prow i n)=some x∨(n=m∧bo E ρ (.pfix i n m)=some x)) (hkk:ags i n M K=true):
  ∃E' M' v,Kx ρ E E'∧E'.at_=E.at_∧Sim E' ρ G F M' nx w∧den E' (fun _=>none) v=some x∧K v M'=true:=by
 obtain⟨Ty,sz,α,l,enc,hi,g1⟩:=dK hkk
 obtain⟨hn,g2⟩:=ai g1
 obtain⟨M',g3,s1,s2⟩:=T.set_ok _ _ _ _ _ g2
 obtain⟨e,q1,hsz,hrow⟩:=h.prow hi
 have hform:(e.cap=0∧n=0∧x= .slice none 0 0)∨∃c mm,e.cap=c+1∧x= .slice (some ⟨e.b,0,none⟩) n mm∧(mm=c∨mm=n):=by
  rcases hd with hd|⟨rfl,hd⟩
  ·simp only[bo,q1]at hd
   rcases eG hd with q|⟨c,q2,q3⟩
   ·exact .inl q
   ·exact .inr ⟨c,c,q2,q3,.inl rfl⟩
  ·simp only[bo,q1]at hd
   rcases tQ hd with⟨q,q2,_,q3⟩|⟨c,q2,q3⟩
   ·exact .inl ⟨q,q2,q3⟩
   ·exact .inr ⟨c,n,q2,q3,.inr rfl⟩
 rcases hrow with⟨q2,q3⟩|⟨c,arr,q2,q3,r⟩
 ·rcases hform with⟨_,_,rfl⟩|⟨c,_,q4,_⟩
  ·subst q3
   refine⟨E,M',_,⟨fun _ _ _=>rfl,MLe.refl _⟩,rfl,?_,?_,aq g3 (.slice none 0 0)⟩
   ·obtain⟨cc,hh,ho,hinj⟩:=h.ex
    refine⟨⟨cc,hh,fun k o2 hk=> ?_,fun k l e' f' o1 o2 hk hl=> ?_⟩,h.mem,h.fresh⟩
    ·have hki:k≠i:=fun q=>by subst q;rw[s1]at hk;cases hk
     rw[s2 k hki]at hk
     exact ho k o2 hk
    ·have hki:k≠i:=fun q=>by subst q;rw[s1]at hk;cases hk
     have hli:l≠i:=fun q=>by subst q;rw[s1]at hl;cases hl
     rw[s2 k hki]at hk
     rw[s2 l hli]at hl
     exact hinj k l e' f' o1 o2 hk hl
   ·show ji E _=_
    exact vt (.imm none 0 rfl (by simp) (by decide) hsz (fun q=>by simp at q) (fun x hx=>by simp at hx) (fun x hx=>by simp at hx) (fun i x hx=>by simp at hx))
  ·omega
 ·rcases hform with⟨q4,_⟩|⟨c',mm,q4,rfl,q5⟩
  ·omega
  ·have:c'=c:=by omega
   subst this
   have hB:cU e (.prow Ty sz α l enc)=true:=dN q2
   obtain⟨ob,E',f1,f2,f3,f4,f5⟩:=h.freeze hi q1 hB s1 s2
   have hob:ob= .cells arr Ty (0,0):=by
    obtain⟨G',_,hh,hM⟩:=f5.holds
    have:=hh.mem e.b ob (by rw[hM];exact f3)
    rw[r.heap]at this
    exact(apT this).symm
   subst hob
   subst hn
   refine⟨E',M',_,f1,f2,f5,?_,aq g3 (.slice (some ⟨e.b,0,none⟩) l.length mm)⟩
   show ji E' _=_
   have hle:=r.le
   exact vt (anu f1.mem f3 hsz q3 r (by rcases q5 with rfl|rfl<;>omega) (by rcases q5 with rfl|rfl<;>omega))
theorem Zf (h:Sim E ρ G F M nx w) {v:AV} {x:Value} {K:AV→T→Bool} (hd:den E ρ v=some x) (hk:ab0 v M K=true):
  ∃E' M' u,Kx ρ E E'∧E'.at_=E.at_∧Sim E' ρ G F M' nx w∧den E' (fun _=>none) u=some x∧K u M'=true:=by
 rcases bi hk with⟨-,g⟩|⟨-,g⟩
 ·replace g:=eI g
  obtain⟨s,rfl,g⟩:=g
  cases s<;>first|(cases g;done)|skip
  case int=>exact⟨E,M,.sy (.int _ _),⟨fun _ _ _=>rfl,MLe.refl _⟩,rfl,h,hd,g⟩
  case bool=>exact⟨E,M,.sy (.bool _),⟨fun _ _ _=>rfl,MLe.refl _⟩,rfl,h,hd,g⟩
  case str=>exact⟨E,M,.sy (.str _),⟨fun _ _ _=>rfl,MLe.refl _⟩,rfl,h,hd,g⟩
  case imm=>exact⟨E,M,.sy (.imm _ _ _ _ _),⟨fun _ _ _=>rfl,MLe.refl _⟩,rfl,h,hd,g⟩
  case prow i n=>exact Ze (m:=0) h (.inl hd) g
  case pfix i n m=>
   obtain⟨g1,g2⟩:=ai g
   exact Ze (m:=m) h (.inr ⟨g1,hd⟩) g2
 ·have:=afP hd g
  obtain⟨p,_,_,g⟩:=ac2 (K:=fun _=>K v M) hd g
  exact⟨E,M,_,⟨fun _ _ _=>rfl,MLe.refl _⟩,rfl,h,this,g⟩
end
section
variable {P:Program} {E:Env} {ρ:Ren} {G:GS} {F:List bh} {M:T} {nx:Nat} {w:World}
structure acE (E:Env) (w:World) (x:Value) (sz m:Nat) (ps:List PL):Prop where
 form:∃ao c,x= .slice ao m c∧(0<m→∃b o,ao=some ⟨b,o,none⟩∧∀j u,(ps.map bw)[j]?=some u→w.cell? ⟨b,o+j,none⟩=some u)
 len:ps.length=m*sz
 ok:∀p∈ps,OkP E.M p
noncomputable def abh (sz:Nat) (v:AV) (M:T) (K:(α:Type)→List α→(α→List PL)→Bool):Bool:=kI v fun s=>SY.casesOn s (fun _ _=>false) (fun _=>false) (fun _=>false)
 (fun _ sz' α l enc=>aa (Nat.beq sz sz') (K α l enc)) (fun _ _ _=>false)
 (fun i n=>fL M i fun _ sz' α l enc=>aa (Nat.beq sz sz') (aa (aN (n=l.length)) (K α l enc)))
 (fun i sz0 a n _ _=>fL M i fun _ sz' α l enc=>aa (Nat.beq sz sz') (aa (Nat.beq sz sz0) (aa (aN (a+n≤l.length)) (K α ((l.drop a).take n) enc))))
 (fun _ _ _ _=>false)
 (fun i n _=>fL M i fun _ sz' α l enc=>aa (Nat.beq sz sz') (aa (aN (n=l.length)) (K α l enc))) (fun _=>false)
theorem RowAt.cells {e:eT} {Ty sz n c:Nat} {ps:List PL} {arr:Array Value} (r:RowAt E w e Ty sz ps n c arr) (a:Nat):∀j v,((ps.drop a).map bw)[j]?=some v→w.cell? ⟨e.b,a+j,none⟩=some v:=fun j v hv=>by
 rw[List.map_drop,List.getElem?_drop]at hv
 exact r.cell hv
theorem qU {α:Type} {enc:α→List PL} {sz:Nat}:∀{l:List α} (a:Nat),(∀x∈l,(enc x).length=sz)→(l.drop a).flatMap enc=(l.flatMap enc).drop (a*sz)
 |l,0,_=>by simp
 |[],a+1,_=>by simp
 |x::l,a+1,h=>by
  rw[List.drop_succ_cons,qU a fun y hy=>h y (by simp[hy]),List.flatMap_cons,List.drop_append,List.drop_eq_nil_of_le (as:=enc x) (by rw[h x (by simp),Nat.add_mul];omega),h x (by simp)]
  rw[show(a+1)*sz - sz=a*sz by rw[Nat.add_mul];omega]
  simp
theorem EP {α:Type} {enc:α→List PL} {sz:Nat}:∀{l:List α} (a:Nat),(∀x∈l,(enc x).length=sz)→(l.take a).flatMap enc=(l.flatMap enc).take (a*sz)
 |l,0,_=>by simp
 |[],a+1,_=>by simp
 |x::l,a+1,h=>by
  rw[List.take_succ_cons,List.flatMap_cons,EP a fun y hy=>h y (by simp[hy]),List.flatMap_cons,List.take_append,List.take_of_length_le (l:=enc x) (by rw[h x (by simp),Nat.add_mul];omega),h x (by simp)]
  rw[show(a+1)*sz - sz=a*sz by rw[Nat.add_mul];omega]
theorem Gs (h:Sim E ρ G F M nx w) {sz:Nat} {v:AV} {K:(α:Type)→List α→(α→List PL)→Bool} {x:Value} (hv:den E ρ v=some x) (hk:abh sz v M K=true):
  ∃α l enc,K α l enc=true∧(∀x∈l,(enc x).length=sz)∧0<sz∧acE E w x sz l.length (l.flatMap enc):=by
 replace hk:=eI hk
 obtain⟨s,rfl,g⟩:=hk
 cases s<;>first|(cases g;done)|skip
 case imm hh sz' α l enc=>
  obtain⟨g1,g2⟩:=aj g
  have g1:=apz g1
  subst g1
  obtain⟨h1,rfl⟩:=iE (show ji E (.imm hh sz α l enc)=some x from hv)
  obtain⟨ao,cap,rfl,c1,c2,c3,ha,hl,ho,hr⟩:=BW h1
  refine⟨α,l,enc,g2,hl,c3,⟨ao,cap,rfl,fun q=>⟨_,_,ha q,fun j u hu=> ?_⟩⟩,gM hl,fun p hp=> ?_⟩
  ·rw[apR]at hu
   rcases hp:(l.flatMap enc)[j]? with _|p
   ·rw[hp]at hu;cases hu
   rw[hp]at hu
   have hj:=(List.getElem?_eq_some_iff.1 hp).1
   rw[gM hl]at hj
   have hq:j / sz<l.length:=Nat.div_lt_of_lt_mul (by rw[Nat.mul_comm];exact hj)
   have hx:l[j / sz]?=some l[j / sz]:=List.getElem?_eq_getElem hq
   have hm:=Nat.mod_lt j c3
   have hp2:(enc l[j / sz])[j % sz]?=some ((enc l[j / sz])[j % sz]'(by rw[hl _ (List.getElem_mem hq)];exact hm)):=List.getElem?_eq_getElem _
   have h3:=CG hl hx hp2
   have e0:j / sz*sz+j % sz=j:=by rw[Nat.mul_comm];exact Nat.div_add_mod j sz
   rw[e0,hp]at h3
   have h4:=hr (j / sz) _ hx (j % sz) u (by rw[apR,hp2,←apT h3];exact hu)
   rw[Nat.add_assoc,e0]at h4
   exact h.cellM h4
  ·obtain⟨y,hy,hp⟩:=List.mem_flatMap.1 hp
   exact ho y hy p hp
 case prow i n=>
  obtain⟨Ty,sz',α,l,enc,hi',g1⟩:=dK g
  obtain⟨g2,g3⟩:=aj g1
  have g2:=apz g2
  subst g2
  obtain⟨rfl,g4⟩:=ai g3
  obtain⟨f,q1,hsz,hrow⟩:=h.prow hi'
  simp only[den,bo,q1]at hv
  rcases hrow with⟨q2,rfl⟩|⟨c,arr,q2,q3,r⟩
  ·rcases eG hv with⟨_,_,rfl⟩|⟨c,q4,_⟩
   ·exact⟨α,[],enc,g4,by simp,hsz,⟨none,0,rfl,fun q=>by simp at q⟩,by simp,by simp⟩
   ·omega
  ·rcases eG hv with⟨q4,_⟩|⟨c',q4,rfl⟩
   ·omega
   ·exact⟨α,l,enc,g4,q3,hsz,⟨_,c',rfl,fun _=>⟨f.b,0,rfl,fun j u hu=>by rw[Nat.zero_add];exact r.cell hu⟩⟩,r.len,r.ok⟩
 case pfix i n cc=>
  obtain⟨Ty,sz',α,l,enc,hi',g1⟩:=dK g
  obtain⟨g2,g3⟩:=aj g1
  have g2:=apz g2
  subst g2
  obtain⟨rfl,g4⟩:=ai g3
  obtain⟨f,q1,hsz,hrow⟩:=h.prow hi'
  simp only[den,bo,q1]at hv
  rcases hrow with⟨q2,rfl⟩|⟨c,arr,q2,q3,r⟩
  ·rcases tQ hv with⟨_,_,_,rfl⟩|⟨c,q4,_⟩
   ·exact⟨α,[],enc,g4,by simp,hsz,⟨none,0,rfl,fun q=>by simp at q⟩,by simp,by simp⟩
   ·omega
  ·rcases tQ hv with⟨q4,_⟩|⟨c',q4,rfl⟩
   ·omega
   ·exact⟨α,l,enc,g4,q3,hsz,⟨_,cc,rfl,fun _=>⟨f.b,0,rfl,fun j u hu=>by rw[Nat.zero_add];exact r.cell hu⟩⟩,r.len,r.ok⟩
 case psub i sz0 a n o oc=>
  obtain⟨Ty,sz',α,l,enc,hi',g1⟩:=dK g
  obtain⟨g2,g3⟩:=aj g1
  have g2:=apz g2
  subst g2
  obtain⟨g5,g6⟩:=aj g3
  have g5:=apz g5
  subst g5
  obtain⟨hle,g4⟩:=ai g6
  obtain⟨f,q1,hsz,hrow⟩:=h.prow hi'
  simp only[den,bo,q1]at hv
  have hlen:((l.drop a).take n).length=n:=by rw[apL,apW];omega
  have hsub:∀x∈(l.drop a).take n,x∈l:=fun x hx=>List.mem_of_mem_drop (List.mem_of_mem_take hx)
  rcases hrow with⟨q2,rfl⟩|⟨c,arr,q2,q3,r⟩
  ·simp at hle
   obtain⟨rfl,rfl⟩:a=0∧n=0:=by omega
   rcases fU hv with⟨_,_,_,rfl⟩|⟨c,q4,_⟩
   ·exact⟨α,_,enc,g4,by simp,hsz,⟨none,0,rfl,fun q=>by simp at q⟩,by simp,by simp⟩
   ·omega
  ·rcases fU hv with⟨q4,_⟩|⟨c',q4,rfl,_⟩
   ·omega
   ·have:=r.le
    have e1:((l.drop a).take n).flatMap enc=((l.flatMap enc).drop (a*sz)).take (n*sz):=by
     rw[EP (sz:=sz) n fun x hx=>q3 x (List.mem_of_mem_drop hx),qU a q3]
    refine⟨α,_,enc,g4,fun x hx=>q3 x (hsub x hx),hsz,⟨_,c' - a,by rw[hlen],fun hn=>⟨f.b,a*sz,?_,fun j u hu=> ?_⟩⟩,gM fun x hx=>q3 x (hsub x hx),fun p hp=> ?_⟩
    ·rw[hlen]at hn
     rw[if_neg (by omega)]
    ·refine r.cells (a*sz) j u ?_
     rw[e1,List.map_take]at hu
     have hj:=(List.getElem?_eq_some_iff.1 hu).1
     rw[apL]at hj
     rw[apO (by omega)]at hu
     exact hu
    ·obtain⟨y,hy,hp⟩:=List.mem_flatMap.1 hp
     exact r.ok p (List.mem_flatMap.2 ⟨y,hsub y hy,hp⟩)
noncomputable def TS (els:List (List AV)):(List (List PL)→Bool)→Bool:=List.rec (fun K=>K []) (fun v _ ih K=>abf v fun p=>ih fun ps=>K (p::ps)) els
theorem KH {sz:Nat}:∀{els:List (List AV)} {xs:List Value} {K:List (List PL)→Bool},aS E ρ els.flatten=some xs→(∀l∈els,l.length=sz)→TS els K=true→∃pss,K pss=true∧xs=pss.flatten.map bw∧(∀p∈pss.flatten,OkP E.M p)∧(∀l∈pss,l.length=sz)∧pss.length=els.length
 |[],xs,K,hd,_,h=>by
  simp[aS]at hd
  subst hd
  exact⟨[],h,rfl,by simp,by simp,rfl⟩
 |v::els,xs,K,hd,hl,h=>by
  obtain⟨xs1,xs2,h1,h2,rfl⟩:=ff (l:=v) (m:=els.flatten) (by simpa using hd)
  obtain⟨ps,p1,rfl,g,p3⟩:=NX (K:=fun p=>TS els fun ps=>K (p::ps)) h1 h
  obtain⟨pss,g1,rfl,q2,q3,q4⟩:=KH h2 (fun l hl'=>hl l (by simp[hl'])) g
  refine⟨ps::pss,g1,by simp,fun p hp=> ?_,fun l hl'=> ?_,by simp[q4]⟩
  ·simp only[apB,apK]at hp
   exact hp.elim (p1 p) (q2 p)
  ·rcases apF.1 hl' with rfl|hl'
   ·rw[p3];exact hl v (by simp)
   ·exact q3 l hl'
noncomputable def afS (sz:Nat) (v:AV) (M:T) (K:List (List PL)→(Bool→Bool→Bool)→Bool):Bool:=bn (fy v) (abh sz v M fun _ l enc=>K (l.map enc) fun x y=>bn (aN (l=[])) x y) (acb sz v M fun els=>TS els fun pss=>K pss fun x y=>List.casesOn pss x fun _ _=>y)
theorem Yz (h:Sim E ρ G F M nx w) {sz:Nat} (hsz:0<sz) {v:AV} {K:List (List PL)→(Bool→Bool→Bool)→Bool} {x:Value} (hv:den E ρ v=some x) (hk:afS sz v M K=true):
  ∃R empt,K R empt=true∧acE E w x sz R.length R.flatten∧(∀l∈R,l.length=sz)∧∀a b,empt a b=true→(R=[]∧a=true)∨(R≠[]∧b=true):=by
 rcases bi hk with⟨-,g⟩|⟨-,g⟩
 ·obtain⟨α,l,enc,g1,g2,g3,g4⟩:=Gs h hv g
  refine⟨_,_,g1,?_,fun e he=> ?_,fun a b q=> ?_⟩
  ·rw[apx,←List.flatMap_def];exact g4
  ·obtain⟨y,hy,rfl⟩:=List.mem_map.1 he
   exact g2 y hy
  ·rcases jC q with⟨q1,q2⟩|⟨q1,q2⟩
   ·exact .inl ⟨by rw[q1];rfl,q2⟩
   ·exact .inr ⟨fun q3=>q1 (List.map_eq_nil_iff.1 q3),q2⟩
 ·obtain⟨els,xs,ao,n,c,g1,g2,rfl,g4,g5,g6,g7⟩:=OI h hv g
  obtain⟨pss,p1,rfl,p3,p4,p5⟩:=KH g2 g5 g1
  refine⟨_,_,p1,⟨⟨ao,c,by rw[p5,g4],fun q=>g7 (by omega)⟩,fe p4,p3⟩,p4,fun a b q=> ?_⟩
  cases pss with
  |nil=>exact .inl ⟨rfl,q⟩
  |cons p ps=>exact .inr ⟨by simp,q⟩
def Ag (p q:PL):Prop:=p=q∨(∃k z,p= .sint k z∧q= .int k z)∨(∃(sz:Nat) (α:Type) (enc:α→List PL),0<sz∧p= .imm (.slice none 0 0) sz α [] enc∧q= .nilS)
def abm:List PL→List PL→Prop
 |[],[]=>True
 |p::a,q::b=>Ag p q∧abm a b
 |_,_=>False
def bg:List (List PL)→List (List PL)→Prop
 |[],[]=>True
 |p::a,q::b=>abm p q∧bg a b
 |_,_=>False
theorem Qc:∀(a:List PL),abm a a
 |[]=>trivial
 |p::a=>⟨.inl rfl,Qc a⟩
theorem cF:∀(a:List (List PL)),bg a a
 |[]=>trivial
 |p::a=>⟨Qc p,cF a⟩
theorem aky {p q:PL} (h:Ag p q):bw p=bw q∧∀M,OkP M q→OkP M p:=by
 rcases h with rfl|⟨k,z,rfl,rfl⟩|⟨sz,α,enc,h1,rfl,rfl⟩
 ·exact⟨rfl,fun _ h=>h⟩
 ·exact⟨rfl,fun _ _=>.sint k z⟩
 ·exact⟨rfl,fun _ _=>.imm none 0 rfl (by simp) (by decide) h1 (fun q=>by simp at q) (fun x hx=>by simp at hx) (fun x hx=>by simp at hx) (fun i x hx=>by simp at hx)⟩
theorem Uv:∀{a b:List PL},abm a b→a.map bw=b.map bw∧a.length=b.length∧∀M,(∀q∈b,OkP M q)→∀p∈a,OkP M p
 |[],[],_=>⟨rfl,rfl,fun M _ p hp=>by simp at hp⟩
 |p::a,q::b,h=>by
  obtain⟨h1,h2⟩:=h
  obtain⟨g1,g2⟩:=aky h1
  obtain⟨g3,g4,g5⟩:=Uv h2
  refine⟨by simp[g1,g3],by simp[g4],fun M hb x hx=> ?_⟩
  rcases apF.1 hx with rfl|hx
  ·exact g2 M (hb q (by simp))
  ·exact g5 M (fun y hy=>hb y (by simp[hy])) x hx
 |[],_::_,h=>h.elim
 |_::_,[],h=>h.elim
theorem DJ:∀{a b:List (List PL)},bg a b→a.flatten.map bw=b.flatten.map bw∧a.length=b.length∧(∀sz,(∀x∈b,x.length=sz)→∀x∈a,x.length=sz)∧∀M,(∀q∈b.flatten,OkP M q)→∀p∈a.flatten,OkP M p
 |[],[],_=>⟨rfl,rfl,fun _ _ x hx=>by simp at hx,fun M _ p hp=>by simp at hp⟩
 |p::a,q::b,h=>by
  obtain⟨h1,h2⟩:=h
  obtain⟨g1,g2,g3⟩:=Uv h1
  obtain⟨g4,g5,g6,g7⟩:=DJ h2
  refine⟨by simp only[apB,apJ,g1,g4],by simp[g5],fun sz hb x hx=> ?_,fun M hb x hx=> ?_⟩
  ·rcases apF.1 hx with rfl|hx
   ·rw[g2];exact hb q (by simp)
   ·exact g6 sz (fun y hy=>hb y (by simp[hy])) x hx
  ·rw[apB]at hx hb
   rcases apK.1 hx with hx|hx
   ·exact g3 M (fun y hy=>hb y (apK.2 (.inl hy))) x hx
   ·exact g7 M (fun y hy=>hb y (apK.2 (.inr hy))) x hx
 |[],_::_,h=>h.elim
 |_::_,[],h=>h.elim
noncomputable def bQ (bytes a:Nat):Prop:=a≤9223372036854775807∧a*bytes≤140737488355328
noncomputable def UR (Ty sz:Nat) (α:Type) (l:List α) (enc:α→List PL) (M:T) (nx:Nat) (K:AV→T→Nat→Bool):Bool:=T.set bM M nx (some (.prow Ty sz α l enc)) fun M'=>fN (Nat.succ nx) fun q=>K (.sy (.prow nx l.length)) M' q
noncomputable def apg (Ty sz bytes:Nat) (v1:AV) (R:List (List PL)) (empt:Bool→Bool→Bool) (M:T) (nx:Nat) (K:AV→T→Nat→Bool):Bool:=kI v1 fun s=>SY.casesOn s (fun _ _=>false) (fun _=>false) (fun _=>false)
 (fun h sz' α l enc=>aa (Nat.beq sz sz') (aa (aN (∃ao,h= .slice ao l.length l.length)) (empt (K v1 M nx) (aM fun m:List α=>aa (aN (bg (m.map enc) R)) (aa (aN (bQ bytes (l.length+m.length))) (UR Ty sz α (l++m) enc M nx K))))))
 (fun _ _ _=>false)
 (fun i n=>fL M i fun Ty' sz' α l enc=>aa (Nat.beq Ty Ty') (aa (Nat.beq sz sz') (aa (aN (n=l.length)) (empt (K v1 M nx) (aM fun m:List α=>aa (aN (bg (m.map enc) R)) (aa (aN (bQ bytes (l.length+m.length))) (T.set bM M i none fun M1=>UR Ty sz α (l++m) enc M1 nx K)))))))
 (fun i sz0 a n _ _=>fL M i fun Ty' sz' α l enc=>aa (Nat.beq Ty Ty') (aa (Nat.beq sz sz') (aa (Nat.beq sz sz0) (aa (aN (a+n=l.length)) (empt (K v1 M nx) (aM fun m:List α=>aa (aN (bg (m.map enc) R)) (aa (aN (bQ bytes (l.length+m.length))) (T.set bM M i none fun M1=>ae fun L:List α=>ae fun d:Nat=>ae fun o:Nat=>ae fun c:Nat=>bn (aN (d≤L.length∧L.length≤l.length+m.length∧L.drop d=l.drop a++m)) (T.set bM M1 nx (some (.prow Ty sz α L enc)) fun M'=>fN (Nat.succ nx) fun q=>K (.sy (.psub nx sz d (L.length - d) o (some c))) M' q) true)))))))) (fun _ _ _ _=>false)
 (fun i n c=>fL M i fun Ty' sz' α l enc=>aa (Nat.beq Ty Ty') (aa (Nat.beq sz sz') (aa (aN (n≤c)) (empt (K v1 M nx) (aM fun m:List α=>aa (aN (bg (m.map enc) R)) (aa (aN (n+m.length≤c∧n+m.length≤l.length)) (T.set bM M i (some (.prow Ty sz α (l.take n++m++l.drop (n+m.length)) enc)) fun M'=>K (.sy (.pfix i (n+m.length) c)) M' nx))))))) (fun _=>false)
noncomputable def api (Ty sz bytes:Nat) (v1 v2:AV) (M:T) (nx:Nat) (K:AV→T→Nat→Bool):Bool:=
 bn (fy v1) (afS sz v2 M fun R empt=>apg Ty sz bytes v1 R empt M nx K)
  (ue v1 (abh sz v2 M fun α l enc=>bn (aN (l=[])) (K .nilS M nx) (aa (aN (bQ bytes l.length)) (UR Ty sz α l enc M nx K))) (fun _ _ n c=>aa (Nat.beq n 0) (ACap.casesOn c (fun k=>aa (Nat.beq k 0) (abh sz v2 M fun α l enc=>bn (aN (l=[])) (K v1 M nx) (aa (aN (bQ bytes l.length)) (UR Ty sz α l enc M nx K)))) (fun _=>false))))
noncomputable def aoJ (Ty sz bytes:Nat) (v1 v2:AV) (M:T) (nx:Nat) (K:AV→T→Nat→Bool):Bool:=bn (LN v1 v2) (api Ty sz bytes v1 v2 M nx K) (aoK Ty sz bytes v1 v2 M nx K)
theorem akw (hE:fV E) (h:Sim E ρ G F M nx w) {t ty Ty sz bytes:Nat} (ht:P.underlying t=some (.slice Ty)) (he:kR P Ty sz bytes=true) {v1 v2:AV} {K:AV→T→Nat→Bool} {x1 x2:Value} (h1:den E ρ v1=some x1) (h2:den E ρ v2=some x2)
  (hk:aoJ Ty sz bytes v1 v2 M nx K=true):∃v M' nx' ρ' w' x,ρ.Le ρ'∧Sim E ρ' G F M' nx' w'∧K v M' nx'=true∧den E ρ' v=some x∧(Builtin.append_ #[t,t] ty #[x1,x2]).run P w= .ok x w':=by
 rcases bi hk with⟨-,g⟩|⟨-,g⟩
 case inr=>exact akx hE h ht he h1 h2 g
 obtain⟨inf,z,i1,i2,i3,i4,i5,i6⟩:=kE he
 have hs:cA P Ty=some sz:=by simp[cA,i1,i3]
 have hm63:maxLen=9223372036854775807:=rfl
 have h0:=h.fresh nx (apM _)
 clear hk
 -- a new row of terms
 have fin:∀{i:Nat} {old:Option Nat} {M0:T} {v':Value} {w':World} {base:Nat} {α:Type} {l:List α} {enc:α→List PL},(∀b,old=some b→∃e o,M.get i=some o∧ρ i=some e∧e.b=b∧cU e o=true)→w.grownBy w' old→w'.ownsRow base Ty sz v' l.length ((l.flatMap enc).map bw)→0<l.length→
   (v'.ownBlock=old∨v'.ownBlock=some w.heap.size∨w.heap.size≤base)→(∀p∈l.flatMap enc,OkP E.M p)→(∀x∈l,(enc x).length=sz)→(∀m,m≠nx→m≠i→M0.get m=M.get m)→(i≠nx→M0.get i=none)→UR Ty sz α l enc M0 nx K=true→
   (Builtin.append_ #[t,t] ty #[x1,x2]).run P w= .ok v' w'→∃v M' nx' ρ' w' x,ρ.Le ρ'∧Sim E ρ' G F M' nx' w'∧K v M' nx'=true∧den E ρ' v=some x∧(Builtin.append_ #[t,t] ty #[x1,x2]).run P w= .ok x w':=by
  intro i old M0 v' w' base α l enc g1 g2 g3 g4 g5 g6 g7 g10 g11 g12 g13
  obtain⟨M',k1,s1,s2⟩:=T.set_ok _ _ _ _ _ g12
  rw[bY]at k1
  obtain⟨b,cap,cur,rfl,r1,r2,r3,r4,r5,r6,r7⟩:=Oh g3 g4
  have hb':old=some b∨w.heap.size≤b:=by
   rcases g5 with e|e|e
   ·exact .inl (by rw[←e];rfl)
   ·simp[Value.ownBlock]at e;exact .inr (by omega)
   ·exact .inr (by omega)
  refine⟨.sy (.prow nx l.length),M',nx+1,ρ.set nx ⟨b,cap+1⟩,w',_,Ren.le_set _ h0,h.regrow (i:=i) (o':=.prow Ty sz α l enc) (ob':=.cells cur Ty (0,0)) h0 (Nat.le_succ _) (Nat.lt_succ_self _) g1 g2 r2 hb' ⟨cur,_,rfl,i6,g7,oV g6,by simpa using r5,r6,by simpa using r3,by simpa using r4⟩ s1 (fun m q1 q2=>by rw[s2 m q1,g10 m q1 q2]) (fun q=>by rw[s2 i q,g11 q]) (dN rfl),k1,?_,g13⟩
  simp only[den,bo,Ren.set_self,ub]
 have aca:∀{i:Nat} {old:Option Nat} {M0:T} {v' xr:Value} {w':World} {base:Nat} {α:Type} {L:List α} {enc:α→List PL} {d o':Nat},(∀b,old=some b→∃e o,M.get i=some o∧ρ i=some e∧e.b=b∧cU e o=true)→w.grownBy w' old→w'.ownsRow base Ty sz v' L.length ((L.flatMap enc).map bw)→0<L.length→
   (v'.ownBlock=old∨v'.ownBlock=some w.heap.size∨w.heap.size≤base)→(∀p∈L.flatMap enc,OkP E.M p)→(∀x∈L,(enc x).length=sz)→(∀m,m≠nx→m≠i→M0.get m=M.get m)→(i≠nx→M0.get i=none)→
   (∀cc:Nat,(T.set bM M0 nx (some (.prow Ty sz α L enc)) fun M'=>fN (Nat.succ nx) fun q=>K (.sy (.psub nx sz d (L.length - d) o' (some cc))) M' q)=true)→d≤L.length→(∀b cap,v'= .slice (some ⟨b,0,none⟩) L.length cap→xr= .slice (some ⟨b,if cap=d then o' else d*sz,none⟩) (L.length - d) (cap - d))→
   (Builtin.append_ #[t,t] ty #[x1,x2]).run P w= .ok xr w'→∃v M' nx' ρ' w' x,ρ.Le ρ'∧Sim E ρ' G F M' nx' w'∧K v M' nx'=true∧den E ρ' v=some x∧(Builtin.append_ #[t,t] ty #[x1,x2]).run P w= .ok x w':=by
  intro i old M0 v' xr w' base α L enc d o' g1 g2 g3 g4 g5 g6 g7 g10 g11 g12 gd gx g13
  obtain⟨b,cap,cur,rfl,r1,r2,r3,r4,r5,r6,r7⟩:=Oh g3 g4
  obtain⟨M',k1,s1,s2⟩:=T.set_ok _ _ _ _ _ (g12 cap)
  rw[bY]at k1
  have hb':old=some b∨w.heap.size≤b:=by
   rcases g5 with e|e|e
   ·exact .inl (by rw[←e];rfl)
   ·simp[Value.ownBlock]at e;exact .inr (by omega)
   ·exact .inr (by omega)
  refine⟨.sy (.psub nx sz d (L.length - d) o' (some cap)),M',nx+1,ρ.set nx ⟨b,cap+1⟩,w',_,Ren.le_set _ h0,h.regrow (i:=i) (o':=.prow Ty sz α L enc) (ob':=.cells cur Ty (0,0)) h0 (Nat.le_succ _) (Nat.lt_succ_self _) g1 g2 r2 hb' ⟨cur,_,rfl,i6,g7,oV g6,by simpa using r5,r6,by simpa using r3,by simpa using r4⟩ s1 (fun m q1 q2=>by rw[s2 m q1,g10 m q1 q2]) (fun q=>by rw[s2 i q,g11 q]) (dN rfl),k1,?_,g13⟩
  simp only[den,bo,Ren.set_self,nP]
  rw[if_pos ⟨by omega,fun q e=>by cases e;rfl⟩,gx b cap rfl]
 have news_ok:∀{R:List (List PL)} {m:Nat},acE E w x2 sz R.length R.flatten→R≠[]→∃b o c,x2= .slice (some ⟨b,o,none⟩) R.length c∧(∀j u,(R.flatten.map bw)[j]?=some u→w.cell? (Addr.add ⟨b,o,none⟩ j)=some u)∧(∀u∈R.flatten.map bw,Value.oneCell' u=true)∧(R.flatten.map bw).length=R.length*sz:=by
  intro R m hS hne
  obtain⟨ao,c,hx,hc⟩:=hS.form
  obtain⟨b,o,rfl,hcc⟩:=hc (List.length_pos_iff.2 hne)
  refine⟨b,o,c,hx,fun j u hu=>by rw[de];exact hcc j u hu,fun u hu=> ?_,by rw[apx];exact hS.len⟩
  obtain⟨p,hp,rfl⟩:=List.mem_map.1 hu
  exact BK (hS.ok p hp)
 replace g:=bi g
 rcases g with⟨-,g⟩|⟨-,g⟩
 ·obtain⟨R,empt,g1,hS,hR,hE'⟩:=Yz h i6 h2 g
  replace g1:=eI g1
  clear g
  obtain⟨s,rfl,g⟩:=g1
  have flatR:∀{α:Type} {m:List α} {enc:α→List PL},bg (m.map enc) R→R.flatten.map bw=(m.flatMap enc).map bw∧R.length=m.length∧(∀x∈m,(enc x).length=sz)∧∀p∈m.flatMap enc,OkP E.M p:=by
   intro α m enc q
   obtain⟨q1,q2,q3,q4⟩:=DJ q
   rw[←List.flatMap_def]at q1 q4
   exact⟨q1.symm,by rw[←q2,apx],fun x hx=>q3 sz hR _ (List.mem_map.2 ⟨x,hx,rfl⟩),q4 E.M hS.ok⟩
  have none_ok:R=[]→∀{ao n c},x1= .slice ao n c→n≤c→(Builtin.append_ #[t,t] ty #[x1,x2]).run P w= .ok x1 w:=by
   intro q ao n c hx hle
   obtain⟨ao2,c2,hx2,_⟩:=hS.form
   subst q
   rw[hx,hx2]
   exact eF t ty Ty ht hs ao n c hle ao2 c2
  cases s<;>first|(cases g;done)|skip
  case imm hh sz' α l enc=>
   obtain⟨g1,g2⟩:=aj g
   have g1:=apz g1
   subst g1
   obtain⟨⟨ao,rfl⟩,g3⟩:=ai g2
   obtain⟨hok,rfl⟩:=iE (show ji E (.imm (.slice ao l.length l.length) sz α l enc)=some x1 from h1)
   rcases hE' _ _ g3 with⟨q,g4⟩|⟨q,g4⟩
   ·exact⟨_,M,nx,ρ,w,_,Ren.Le.refl _,h,g4,h1,none_ok q rfl (apM _)⟩
   ·obtain⟨m,g5⟩:=cd g4
    obtain⟨hm,g6⟩:=ai g5
    obtain⟨⟨l1,l2⟩,g7⟩:=ai g6
    obtain⟨f1,f2,f3,f4⟩:=flatR hm
    obtain⟨b,o,c,rfl,n1,n2,n3⟩:=news_ok (m:=0) hS q
    have hpos:=List.length_pos_iff.2 q
    obtain⟨ao',cap',hh,_,_,_,ha,hl,ho,hr⟩:=BW hok
    injection hh with e1 e2 e3
    subst e1
    have hSl:=Gs h (v:=.sy (.imm (.slice ao l.length l.length) sz α l enc)) (sz:=sz) (K:=fun α' l' enc'=>aN ((⟨α',(l',enc')⟩:(β:Type)×(List β×(β→List PL)))=⟨α,(l,enc)⟩)) h1 (by
     show aa (Nat.beq sz sz) _=true
     exact bI (Nat.beq_refl sz) (prB_true.2 rfl))
    obtain⟨α',l',enc',e,hl',_,hS1⟩:=hSl
    have e:=prB_true.1 e
    cases e
    obtain⟨v',w',r1,r2,r3⟩:∃v' w',(Builtin.append_ #[t,t] ty #[.slice ao l.length l.length,.slice (some ⟨b,o,none⟩) R.length c]).run P w= .ok v' w'∧w'.ownsRow w.heap.size Ty sz v' (l.length+R.length) (((l.flatMap enc).map bw)++R.flatten.map bw)∧w.grownBy w' none:=by
     rcases Nat.eq_zero_or_pos l.length with q0|q0
     ·have hl0:l=[]:=apS q0
      subst hl0
      cases ao with
      |none=>
       obtain⟨v',w',r1,r2,r3,_,r5⟩:=run_append_own_at (P:=P) w w.heap.size t ty Ty inf z sz bytes ht i1 i2 i3 i5 i4 i6 (.slice none 0 0) 0 [] (World.ownsRow_nil w _ Ty sz) ⟨b,o,none⟩ R.length c _ n3 n1 n2 (by omega) (by rw[f2,Nat.zero_add];simpa using l2) (apM _)
       exact⟨v',w',r1,by simpa using r2,r3⟩
      |some a=>
       obtain⟨v',w',r1,r2,r3⟩:=run_append_arg_grows (P:=P) w t ty Ty inf z sz bytes ht i1 i2 i3 i5 i4 i6 a 0 0 [] (by simp) (fun j u hu=>by simp at hu) ⟨b,o,none⟩ R.length c _ n3 n1 (by omega) (by rw[f2,hm63];simpa using l1) (by rw[f2];simpa using l2)
       exact⟨v',w',r1,by simpa using r2,r3⟩
     ·have hao:=ha q0
      rw[hao]
      obtain⟨ao2,c2,hx2,hc2⟩:=hS1.form
      injection hx2 with e1 e2 e3
      obtain⟨b1,o1,e4,hc3⟩:=hc2 q0
      rw[←e1,hao]at e4
      injection e4 with e4
      obtain⟨v',w',r1,r2,r3⟩:=run_append_arg_grows (P:=P) w t ty Ty inf z sz bytes ht i1 i2 i3 i5 i4 i6 ⟨blk ao,AY ao,none⟩ l.length l.length ((l.flatMap enc).map bw) (by rw[apx,gM hl]) (fun j u hu=>by rw[e4,de];exact hc3 j u hu) ⟨b,o,none⟩ R.length c _ n3 n1 (by omega) (by omega) (by rw[f2];exact l2)
      exact⟨v',w',r1,r2,r3⟩
    refine fin (i:=nx) (old:=none) (M0:=M) (base:=w.heap.size) (l:=l++m) (enc:=enc) (fun b q=>by cases q) r3 ?_ (by rw[apv];omega) (.inr (.inr (apM _))) ?_ (fun x hx=> ?_) (fun _ _ _=>rfl) (fun q=>absurd rfl q) g7 r1
    ·rw[apv,List.flatMap_append,apJ,←f1,←f2];exact r2
    ·intro p hp
     rw[List.flatMap_append]at hp
     rcases apK.1 hp with hp|hp
     ·exact hS1.ok p hp
     ·exact f4 p hp
    ·rcases apK.1 hx with hx|hx
     ·exact hl x hx
     ·exact f3 x hx
  case psub i sz0 a n oo oc=>
   obtain⟨Ty',sz',α,l,enc,hi',g1⟩:=dK g
   obtain⟨g2,g3⟩:=aj g1
   have g2:=apz g2
   subst g2
   obtain⟨g4,g5⟩:=aj g3
   have g4:=apz g4
   subst g4
   obtain⟨g6,g7⟩:=aj g5
   have g6:=apz g6
   subst g6
   obtain⟨hal,g8⟩:=ai g7
   obtain⟨f,q1,hsz,hrow⟩:=h.prow hi'
   have h1':=h1
   simp only[den,bo,q1]at h1
   rcases hE' _ _ g8 with⟨q,g9⟩|⟨q,g9⟩
   ·rcases fU h1 with⟨_,e0,_,hx⟩|⟨c,qc,hx,hle,_⟩
    ·exact⟨_,M,nx,ρ,w,_,Ren.Le.refl _,h,g9,h1',none_ok q hx (apM _)⟩
    ·exact⟨_,M,nx,ρ,w,_,Ren.Le.refl _,h,g9,h1',none_ok q hx (by omega)⟩
   ·obtain⟨m,g10⟩:=cd g9
    obtain⟨hm,g11⟩:=ai g10
    obtain⟨⟨l1,l2⟩,g12⟩:=ai g11
    obtain⟨f1,f2,f3,f4⟩:=flatR hm
    obtain⟨b,o,c,hx2,n1,n2,n3⟩:=news_ok (m:=0) hS q
    have hpos:=List.length_pos_iff.2 q
    obtain⟨M1,k1,s1,s2⟩:=T.set_ok _ _ _ _ _ g12
    have hinx:i≠nx:=fun q=>by rw[q,h0]at q1;cases q1
    have kk:∀(L:List α) (d o':Nat),d≤L.length→L.length≤l.length+m.length→L.drop d=l.drop a++m→∀cc:Nat,(T.set bM M1 nx (some (.prow Ty sz α L enc)) fun M'=>fN (Nat.succ nx) fun q=>K (.sy (.psub nx sz d (L.length - d) o' (some cc))) M' q)=true:=fun L d o' e1 e2 e3 cc=>by
     have:=aq (aq (aq (aq k1 L) d) o') cc
     rcases jC this with⟨_,g⟩|⟨hn,_⟩
     ·exact g
     ·exact absurd ⟨e1,e2,e3⟩ hn
    rcases hrow with⟨q2,q3⟩|⟨c',arr,q2,q3,r⟩
    ·rcases fU h1 with⟨_,e0,ea,hx⟩|⟨c,qc,_⟩
     case inr=>omega
     subst q3
     obtain⟨v',w',r1,r2,r3,_,r5⟩:=run_append_own_at (P:=P) w w.heap.size t ty Ty inf z sz bytes ht i1 i2 i3 i5 i4 i6 (.slice none 0 0) 0 [] (World.ownsRow_nil w _ Ty sz) ⟨b,o,none⟩ R.length c _ n3 n1 n2 (by omega) (by rw[f2,Nat.zero_add];simpa using l2) (apM _)
     refine aca (i:=i) (old:=none) (M0:=M1) (base:=w.heap.size) (L:=[]++m) (enc:=enc) (d:=0) (o':=0) (v':=v') (xr:=v') (fun b q=>by cases q) r3 ?_ (by simp;omega) (.inr (.inr (apM _))) (fun p hp=>f4 p (by simpa using hp)) (fun x hx=>f3 x (by simpa using hx)) (fun m' _ q=>s2 m' q) (fun _=>s1) (kk _ 0 0 (Nat.zero_le _) (by simp) (by simp)) (Nat.zero_le _) (fun b cap hv=>hv.trans (by simp)) (by rw[hx,hx2];exact r1)
     rw[apD,←f1,←f2]
     simpa using r2
    ·rcases fU h1 with⟨qc,_⟩|⟨cc,qc,hx,hle,_⟩
     ·omega
     obtain rfl:cc=c':=by omega
     have hB:cU f (.prow Ty sz α l enc)=true:=dN q2
     by_cases room:n+R.length≤cc - a
     ·have hne:¬cc=a:=by omega
      rw[if_neg hne]at hx
      obtain⟨v',w',r1,r2,r3,_,r5⟩:=run_append_own_at (P:=P) w 0 t ty Ty inf z sz bytes ht i1 i2 i3 i5 i4 i6 (.slice (some ⟨f.b,0,none⟩) l.length cc) l.length ((l.flatMap enc).map bw)
       ⟨by rw[apx];exact r.len,.inr ⟨f.b,cc,arr,rfl,Nat.zero_le _,r.heap,r.le,r.max,r.size,r.take⟩⟩ ⟨b,o,none⟩ R.length c _ n3 n1 n2 (by omega) (by rw[f2];exact l2) (Nat.zero_le _)
      have hin:∀j,j<(R.flatten.map bw).length→l.length*sz+j<arr.size:=fun j hj=>by
       rw[n3]at hj
       rw[r.size]
       have:(l.length+R.length)*sz≤cc*sz:=Nat.mul_le_mul_right _ (by omega)
       rw[Nat.add_mul]at this
       omega
      have hcell:∀j,j<(R.flatten.map bw).length→(w.cell? ⟨f.b,l.length*sz+j,none⟩).isSome=true∧w.frozen? ⟨f.b,l.length*sz+j,none⟩=false:=fun j hj=>by
       have:=hin j hj
       constructor
       ·unfold World.cell?;rw[r.heap];simp[this]
       ·unfold World.frozen?;rw[r.heap];simp
      have A:=run_append_room_cells (P:=P) (w:=w) t ty Ty inf ht i1 f.b 0 l.length cc ⟨b,o,none⟩ R.length c (R.flatten.map bw) (by rw[n3,i3]) n1 n2 (by omega) (fun j hj=>by rw[i3,Nat.zero_add];exact(hcell j hj).1) (fun j hj=>by rw[i3,Nat.zero_add];exact(hcell j hj).2)
      have eo:a*sz+n*sz=l.length*sz:=by rw[←Nat.add_mul,hal]
      have B:=run_append_room_cells (P:=P) (w:=w) t ty Ty inf ht i1 f.b (a*sz) n (cc - a) ⟨b,o,none⟩ R.length c (R.flatten.map bw) (by rw[n3,i3]) n1 n2 (by omega) (fun j hj=>by rw[i3,eo];exact(hcell j hj).1) (fun j hj=>by rw[i3,eo];exact(hcell j hj).2)
      rw[r1]at A
      injection A with A1 A2
      subst A1
      rw[i3,Nat.zero_add]at A2
      rw[i3,eo,←A2]at B
      refine aca (i:=i) (old:=some f.b) (M0:=M1) (base:=0) (L:=l++m) (enc:=enc) (d:=a) (o':=0) (fun b q=>⟨f,_,hi',q1,apT q,hB⟩) r3 ?_ (by rw[apv];omega) (r5.imp id .inl) ?_ (fun x hx=> ?_) (fun m' _ q=>s2 m' q) (fun _=>s1) (kk _ a 0 (by rw[apv];omega) (by rw[apv];omega) (List.drop_append_of_le_length (by omega))) (by rw[apv];omega) (fun b' cap hv=> ?_) (by rw[hx,hx2];exact B)
      ·rw[apv,List.flatMap_append,apJ,←f1,←f2];exact r2
      ·intro p hp
       rw[List.flatMap_append]at hp
       rcases apK.1 hp with hp|hp
       ·exact r.ok p hp
       ·exact f4 p hp
      ·rcases apK.1 hx with hx|hx
       ·exact q3 x hx
       ·exact f3 x hx
      ·injection hv with hv1 hv2 hv3
       injection hv1 with hv1
       injection hv1 with hv1
       subst hv1;subst hv3
       rw[if_neg hne,apv,←f2,show l.length+R.length - a=n+R.length by omega]
     ·have hsub:∀x∈l.drop a,x∈l:=fun x hx=>List.mem_of_mem_drop hx
      have hld:(l.drop a).length=n:=by rw[apW];omega
      obtain⟨v',w',r1,r2,r3⟩:=run_append_arg_grows (P:=P) w t ty Ty inf z sz bytes ht i1 i2 i3 i5 i4 i6 ⟨f.b,if cc=a then oo else a*sz,none⟩ n (cc - a) (((l.drop a).flatMap enc).map bw) (by rw[apx,gM (fun x hx=>q3 x (hsub x hx)),hld]) (fun j u hu=>by
       by_cases ha:cc=a
       ·have:l.drop a=[]:=apS (by omega)
        rw[this]at hu
        simp at hu
       ·rw[if_neg ha,de]
        rw[qU a q3]at hu
        exact r.cells (a*sz) j u hu) ⟨b,o,none⟩ R.length c _ n3 n1 (by omega) (by rw[f2,hm63];omega) (by rw[f2];exact Nat.le_trans (Nat.mul_le_mul_right _ (by omega)) l2)
      refine aca (i:=i) (old:=none) (M0:=M1) (base:=w.heap.size) (L:=l.drop a++m) (enc:=enc) (d:=0) (o':=0) (v':=v') (xr:=v') (fun b q=>by cases q) r3 ?_ (by rw[apv];omega) (.inr (.inr (apM _))) ?_ (fun x hx=> ?_) (fun m' _ q=>s2 m' q) (fun _=>s1) (kk _ 0 0 (Nat.zero_le _) (by rw[apv];omega) (by simp)) (Nat.zero_le _) (fun b cap hv=>hv.trans (by simp)) (by rw[hx,hx2];exact r1)
      ·rw[apv,List.flatMap_append,apJ,←f1,←f2,hld];exact r2
      ·intro p hp
       rw[List.flatMap_append]at hp
       rcases apK.1 hp with hp|hp
       ·obtain⟨y,hy,hp⟩:=List.mem_flatMap.1 hp
        exact r.ok p (List.mem_flatMap.2 ⟨y,hsub y hy,hp⟩)
       ·exact f4 p hp
      ·rcases apK.1 hx with hx|hx
       ·exact q3 x (hsub x hx)
       ·exact f3 x hx
  case pfix i n c0=>
   obtain⟨Ty',sz',α,l,enc,hi',g1⟩:=dK g
   obtain⟨g2,g3⟩:=aj g1
   have g2:=apz g2
   subst g2
   obtain⟨g4,g5⟩:=aj g3
   have g4:=apz g4
   subst g4
   obtain⟨hnc,g5⟩:=ai g5
   obtain⟨f,q1,hsz,hrow⟩:=h.prow hi'
   have h1':=h1
   simp only[den,bo,q1]at h1
   rcases hE' _ _ g5 with⟨q,g9⟩|⟨q,g9⟩
   ·unfold uc at h1
    split at h1
    ·split at h1
     case isFalse=>cases h1
     rename_i q3
     obtain⟨rfl,rfl⟩:=q3
     exact⟨_,M,nx,ρ,w,_,Ren.Le.refl _,h,g9,h1',none_ok q (apT h1).symm (apM _)⟩
    ·exact⟨_,M,nx,ρ,w,_,Ren.Le.refl _,h,g9,h1',none_ok q (apT h1).symm hnc⟩
   ·obtain⟨m,g10⟩:=cd g9
    obtain⟨hm,g11⟩:=ai g10
    obtain⟨⟨l1,l2⟩,g12⟩:=ai g11
    obtain⟨f1,f2,f3,f4⟩:=flatR hm
    obtain⟨b,o,c,hx2,n1,n2,n3⟩:=news_ok (m:=0) hS q
    have hpos:=List.length_pos_iff.2 q
    obtain⟨M1,k1,s1,s2⟩:=T.set_ok _ _ _ _ _ g12
    rcases hrow with⟨q2,q3⟩|⟨c',arr,q2,q3,r⟩
    ·subst q3;have:=List.length_nil (α:=α);omega
    have hx1:x1= .slice (some ⟨f.b,0,none⟩) n c0:=by
     simp only[uc,q2]at h1
     exact(apT h1).symm
    have hB:cU f (.prow Ty sz α l enc)=true:=dN q2
    have hle:l.length*sz≤arr.size:=by rw[r.size];exact Nat.mul_le_mul_right _ r.le
    have hfit:n*sz+(R.flatten.map bw).length≤l.length*sz:=by
     rw[n3,←Nat.add_mul]
     exact Nat.mul_le_mul_right _ (by omega)
    have A:=run_append_room (P:=P) w t ty Ty inf ht i1 f.b n c0 arr r.heap ⟨b,o,none⟩ R.length c (R.flatten.map bw) (by rw[n3,i3]) n1 n2 (by omega) (by rw[i3];omega)
    rw[i3]at A
    have hmem:∀x∈l.take n++m++l.drop (n+m.length),(enc x).length=sz:=by
     intro x hx
     simp only[apK]at hx
     rcases hx with(hx|hx)|hx
     ·exact q3 x (List.mem_of_mem_take hx)
     ·exact f3 x hx
     ·exact q3 x (List.mem_of_mem_drop hx)
    have hlen:(l.take n++m++l.drop (n+m.length)).length=l.length:=by
     simp only[apv,apL,apW]
     omega
    have hlt:(l.take n).length=n:=by rw[apL];omega
    have hfm:((l.take n++m++l.drop (n+m.length)).flatMap enc).map bw=((l.flatMap enc).map bw).take (n*sz)++R.flatten.map bw++((l.flatMap enc).map bw).drop ((n+m.length)*sz):=by
     have e2:(l.flatMap enc).map bw=((l.take n).flatMap enc).map bw++((l.drop n).flatMap enc).map bw:=by rw[←apJ,←List.flatMap_append,List.take_append_drop]
     have e3:(((l.take n).flatMap enc).map bw).length=n*sz:=by rw[apx,gM (fun x hx=>q3 x (List.mem_of_mem_take hx)),hlt]
     have hT:((l.take n).flatMap enc).map bw=((l.flatMap enc).map bw).take (n*sz):=by
      rw[e2,List.take_append_of_le_length (Nat.le_of_eq e3.symm),List.take_of_length_le (Nat.le_of_eq e3)]
     rw[List.flatMap_append,List.flatMap_append,apJ,apJ,qU _ q3,List.map_drop,f1,hT]
    obtain⟨W,hW⟩:∃W,W=w.setRow f.b (arr.toList.take (n*sz)++R.flatten.map bw++arr.toList.drop (n*sz+(R.flatten.map bw).length)).toArray:=⟨_,rfl⟩
    rw[←hW]at A
    refine⟨_,M1,nx,ρ,_,_,Ren.Le.refl _,h.turn (w':=W) (o':=.prow Ty sz α (l.take n++m++l.drop (n+m.length)) enc) hi' q1 (by rw[hW];rfl) (by rw[hW];rfl) (by rw[hW];rfl) (fun k _ hk=>by rw[hW];exact setRow_other w f.b k _ hk) (by rw[hW];exact setRow_heap w f.b arr _ Ty _ r.heap) ⟨_,_,rfl,hsz,hmem,oV ?_,?_,?_,?_,?_⟩ s1 s2 hB (dN q2),k1,?_,by rw[hx1,hx2];exact A⟩
    ·intro p hp
     rw[List.flatMap_append,List.flatMap_append]at hp
     simp only[apK]at hp
     rcases hp with(hp|hp)|hp
     ·obtain⟨y,hy,hp⟩:=List.mem_flatMap.1 hp
      exact r.ok p (List.mem_flatMap.2 ⟨y,List.mem_of_mem_take hy,hp⟩)
     ·exact f4 p hp
     ·obtain⟨y,hy,hp⟩:=List.mem_flatMap.1 hp
      exact r.ok p (List.mem_flatMap.2 ⟨y,List.mem_of_mem_drop hy,hp⟩)
    ·have hal:arr.toList.length=(f.cap - 1)*sz:=by rw[Array.length_toList,r.size,q2];rfl
     simp only[List.size_toArray,apv,apL,apW]
     rw[Array.length_toList]at hal ⊢
     omega
    ·rw[hlen,List.toList_toArray,hfm,←r.take,n3,←Nat.add_mul,←f2]
     refine List.ext_getElem? fun j=> ?_
     have hal:arr.toList.length=arr.size:=Array.length_toList
     have hm1:n*sz≤l.length*sz:=Nat.mul_le_mul_right _ (by omega)
     have hm2:(n+R.length)*sz≤l.length*sz:=Nat.mul_le_mul_right _ (by omega)
     have hm3:(n+R.length)*sz=n*sz+R.length*sz:=Nat.add_mul _ _ _
     simp only[List.getElem?_take,List.getElem?_append,List.getElem?_drop,apv,apL,n3,hal,Nat.min_eq_left (show n*sz≤arr.size by omega),Nat.min_eq_left hle,Nat.min_eq_left hm1]
     repeat' split
     all_goals first|rfl|omega|skip
     all_goals(rw[List.getElem?_eq_none (by rw[hal];omega)])
    ·rw[hlen,q2];have:=r.le;simpa using this
    ·rw[q2];have:=r.max;simpa using this
    ·simp only[den,bo,q1,uc,q2,f2]
  case prow i n=>
   obtain⟨Ty',sz',α,l,enc,hi',g1⟩:=dK g
   obtain⟨g2,g3⟩:=aj g1
   have g2:=apz g2
   subst g2
   obtain⟨g4,g5⟩:=aj g3
   have g4:=apz g4
   subst g4
   obtain⟨rfl,g6⟩:=ai g5
   obtain⟨f,q1,hsz,hrow⟩:=h.prow hi'
   have h1':=h1
   simp only[den,bo,q1]at h1
   rcases hE' _ _ g6 with⟨q,g4⟩|⟨q,g4⟩
   ·rcases eG h1 with⟨_,e0,hx⟩|⟨c,qc,hx⟩
    ·exact⟨_,M,nx,ρ,w,_,Ren.Le.refl _,h,g4,h1',none_ok q hx (apM _)⟩
    ·rcases hrow with⟨q2,_⟩|⟨c',arr,q2,q3,r⟩
     ·omega
     ·have:=r.le
      exact⟨_,M,nx,ρ,w,_,Ren.Le.refl _,h,g4,h1',none_ok q hx (by omega)⟩
   ·obtain⟨m,g5⟩:=cd g4
    obtain⟨hm,g6⟩:=ai g5
    obtain⟨⟨l1,l2⟩,g7⟩:=ai g6
    obtain⟨f1,f2,f3,f4⟩:=flatR hm
    obtain⟨b,o,c,hx2,n1,n2,n3⟩:=news_ok (m:=0) hS q
    have hpos:=List.length_pos_iff.2 q
    obtain⟨M1,k1,s1,s2⟩:=T.set_ok _ _ _ _ _ g7
    have hinx:i≠nx:=fun q=>by rw[q,h0]at q1;cases q1
    rcases hrow with⟨q2,q3⟩|⟨c',arr,q2,q3,r⟩
    ·rcases eG h1 with⟨_,e0,hx⟩|⟨c,qc,_⟩
     case inr=>omega
     subst q3
     obtain⟨v',w',r1,r2,r3,_,r5⟩:=run_append_own_at (P:=P) w w.heap.size t ty Ty inf z sz bytes ht i1 i2 i3 i5 i4 i6 (.slice none 0 0) 0 [] (World.ownsRow_nil w _ Ty sz) ⟨b,o,none⟩ R.length c _ n3 n1 n2 (by omega) (by rw[f2,Nat.zero_add];simpa using l2) (apM _)
     refine fin (i:=i) (old:=none) (M0:=M1) (base:=w.heap.size) (l:=[]++m) (enc:=enc) (fun b q=>by cases q) r3 ?_ (by simp;omega) (.inr (.inr (apM _))) (fun p hp=>f4 p (by simpa using hp)) (fun x hx=>f3 x (by simpa using hx)) (fun m' _ q=>s2 m' q) (fun _=>s1) k1 (by rw[hx,hx2];exact r1)
     rw[apD,←f1,←f2]
     simpa using r2
    ·rcases eG h1 with⟨qc,_⟩|⟨cc,qc,hx⟩
     ·omega
     obtain rfl:cc=c':=by omega
     have hB:cU f (.prow Ty sz α l enc)=true:=dN q2
     obtain⟨v',w',r1,r2,r3,_,r5⟩:=run_append_own_at (P:=P) w 0 t ty Ty inf z sz bytes ht i1 i2 i3 i5 i4 i6 (.slice (some ⟨f.b,0,none⟩) l.length cc) l.length ((l.flatMap enc).map bw)
      ⟨by rw[apx];exact r.len,.inr ⟨f.b,cc,arr,rfl,Nat.zero_le _,r.heap,r.le,r.max,r.size,r.take⟩⟩ ⟨b,o,none⟩ R.length c _ n3 n1 n2 (by omega) (by rw[f2];exact l2) (Nat.zero_le _)
     refine fin (i:=i) (old:=some f.b) (M0:=M1) (base:=0) (l:=l++m) (enc:=enc) (fun b q=>⟨f,_,hi',q1,apT q,hB⟩) r3 ?_ (by rw[apv];omega) (r5.imp id .inl) ?_ (fun x hx=> ?_) (fun m' _ q=>s2 m' q) (fun _=>s1) k1 (by rw[hx,hx2];exact r1)
     ·rw[apv,List.flatMap_append,apJ,←f1,←f2];exact r2
     ·intro p hp
      rw[List.flatMap_append]at hp
      rcases apK.1 hp with hp|hp
      ·exact r.ok p hp
      ·exact f4 p hp
     ·rcases apK.1 hx with hx|hx
      ·exact q3 x hx
      ·exact f3 x hx
 ·rcases jE g with⟨rfl,g⟩|⟨i,o,n,c,rfl,g⟩
  case inr=>
   obtain⟨g1,g2⟩:=aj g
   have g1:=apz g1
   subst g1
   cases c
   case rest=>cases g2
   rename_i k
   obtain⟨g3,g4⟩:=aj g2
   have g3:=apz g3
   subst g3
   have h1':=h1
   simp only[den]at h1'
   split at h1'
   case h_2=>cases h1'
   rename_i e he'
   simp only[df,apQ]at h1'
   subst h1'
   obtain⟨α,l,enc,g1,g2,g3,hS⟩:=Gs h h2 g4
   obtain⟨ao,c,hx2,hc⟩:=hS.form
   rcases jC g1 with⟨q,g4⟩|⟨q,g4⟩
   ·subst q
    refine⟨_,M,nx,ρ,w,_,Ren.Le.refl _,h,g4,h1,?_⟩
    rw[hx2]
    exact eF t ty Ty ht hs _ 0 0 (apM _) ao c
   ·obtain⟨⟨l1,l2⟩,g7⟩:=ai g4
    have hpos:=List.length_pos_iff.2 q
    obtain⟨b,o2,rfl,hcc⟩:=hc hpos
    obtain⟨v',w',r1,r2,r3⟩:=run_append_arg_grows (P:=P) w t ty Ty inf z sz bytes ht i1 i2 i3 i5 i4 i6 ⟨e.b,o,none⟩ 0 0 [] (by simp) (fun j u hu=>by simp at hu) ⟨b,o2,none⟩ l.length c ((l.flatMap enc).map bw) (by rw[apx];exact hS.len) (fun j u hu=>by rw[de];exact hcc j u hu) (by omega) (by rw[Nat.zero_add,hm63];simpa using l1) (by rw[Nat.zero_add];exact l2)
    refine fin (i:=nx) (old:=none) (M0:=M) (base:=w.heap.size) (l:=l) (enc:=enc) (fun b q=>by cases q) r3 (by simpa using r2) hpos (.inr (.inr (apM _))) hS.ok g2 (fun _ _ _=>rfl) (fun q=>absurd rfl q) g7 (by rw[hx2];exact r1)
  cases h1
  obtain⟨α,l,enc,g1,g2,g3,hS⟩:=Gs h h2 g
  obtain⟨ao,c,hx2,hc⟩:=hS.form
  rcases jC g1 with⟨q,g4⟩|⟨q,g4⟩
  ·subst q
   refine⟨.nilS,M,nx,ρ,w,.slice none 0 0,Ren.Le.refl _,h,g4,rfl,?_⟩
   rw[hx2]
   exact eF t ty Ty ht hs none 0 0 (apM _) ao c
  ·obtain⟨⟨l1,l2⟩,g7⟩:=ai g4
   have hpos:=List.length_pos_iff.2 q
   obtain⟨b,o,rfl,hcc⟩:=hc hpos
   obtain⟨v',w',r1,r2,r3,_,r5⟩:=run_append_own_at (P:=P) w w.heap.size t ty Ty inf z sz bytes ht i1 i2 i3 i5 i4 i6 (.slice none 0 0) 0 [] (World.ownsRow_nil w _ Ty sz) ⟨b,o,none⟩ l.length c ((l.flatMap enc).map bw) (by rw[apx];exact hS.len) (fun j u hu=>by rw[de];exact hcc j u hu)
    (fun u hu=>by
     obtain⟨p,hp,rfl⟩:=List.mem_map.1 hu
     exact BK (hS.ok p hp)) (by omega) (by rw[Nat.zero_add];exact l2) (apM _)
   refine fin (i:=nx) (old:=none) (M0:=M) (base:=w.heap.size) (l:=l) (enc:=enc) (fun b q=>by cases q) r3 (by simpa using r2) hpos (.inr (.inr (apM _))) hS.ok g2 (fun _ _ _=>rfl) (fun q=>absurd rfl q) g7 (by rw[hx2];exact r1)
noncomputable def anP (Ty sz bytes:Nat) (z:List AV) (vl vc:AV) (M:T) (nx:Nat) (K:AV→T→Nat→Bool):Bool:=bn (fy vc) (jF vl fun _ l=>kI vc fun s=>SY.casesOn s (fun _ c=>aa (aN (l=0∧0≤c∧c≤9223372036854775807∧(bytes:Int)*c≤140737488355328)) (aa (Nat.blt 0 sz) (T.set bM M nx (some (.prow Ty sz Unit [] (fun _=>[]))) fun M'=>fN (Nat.succ nx) fun q=>K (.sy (.prow nx 0)) M' q))) (fun _=>false) (fun _=>false) (fun _ _ _ _ _=>false) (fun _ _ _=>false) (fun _ _=>false) (fun _ _ _ _ _ _=>false) (fun _ _ _ _=>false) (fun _ _ _=>false) (fun _=>false)) (anQ Ty sz bytes z vl vc M nx K)
theorem ajO (h:Sim E ρ G F M nx w) {t Ty sz bytes:Nat} (ht:P.underlying t=some (.slice Ty)) (he:kR P Ty sz bytes=true) {z:List AV} {zs:Array Value} (hz:rW P Ty=some zs) (hzd:aS E ρ z=some zs.toList) {vl vc:AV} {xl xc:Value} (hl:den E ρ vl=some xl) (hc:den E ρ vc=some xc)
  {K:AV→T→Nat→Bool} (hk:anP Ty sz bytes z vl vc M nx K=true):∃v M' nx' ρ' w' x,ρ.Le ρ'∧Sim E ρ' G F M' nx' w'∧K v M' nx'=true∧den E ρ' v=some x∧(Instr.makeSlice t xl xc).run P w= .ok x w':=by
 rcases bi hk with⟨-,g⟩|⟨-,g⟩
 case inr=>exact ajP h ht he hz hzd hl hc g
 obtain⟨k1,l,rfl,g1⟩:=iF g
 replace g1:=eI g1
 clear g hk
 obtain⟨s,rfl,g⟩:=g1
 cases s<;>first|(cases g;done)|skip
 case int k2 c=>
  obtain⟨⟨rfl,c0,c1,c2⟩,g2⟩:=ai g
  obtain⟨g3,g4⟩:=aj g2
  rw[apV]at g3
  obtain⟨M',g5,s1,s2⟩:=T.set_ok _ _ _ _ _ g4
  rw[bY]at g5
  cases hl;cases hc
  obtain⟨inf,z0,i1,i2,i3,i4,i5,i6⟩:=kE he
  have h0:=h.fresh nx (apM _)
  have hr:=Go.run_make (P:=P) w t Ty inf z0 ht i1 i2 (cR k1) (cR k2) 0 c (Int.le_refl 0) c0 (by rw[i5];omega) c1
  refine⟨_,M',nx+1,_,_,_,Ren.le_set (ρ:=ρ) ⟨w.heap.size,c.toNat+1⟩ h0,h.alloc (cap:=c.toNat+1) (o:=.prow Ty sz Unit [] (fun _=>[])) (ob:=.cells (madeCells z0.cells (c.toNat*inf.size)) Ty (0,0)) h0 (Nat.le_succ _) (Nat.lt_succ_self _) ⟨_,[],rfl,g3,fun x hx=>(by simp at hx),by simp[tp],?_,by simp,by simp,?_⟩ s1 s2 (dN rfl),g5,?_,hr⟩
  ·rw[Go.size_madeCells,i3];simp
  ·simp only[Nat.add_sub_cancel,maxLen];omega
  ·simp[den,bo,Ren.set_self,ub]
noncomputable def anO (Ty sz bytes:Nat) (vl vc:AV) (M:T) (nx:Nat) (K:AV→T→Nat→Bool):Bool:=jF vl fun _ l=>kI vc fun s=>SY.casesOn s (fun _ c=>aa (aN (l=0∧0≤c∧c≤9223372036854775807∧(bytes:Int)*c≤140737488355328)) (aa (Nat.blt 0 sz) (T.set bM M nx (some (.prow Ty sz Unit [] (fun _=>[]))) fun M'=>fN (Nat.succ nx) fun q=>K (.sy (.psub nx sz 0 0 0 (some c.toNat))) M' q))) (fun _=>false) (fun _=>false) (fun _ _ _ _ _=>false) (fun _ _ _=>false) (fun _ _=>false) (fun _ _ _ _ _ _=>false) (fun _ _ _ _=>false) (fun _ _ _=>false) (fun _=>false)
theorem ajN (h:Sim E ρ G F M nx w) {t Ty sz bytes:Nat} (ht:P.underlying t=some (.slice Ty)) (he:kR P Ty sz bytes=true) {vl vc:AV} {xl xc:Value} (hl:den E ρ vl=some xl) (hc:den E ρ vc=some xc)
  {K:AV→T→Nat→Bool} (hk:anO Ty sz bytes vl vc M nx K=true):∃v M' nx' ρ' w' x,ρ.Le ρ'∧Sim E ρ' G F M' nx' w'∧K v M' nx'=true∧den E ρ' v=some x∧(Instr.makeSlice t xl xc).run P w= .ok x w':=by
 obtain⟨k1,l,rfl,g1⟩:=iF hk
 replace g1:=eI g1
 clear hk
 obtain⟨s,rfl,g⟩:=g1
 cases s<;>first|(cases g;done)|skip
 case int k2 c=>
  obtain⟨⟨rfl,c0,c1,c2⟩,g2⟩:=ai g
  obtain⟨g3,g4⟩:=aj g2
  rw[apV]at g3
  obtain⟨M',g5,s1,s2⟩:=T.set_ok _ _ _ _ _ g4
  rw[bY]at g5
  cases hl;cases hc
  obtain⟨inf,z0,i1,i2,i3,i4,i5,i6⟩:=kE he
  have h0:=h.fresh nx (apM _)
  have hr:=Go.run_make (P:=P) w t Ty inf z0 ht i1 i2 (cR k1) (cR k2) 0 c (Int.le_refl 0) c0 (by rw[i5];omega) c1
  refine⟨_,M',nx+1,_,_,_,Ren.le_set (ρ:=ρ) ⟨w.heap.size,c.toNat+1⟩ h0,h.alloc (cap:=c.toNat+1) (o:=.prow Ty sz Unit [] (fun _=>[])) (ob:=.cells (madeCells z0.cells (c.toNat*inf.size)) Ty (0,0)) h0 (Nat.le_succ _) (Nat.lt_succ_self _) ⟨_,[],rfl,g3,fun x hx=>(by simp at hx),by simp[tp],?_,by simp,by simp,?_⟩ s1 s2 (dN rfl),g5,?_,hr⟩
  ·rw[Go.size_madeCells,i3];simp
  ·simp only[Nat.add_sub_cancel,maxLen];omega
  ·simp[den,bo,Ren.set_self,nP]
noncomputable def aoI (Ty sz:Nat) (v1 v2:AV) (M:T) (nx:Nat) (K:AV→T→Nat→Bool):Bool:=afS sz v2 M fun R empt=>kI v1 fun s=>SY.casesOn s (fun _ _=>false) (fun _=>false) (fun _=>false) (fun _ _ _ _ _=>false) (fun _ _ _=>false) (fun _ _=>false)
 (fun i sz0 a n o oc=>fL M i fun Ty' sz' α l enc=>aa (Nat.beq Ty Ty') (aa (Nat.beq sz sz') (aa (Nat.beq sz sz0) (aM fun c:Nat=>aa (aN (a=0∧o=0∧n=l.length∧oc=some c)) (empt (K v1 M nx) (aM fun m:List α=>aa (aN (bg (m.map enc) R)) (aa (aN (n+m.length≤c)) (T.set bM M i (some (.prow Ty sz α (l++m) enc)) fun M'=>K (.sy (.psub i sz0 a (l++m).length o oc)) M' nx))))))))
 (fun _ _ _ _=>false) (fun _ _ _=>false) (fun _=>false)
theorem akv (h:Sim E ρ G F M nx w) {t ty Ty sz bytes:Nat} (ht:P.underlying t=some (.slice Ty)) (he:kR P Ty sz bytes=true) {v1 v2:AV} {K:AV→T→Nat→Bool} {x1 x2:Value} (h1:den E ρ v1=some x1) (h2:den E ρ v2=some x2)
  (hk:aoI Ty sz v1 v2 M nx K=true):∃v M' nx' ρ' w' x,ρ.Le ρ'∧Sim E ρ' G F M' nx' w'∧K v M' nx'=true∧den E ρ' v=some x∧(Builtin.append_ #[t,t] ty #[x1,x2]).run P w= .ok x w':=by
 obtain⟨inf,z,i1,i2,i3,i4,i5,i6⟩:=kE he
 have hs:cA P Ty=some sz:=by simp[cA,i1,i3]
 obtain⟨R,empt,g1,hS,hR,hE'⟩:=Yz h i6 h2 hk
 replace g1:=eI g1
 clear hk
 obtain⟨s,rfl,g⟩:=g1
 cases s<;>first|(cases g;done)|skip
 case psub i sz0 a n o oc=>
  obtain⟨Ty',sz',α,l,enc,hi',g1⟩:=dK g
  obtain⟨g2,g3⟩:=aj g1
  have g2:=apz g2
  subst g2
  obtain⟨g4,g5⟩:=aj g3
  have g4:=apz g4
  subst g4
  obtain⟨g6,g7⟩:=aj g5
  have g6:=apz g6
  subst g6
  obtain⟨c0,g8⟩:=cd g7
  obtain⟨⟨rfl,rfl,rfl,rfl⟩,g9⟩:=ai g8
  obtain⟨f,q1,hsz,hrow⟩:=h.prow hi'
  have h1':=h1
  simp only[den,bo,q1]at h1
  rcases hE' _ _ g9 with⟨q,g10⟩|⟨q,g10⟩
  ·obtain⟨ao2,c2,hx2,_⟩:=hS.form
   subst q
   rcases fU h1 with⟨_,e0,_,hx⟩|⟨c,qc,hx,hle,_⟩
   ·exact⟨_,M,nx,ρ,w,_,Ren.Le.refl _,h,g10,h1',by rw[hx,hx2];exact eF t ty Ty ht hs _ _ _ (apM _) ao2 c2⟩
   ·exact⟨_,M,nx,ρ,w,_,Ren.Le.refl _,h,g10,h1',by rw[hx,hx2];exact eF t ty Ty ht hs _ _ _ (by omega) ao2 c2⟩
  ·obtain⟨m,g11⟩:=cd g10
   obtain⟨hm,g12⟩:=ai g11
   obtain⟨l1,g13⟩:=ai g12
   obtain⟨r1,r2,r3,r4⟩:=DJ hm
   rw[←List.flatMap_def]at r1 r4
   have f2:R.length=m.length:=by rw[←r2,apx]
   have f3:∀x∈m,(enc x).length=sz:=fun x hx=>r3 sz hR _ (List.mem_map.2 ⟨x,hx,rfl⟩)
   have f4:∀p∈m.flatMap enc,OkP E.M p:=r4 E.M hS.ok
   have hpos:=List.length_pos_iff.2 q
   obtain⟨ao,c,hx2,hcc⟩:=hS.form
   obtain⟨b,o,rfl,hcell⟩:=hcc hpos
   have n1:∀j u,(R.flatten.map bw)[j]?=some u→w.cell? (Addr.add ⟨b,o,none⟩ j)=some u:=fun j u hu=>by rw[de];exact hcell j u hu
   have n2:∀u∈R.flatten.map bw,Value.oneCell' u=true:=fun u hu=>by
    obtain⟨p,hp,rfl⟩:=List.mem_map.1 hu
    exact BK (hS.ok p hp)
   have n3:(R.flatten.map bw).length=R.length*sz:=by rw[apx];exact hS.len
   obtain⟨M1,k1,s1,s2⟩:=T.set_ok _ _ _ _ _ g13
   rcases fU h1 with⟨qc,e0,_,_⟩|⟨cc,qc,hx,hle,hq⟩
   ·exfalso
    have:=VM h1 qc
    omega
   obtain rfl:=hq c0 rfl
   rcases hrow with⟨q2,q3⟩|⟨c',arr,q2,q3,r⟩
   ·omega
   obtain rfl:c'=c0:=by omega
   have hne:¬c'=0:=by omega
   rw[if_neg hne]at hx
   have hB:cU f (.prow Ty sz α l enc)=true:=dN q2
   have hfit:l.length*sz+(R.flatten.map bw).length≤arr.size:=by
    rw[n3,←Nat.add_mul,r.size]
    exact Nat.mul_le_mul_right _ (by omega)
   have A:=run_append_room (P:=P) (w:=w) t ty Ty inf ht i1 f.b l.length c' arr r.heap ⟨b,o,none⟩ R.length c (R.flatten.map bw) (by rw[n3,i3]) n1 n2 (by omega) (by rw[i3];exact hfit)
   rw[i3]at A
   have hx1:x1= .slice (some ⟨f.b,0,none⟩) l.length c':=by simpa using hx
   obtain⟨W,hW⟩:∃W,W=w.setRow f.b (arr.toList.take (l.length*sz)++R.flatten.map bw++arr.toList.drop (l.length*sz+(R.flatten.map bw).length)).toArray:=⟨_,rfl⟩
   rw[←hW]at A
   have hal:arr.toList.length=arr.size:=Array.length_toList
   refine⟨_,M1,nx,ρ,W,_,Ren.Le.refl _,h.turn (w':=W) (o':=.prow Ty sz α (l++m) enc) hi' q1 (by rw[hW];rfl) (by rw[hW];rfl) (by rw[hW];rfl) (fun k _ hk=>by rw[hW];exact setRow_other w f.b k _ hk) (by rw[hW];exact setRow_heap w f.b arr _ Ty _ r.heap) ⟨_,_,rfl,hsz,?_,oV ?_,?_,?_,?_,?_⟩ s1 s2 hB (dN q2),k1,?_,by rw[hx1,hx2];exact A⟩
   ·intro x hx
    rcases apK.1 hx with hx|hx
    ·exact q3 x hx
    ·exact f3 x hx
   ·intro p hp
    rw[List.flatMap_append]at hp
    rcases apK.1 hp with hp|hp
    ·exact r.ok p hp
    ·exact f4 p hp
   ·rw[q2,Nat.add_sub_cancel,←r.size]
    simp only[List.size_toArray,apv,apL,apW,hal]
    omega
   ·rw[apv,←f2,List.toList_toArray,List.flatMap_append,apJ,r1,←r.take,Nat.add_mul,←n3]
    have hlt:(arr.toList.take (l.length*sz)).length=l.length*sz:=by rw[apL,hal];omega
    rw[List.take_append_of_le_length (by rw[apv,hlt];exact apM _),List.take_of_length_le (by rw[apv,hlt];exact apM _)]
   ·rw[apv,q2,←f2];simpa using(show l.length+R.length≤c' by omega)
   ·rw[q2];have:=r.max;simpa using this
   ·simp only[den,bo,q1,nP,q2]
    rw[if_pos ⟨by rw[apv];omega,fun q e=>by cases e;rfl⟩,if_neg hne,apv,←f2]
    simp
end
def tP:AV→Value→Bool
 |.int k z,.int k' z'=>decide (cR k=k')&&decide (z=z')
 |.bool a,.bool b=>decide (a=b)
 |.str l,.string s=>decide (s=⟨(l.map UInt8.ofNat).toArray⟩)
 |.nilP,.pointer none=>true
 |.nilS,.slice none 0 0=>true
 |.nilM,.map none=>true
 |.nilF,.nilFunc=>true
 |.nilI,.nilIface=>true
 |_,_=>false
def Ov:List AV→List Value→Bool
 |[],[]=>true
 |v::l,x::m=>tP v x&&Ov l m
 |_,_=>false
def isV:AV→Value→Bool
 |.agg l,.agg a=>Ov l a.toList
 |v,x=>tP v x
theorem Bl {E:Env} {ρ:Ren} {v:AV} {x:Value} (h:tP v x=true):den E ρ v=some x:=by
 unfold tP at h
 split at h<;>first|(cases h;done)|rfl|skip
 ·simp only[apP,decide_eq_true_eq]at h
  rw[←h.1,←h.2];rfl
 ·rw[decide_eq_true_eq]at h
  rw[h];rfl
 ·rw[decide_eq_true_eq]at h
  rw[h];rfl
theorem GG {E:Env} {ρ:Ren}:∀{l:List AV} {m:List Value},Ov l m=true→aS E ρ l=some m
 |[],[],_=>rfl
 |[],_::_,h=>by cases h
 |_::_,[],h=>by cases h
 |v::l,x::m,h=>by
  simp only[Ov,apP]at h
  exact lG (Bl h.1) (GG h.2)
theorem aod {E:Env} {ρ:Ren} {v:AV} {x:Value} (h:isV v x=true):den E ρ v=some x:=by
 unfold isV at h
 split at h
 ·simp only[den,GG h]
 ·exact Bl h
inductive XP|t (n:Nat)|c (v:AV)|f (n:Nat)
noncomputable def nb (v:AV) (K:AV→Bool):Bool:=AV.casesOn v false (fun k z=>K (.int k z)) (fun b=>K (.bool b)) (fun l=>K (.str l)) (fun i o=>K (.ptr i o)) (fun i o n c=>K (.sl i o n c)) (fun i=>K (.map i)) (K .nilP) (K .nilS) (K .nilM) (K .nilF) (K .nilI) (fun t v=>K (.iface t v)) (fun f c=>K (.fn f c)) (fun i=>K (.yl i)) (fun l=>K (.agg l)) (fun l=>K (.tup l)) (fun i=>K (.any i)) (fun s=>K (.sy s))
theorem ah2 {v:AV} {K:AV→Bool} (h:nb v K=true):v≠ .bad∧K v=true:=by
 cases v<;>first|exact⟨by simp,h⟩|cases h
noncomputable def ev (S:SL) (p:XP) (K:AV→Bool):Bool:=XP.casesOn p (fun n=>nb (bz n S) K) (fun v=>K v) (fun f=>K (.fn f []))
noncomputable def Nk (S:SL) (ps:List XP):(List AV→Bool)→Bool:=List.rec (fun K=>K []) (fun p _ ih K=>ev S p fun v=>ih fun r=>K (v::r)) ps
noncomputable def Zi (S:SL) (p:Option XP) (K:Option AV→Bool):Bool:=Option.casesOn p (K none) fun p=>ev S p fun v=>K (some v)
def bV:XP→Operand→Bool
 |.t n,.tmp m=>Nat.beq n m
 |.c v,.const x=>tP v x
 |.f n,.func m=>Nat.beq n m
 |_,_=>false
def td:List XP→List Operand→Bool
 |[],[]=>true
 |p::ps,o::os=>bV p o&&td ps os
 |_,_=>false
def zo:Option XP→Option Operand→Bool
 |none,none=>true
 |some p,some o=>bV p o
 |_,_=>false
structure SR (E:Env) (ρ:Ren) (N:Nat) (S:SL) (a:Act):Prop where
 size:a.tmps.size=N
 defs:a.defers=[]
 at_:∀t,bz t S= .bad∨∃x,den E ρ (bz t S)=some x∧a.tmps.getD t undef=x
section
variable {P:Program} {E:Env} {ρ ρ':Ren} {N:Nat} {S:SL} {a:Act}
theorem SR.mono (s:SR E ρ N S a) (hl:ρ.Le ρ'):SR E ρ' N S a:=⟨s.size,s.defs,fun t=>(s.at_ t).imp id fun⟨x,h1,h2⟩=>⟨x,jh hl _ _ h1,h2⟩⟩
theorem bG (s:SR E ρ N S a) {p:XP} {o:Operand} {K:AV→Bool} (ho:bV p o=true) (h:ev S p K=true):∃v x,den E ρ v=some x∧a.eval o=x∧K v=true:=by
 cases p with
 |t n=>
  cases o<;>simp only[bV]at ho<;>first|(cases ho;done)|skip
  have:=apz ho
  subst this
  obtain⟨h1,h2⟩:=ah2 h
  obtain⟨x,h3,h4⟩:=(s.at_ n).resolve_left h1
  exact⟨_,x,h3,h4,h2⟩
 |c v=>
  cases o<;>simp only[bV]at ho<;>first|(cases ho;done)|skip
  exact⟨v,_,Bl ho,rfl,h⟩
 |f n=>
  cases o<;>simp only[bV]at ho<;>first|(cases ho;done)|skip
  have:=apz ho
  subst this
  exact⟨.fn n [],.func (.func n) #[] #[],by simp[den,aS],rfl,h⟩
theorem Bw (s:SR E ρ N S a):∀{ps:List XP} {os:List Operand} {K:List AV→Bool},td ps os=true→Nk S ps K=true→∃vs,aS E ρ vs=some (os.map a.eval)∧K vs=true∧vs.length=os.length
 |[],[],K,_,h=>⟨[],rfl,h,rfl⟩
 |[],_::_,K,ho,_=>by cases ho
 |_::_,[],K,ho,_=>by cases ho
 |p::ps,o::os,K,ho,h=>by
  simp only[td,apP]at ho
  have h':ev S p (fun v=>Nk S ps fun r=>K (v::r))=true:=h
  obtain⟨v,x,h1,h2,h3⟩:=bG s ho.1 h'
  obtain⟨vs,h4,h5,h6⟩:=Bw s ho.2 h3
  exact⟨v::vs,lG (by rw[h1,h2]) h4,h5,by simp[h6]⟩
theorem EY (s:SR E ρ N S a) {p:Option XP} {o:Option Operand} {K:Option AV→Bool} (ho:zo p o=true) (h:Zi S p K=true):∃v,xR E ρ v (o.map a.eval)∧K v=true:=by
 cases p with
 |none=>
  cases o<;>simp only[zo]at ho<;>first|(cases ho;done)|skip
  exact⟨none,.inl ⟨rfl,rfl⟩,h⟩
 |some p=>
  cases o<;>simp only[zo]at ho<;>first|(cases ho;done)|skip
  rename_i o
  obtain⟨v,x,h1,h2,h3⟩:=bG (p:=p) s ho h
  exact⟨some v,.inr ⟨v,x,rfl,by simp[h2],h1⟩,h3⟩
noncomputable def anp (d:Option Nat) (v:AV) (S:SL):SL:=Option.casesOn d S fun d=>.cons d v S
theorem SR.put (s:SR E ρ N S a) {d:Option Nat} {v:AV} {z:Value} (hd:∀t,d=some t→t<N) (hv:v= .bad∨den E ρ v=some z):SR E ρ N (anp d v S) (a.put d z):=by
 cases d with
 |none=>exact s
 |some d=>
  have hlt:=hd d rfl
  refine⟨by simpa[Act.put] using s.size,s.defs,fun t=> ?_⟩
  show bz t (.cons d v S)= .bad∨∃x,den E ρ (bz t (.cons d v S))=some x∧_
  by_cases e:d=t
  ·subst e
   rw[gL]
   refine hv.imp id fun h=>⟨z,h,?_⟩
   simp[Act.put,Array.getD,s.size,hlt]
  ·rw[lv _ _ e]
   refine(s.at_ t).imp id fun⟨x,h1,h2⟩=>⟨x,h1,?_⟩
   rw[←h2]
   exact Go.Eng.getD_put (fun q=>e q.symm)
end
def oA (P:Program) (t e:Nat):Bool:=match P.underlying t with|some (.slice e')=>Nat.beq e' e|_=>false
def TW (P:Program) (t n e:Nat):Bool:=match P.underlying t with|some (.array n' e')=>Nat.beq n' n&&Nat.beq e' e|_=>false
def uR (P:Program) (t k e:Nat):Bool:=match P.underlying t with|some (.map k' e')=>Nat.beq k' k&&Nat.beq e' e|_=>false
def MU (P:Program) (t:Nat):Bool:=match P.underlying t with|some .string=>true|_=>false
def TV (P:Program) (t k:Nat):Bool:=match P.underlying t with|some (.int k')=>decide (k'=cR k)|_=>false
def qV (P:Program) (t:Nat):Nat:=match P.underlying t with|some (.slice e)=>e|some (.array _ e)=>e|some (.map _ e)=>e|_=>0
def JO (P:Program) (t:Nat):Nat:=match P.underlying t with|some (.map k _)=>k|_=>0
theorem jg {P:Program} {t e:Nat} (h:oA P t e=true):P.underlying t=some (.slice e):=by
 unfold oA at h
 split at h
 ·rename_i h1;rw[h1,apz h]
 ·cases h
theorem VL {P:Program} {t n e:Nat} (h:TW P t n e=true):P.underlying t=some (.array n e):=by
 unfold TW at h
 split at h
 ·rename_i h1
  simp only[apP]at h
  rw[h1,apz h.1,apz h.2]
 ·cases h
theorem oT {P:Program} {t k e:Nat} (h:uR P t k e=true):P.underlying t=some (.map k e):=by
 unfold uR at h
 split at h
 ·rename_i h1
  simp only[apP]at h
  rw[h1,apz h.1,apz h.2]
 ·cases h
theorem Lp {P:Program} {t:Nat} (h:MU P t=true):P.underlying t=some .string:=by
 unfold MU at h
 split at h
 ·assumption
 ·cases h
theorem VJ {P:Program} {t k:Nat} (h:TV P t k=true):P.underlying t=some (.int (cR k)):=by
 unfold TV at h
 split at h
 ·rename_i h1
  rw[decide_eq_true_eq]at h
  rw[h1,h]
 ·cases h
def wm (P:Program) (T:Nat) (z:List AV):Bool:=match rW P T with|some zs=>Ov z zs.toList|none=>false
theorem tx {P:Program} {T:Nat} {z:List AV} {E:Env} {ρ:Ren} (h:wm P T z=true):∃zs,rW P T=some zs∧aS E ρ z=some zs.toList:=by
 unfold wm at h
 split at h
 ·rename_i zs h1
  exact⟨zs,h1,GG h⟩
 ·cases h
def NO (P:Program) (Ty sz len:Nat) (z:List AV):Bool:=match Gq P Ty sz len with|some zs=>Ov z zs|none=>false
theorem aai {P:Program} {Ty sz len:Nat} {z:List AV} {E:Env} {ρ:Ren} (h:NO P Ty sz len z=true):∃zs,Gq P Ty sz len=some zs∧aS E ρ z=some zs:=by
 unfold NO at h
 split at h
 ·rename_i zs h1
  exact⟨zs,h1,GG h⟩
 ·cases h
def aeI (P:Program) (e:Nat) (v:AV):Bool:=match (P.info? e).bind (·.zero) with|some z=>isV v z|none=>false
theorem aij {P:Program} {e:Nat} {v:AV} {E:Env} {ρ:Ren} (h:aeI P e v=true):∃z,(∀w,(zeroValue e:Sem Value).run P w= .ok z w)∧den E ρ v=some z:=by
 unfold aeI at h
 split at h
 ·rename_i z h1
  refine⟨z,fun w=> ?_,aod h⟩
  rcases hi:P.info? e with _|i
  ·simp[hi]at h1
  ·simp only[hi,Option.bind_some]at h1
   simp[zeroValue,typeInfo,hi,h1]
 ·cases h
noncomputable def agM (z:List AV) (i n:Nat):Nat→T→(T→Bool)→Bool:=Nat.rec (fun _ M K=>K M) (fun _ ih o M K=>stX (db z) (.ptr i o) (.agg z) M fun M'=>fN (Nat.add o (db z)) fun o'=>ih o' M' K) n
inductive XO
 |bad|mv (x:XP)|pick (c x y:XP)|bin (f o:Nat) (x y:XP)|eqs (ne:Bool) (d:Nat) (et:ET) (x y:XP)|isn (ne:Bool) (kd:Nat) (x:XP)|un (f:Nat) (x:XP)|cnv (k:Nat) (x:XP)
 |fa (off:Nat) (x:XP)|nck (x:XP)|ixa (n sz:Nat) (x i:XP)|ixs (sz:Nat) (x i:XP)|fld (agg:Bool) (off n:Nat) (x:XP)|len (f:Nat) (x:XP)|mx (b:Bool) (x y:XP)|ext (i:Nat) (x:XP)|six (x i:XP)
 |bld (z:List AV) (ps:List (Nat×Nat)) (xs:List XP)
 |ld (agg:Bool) (n:Nat) (x:XP)|mlen (x:XP)|sls (sz:Nat) (x:XP) (lo hi mx:Option XP)|lk (d:Nat) (et:ET) (zv:AV) (comma:Bool) (m k:XP)|ent (it:XP)
 |st (n:Nat) (x y:XP)|al (T:Nat) (z:List AV)|box (T:Nat) (x:XP)|bsl (Ty sz len:Nat) (z:List AV) (ps:List (Nat×Nat)) (xs:List XP)|mks (Ty sz bytes:Nat) (z:List AV) (l c:XP)|mkm
 |mu (d:Nat) (et:ET) (m k v:XP)|rng (m:XP)|nxt (it:XP)|app (Ty sz bytes:Nat) (x y:XP)|del (d:Nat) (et:ET) (m k:XP)|mkf (f:Nat) (xs:List XP)|ixv (agg:Bool) (n sz:Nat) (x i:XP)|slt (x:XP) (lo hi:Option XP)|cnw (k:Nat) (x:XP)|clr (Ty:Nat) (z:List AV) (x:XP)|mcl (m:XP)|cap (x:XP)|mkx (Ty sz bytes:Nat) (z:List AV) (l c:XP)|apr (Ty sz bytes:Nat) (x y:XP)
noncomputable def abg (ps:List (Nat×Nat)):List AV→Bool:=List.rec (fun vs=>List.casesOn vs true fun _ _=>false) (fun p _ ih vs=>List.casesOn vs false fun v r=>Bool.and (Nat.beq (db (cn v)) p.2) (ih r)) ps
theorem NY {E:Env} {ρ:Ren} (hE:fV E):∀{ps:List (Nat×Nat)} {vs:List AV} {ys:List Value},abg ps vs=true→aS E ρ vs=some ys→∀(k:Nat) (p:Nat×Nat) (y:Value),ps[k]?=some p→ys[k]?=some y→y.cells.size=p.2
 |[],vs,ys,h,hd=>by intro k p y hp;simp at hp
 |q::ps,[],ys,h,hd=>by cases h
 |q::ps,v::vs,ys,h,hd=>by
  obtain⟨x,xs,h1,h2,rfl⟩:=cE hd
  obtain⟨h3,h4⟩:=xZ (a:=Nat.beq (db (cn v)) q.2) (b:=abg ps vs) h
  intro k p y hp hy
  cases k with
  |zero=>
   simp at hp hy
   subst hp;subst hy
   have:=cL (qW hE h1)
   have h3:=apz h3
   rw[cw]at h3
   rw[←h3,←this]
   simp
  |succ k=>exact NY hE h4 h2 k p y (by simpa using hp) (by simpa using hy)
noncomputable def opP (x:XO) (S:SL) (K:AV→Bool):Bool:=match x with
 |.mv x=>ev S x K
 |.pick c x y=>ev S c fun c=>acm c fun b=>bn b (ev S x K) (ev S y K)
 |.bin f o x y=>ev S x fun u=>ev S y fun v=>Nat.rec (arY o u v K) (fun f _=>Nat.rec (agV o u v K) (fun f _=>Nat.rec (shX (Nat.beq o 1) u v K) (fun f _=>Nat.rec (agL o u v K) (fun f _=>Nat.rec (abk u v K) (fun _ _=>afV (Nat.beq o 1) u v K) f) f) f) f) f
 |.eqs ne d et x y=>ev S x fun u=>ev S y fun v=>tR d et u v fun b=>fB (Bool.rec b (Bool.not b) ne) fun r=>K (.bool r)
 |.isn ne kd x=>ev S x fun u=>aob ne kd u K
 |.un f x=>ev S x fun u=>Nat.rec (anC u K) (fun f _=>Nat.rec (anE u K) (fun _ _=>aot u K) f) f
 |.cnv k x=>ev S x fun u=>aov k u K
 |.fa off x=>ev S x fun u=>faY off u K
 |.nck x=>ev S x fun u=>anG u K
 |.ixa n sz x i=>ev S x fun u=>ev S i fun v=>an9 n sz u v K
 |.ixs sz x i=>ev S x fun u=>ev S i fun v=>an7 sz u v K
 |.fld agg off n x=>ev S x fun u=>aoh agg off n u K
 |.len f x=>ev S x fun u=>Nat.rec (ahX u K) (fun _ _=>an1 u K) f
 |.mx b x y=>ev S x fun u=>ev S y fun v=>mxY b u v K
 |.ext i x=>ev S x fun u=>aok i u K
 |.six x i=>ev S x fun u=>ev S i fun v=>ani u v K
 |.bld z ps xs=>Nk S xs fun vs=>aa (abg ps vs) (aoD z ((ps.map (·.1)).zip vs) K)
 |.mkf f xs=>Nk S xs fun vs=>K (.fn f vs)
 |.ixv agg n sz x i=>ev S x fun u=>ev S i fun v=>an6 agg n sz u v K
 |.cnw k x=>ev S x fun u=>aou k u K
 |.cap x=>ev S x fun u=>aoy u K
 |.slt x lo hi=>ev S x fun u=>Zi S lo fun l=>Zi S hi fun h=>anf u l h K
 |_=>false
noncomputable def YL (x:XO) (S:SL) (M:T) (K:AV→Bool):Bool:=match x with
 |.ld agg n x=>ev S x fun u=>MM agg n u M K
 |.mlen x=>ev S x fun u=>ah3 u M K
 |.sls sz x lo hi mx=>ev S x fun u=>Zi S lo fun l=>Zi S hi fun h=>Zi S mx fun m=>ang sz u l h m M K
 |.lk d et zv comma m k=>ev S m fun u=>ev S k fun v=>lkX d et zv comma u v M K
 |.ent it=>ev S it fun u=>aoq u M K
 |_=>false
noncomputable def opE (x:XO) (S:SL) (M:T) (nx:Nat) (K:AV→T→Nat→Bool):Bool:=match x with
 |.st n x y=>ev S x fun u=>ev S y fun v=>stY n u v M fun M'=>K .bad M' nx
 |.al T z=>aa (Nat.blt 0 (db z)) (abB T z M nx K)
 |.box T x=>ev S x fun u=>aoB T u M nx K
 |.bsl Ty sz len z ps xs=>Nk S xs fun vs=>aa (abg ps vs) (aoA Ty sz len z ((ps.map (·.1)).zip vs) M nx K)
 |.mks Ty sz bytes z l c=>ev S l fun u=>ev S c fun v=>anP Ty sz bytes z u v M nx K
 |.mkm=>anR M nx K
 |.mu d et m k v=>ev S m fun m=>ev S k fun k=>ev S v fun v=>muX d et m k v M fun M'=>K .bad M' nx
 |.rng m=>ev S m fun u=>ann u M nx K
 |.nxt it=>ev S it fun u=>anB u M fun v M'=>K v M' nx
 |.app Ty sz bytes x y=>ev S x fun u=>ev S y fun v=>aoJ Ty sz bytes u v M nx K
 |.del d et m k=>ev S m fun u=>ev S k fun v=>aor d et u v M fun M'=>K (.tup []) M' nx
 |.clr Ty z x=>ev S x fun u=>ue u false fun i o n _=>aa (Nat.blt 0 n) (aa (Nat.blt 0 (db z)) (agM z i n o M fun M'=>K (.tup []) M' nx))
 |.mcl m=>ev S m fun u=>anS u M fun M'=>K (.tup []) M' nx
 |.mkx Ty sz bytes _ l c=>ev S l fun u=>ev S c fun v=>anO Ty sz bytes u v M nx K
 |.apr Ty sz _ x y=>ev S x fun u=>ev S y fun v=>aoI Ty sz u v M nx K
 |_=>false
def agW:Nat→Nat→BinOp
 |0,o=>mr o
 |1,o=>LF o
 |2,o=>bif Nat.beq o 1 then .shr else .shl
 |3,o=>mq o
 |4,_=>.add
 |_,o=>bif Nat.beq o 1 then .neq else .eql
def aoN:List (Nat×Nat)→List (Nat×Operand)→List XP→Bool
 |[],[],[]=>true
 |_::ps,q::qs,x::xs=>bV x q.2&&aoN ps qs xs
 |_,_,_=>false
def Ff (P:Program) (x:XO) (o:Op):Bool:=match x with
 |.bad=>true
 |.mv x=>match o with|.move y|.assign y=>bV x y|_=>false
 |.pick c x y=>match o with|.pick c' x' y'=>bV c c'&&bV x x'&&bV y y'|_=>false
 |.bin f k x y=>match o with|.binOp b _ x' y' _=>decide (b=agW f k)&&bV x x'&&bV y y'|_=>false
 |.eqs ne d et x y=>match o with|.binOp b t x' y' _=>decide (b=bif ne then .neq else .eql)&&Nat.ble d 10000&&du P d et t&& !P.eqGuardType P.depth t&&bV x x'&&bV y y'|_=>false
 |.isn ne kd x=>match o with|.binOp b t x' (.const c) _=>decide (b=bif ne then .neq else .eql)&&(match UQ P t kd with|some z=>(tP .nilP c&&tP .nilP z)||(tP .nilS c&&tP .nilS z)||(tP .nilM c&&tP .nilM z)||(tP .nilF c&&tP .nilF z)||(tP .nilI c&&tP .nilI z)|none=>false)&&bV x x'|_=>false
 |.un f x=>match o with|.unOp u _ x'=>bV x x'&&decide (u=match f with|0=>.not|1=>.neg|_=>.xor)|_=>false
 |.cnv k x=>match o with|.convert s t x'=>bV x x'&&(P.underlying s).isSome&&TV P t k|_=>false
 |.fa off x=>match o with|.fieldAddr s x' f=>bV x x'&&decide (EX P s f=some off)|_=>false
 |.nck x=>match o with|.nilCheck x'=>bV x x'|_=>false
 |.ixa n sz x i=>match o with|.indexAddr t x' i'=>bV x x'&&bV i i'&&TW P t n (qV P t)&&decide (cA P (qV P t)=some sz)|_=>false
 |.ixs sz x i=>match o with|.indexAddr t x' i'=>bV x x'&&bV i i'&&oA P t (qV P t)&&decide (cA P (qV P t)=some sz)|_=>false
 |.fld agg off n x=>match o with|.field t x' f=>bV x x'&&(match P.underlying t with|some (.struct fs)=>(match fs[f]? with|some g=>Nat.beq g.offset off&&decide (kC P g.type=some agg)&&decide (cA P g.type=some n)|none=>false)|_=>false)|_=>false
 |.len f x=>match o with|.call c=>(match c.callee,c.args.toList,c.argTypes.toList with|.builtin .len,[x'],[t]=>bV x x'&&(match f with|0=>MU P t|_=>oA P t (qV P t))|_,_,_=>false)|_=>false
 |.mlen x=>match o with|.call c=>(match c.callee,c.args.toList,c.argTypes.toList with|.builtin .len,[x'],[t]=>bV x x'&&uR P t (JO P t) (qV P t)|_,_,_=>false)|_=>false
 |.mx b x y=>match o with|.call c=>(match c.callee,c.args.toList with|.builtin f,[x',y']=>bV x x'&&bV y y'&&decide (f=bif b then .max else .min)|_,_=>false)|_=>false
 |.app Ty sz bytes x y=>match o with|.call c=>(match c.callee,c.args.toList,c.argTypes.toList with|.builtin .append,[x',y'],[t,u]=>bV x x'&&bV y y'&&Nat.beq t u&&oA P t Ty&&kR P Ty sz bytes|_,_,_=>false)|_=>false
 |.apr Ty sz bytes x y=>match o with|.call c=>(match c.callee,c.args.toList,c.argTypes.toList with|.builtin .append,[x',y'],[t,u]=>bV x x'&&bV y y'&&Nat.beq t u&&oA P t Ty&&kR P Ty sz bytes|_,_,_=>false)|_=>false
 |.del d et m k=>match o with|.call c=>(match c.callee,c.args.toList,c.argTypes.toList with|.builtin .delete,[x',y'],[t,_]=>bV m x'&&bV k y'&&Nat.ble d 10000&&uR P t (JO P t) (qV P t)&&du P d et (JO P t)|_,_,_=>false)|_=>false
 |.ext i x=>match o with|.extract x' j=>bV x x'&&Nat.beq i j|_=>false
 |.six x i=>match o with|.index t x' i'=>bV x x'&&bV i i'&&MU P t|_=>false
 |.bld z ps xs=>match o with|.build t qs=>Nf P t&&wm P t z&&Gz P t (qs.toList.map (·.1)) ps&&td xs (qs.toList.map (·.2))|_=>false
 |.cnw k x=>match o with|.convert s t x'=>bV x x'&&(P.underlying s).isSome&&TV P t k|_=>false
 |.slt x lo hi=>match o with|.slice t x' lo' hi' none=>bV x x'&&zo lo lo'&&zo hi hi'&&MU P t|_=>false
 |.ixv agg n sz x i=>match o with|.index t x' i'=>bV x x'&&bV i i'&&TW P t n (qV P t)&&decide (kC P (qV P t)=some agg)&&decide (cA P (qV P t)=some sz)|_=>false
 |.clr Ty z x=>match o with|.call c=>(match c.callee,c.args.toList,c.argTypes.toList with|.builtin .clear,[x'],[t]=>bV x x'&&oA P t Ty&&wm P Ty z&&decide (cA P Ty=some z.length)|_,_,_=>false)|_=>false
 |.mcl m=>match o with|.call c=>(match c.callee,c.args.toList,c.argTypes.toList with|.builtin .clear,[x'],[t]=>bV m x'&&uR P t (JO P t) (qV P t)|_,_,_=>false)|_=>false
 |.cap x=>match o with|.call c=>(match c.callee,c.args.toList,c.argTypes.toList with|.builtin .cap,[x'],[t]=>bV x x'&&oA P t (qV P t)|_,_,_=>false)|_=>false
 |.mkf f xs=>match o with|.makeFunc (.func f') first caps=>Nat.beq f' f&&first.isEmpty&&td xs caps.toList|_=>false
 |.ld agg n x=>match o with|.load t x'=>bV x x'&&decide (kC P t=some agg)&&decide (cA P t=some n)|_=>false
 |.sls sz x lo hi mx=>match o with|.slice t x' lo' hi' mx'=>bV x x'&&zo lo lo'&&zo hi hi'&&zo mx mx'&&oA P t (qV P t)&&decide (cA P (qV P t)=some sz)|_=>false
 |.lk d et zv comma m k=>match o with|.lookup t m' k' c=>bV m m'&&bV k k'&&decide (c=comma)&&Nat.ble d 10000&&uR P t (JO P t) (qV P t)&&du P d et (JO P t)&&aeI P (qV P t) zv|_=>false
 |.ent it=>match o with|.entry x'=>bV it x'|_=>false
 |.st n x y=>match o with|.store t x' y'=>bV x x'&&bV y y'&&decide (cA P t=some n)|_=>false
 |.al T z=>match o with|.alloc t=>Nat.beq t T&&wm P t z|_=>false
 |.box T x=>match o with|.box t x'=>bV x x'&&Nat.beq t T|_=>false
 |.bsl Ty sz len z ps xs=>match o with|.buildSlice t n qs=>Nat.beq n len&&oA P t Ty&&NO P Ty sz len z&&Gz P t (qs.toList.map (·.1)) ps&&td xs (qs.toList.map (·.2))|_=>false
 |.mks Ty sz bytes z l c=>match o with|.makeSlice t l' c'=>bV l l'&&bV c c'&&oA P t Ty&&kR P Ty sz bytes&&wm P Ty z|_=>false
 |.mkx Ty sz bytes z l c=>match o with|.makeSlice t l' c'=>bV l l'&&bV c c'&&oA P t Ty&&kR P Ty sz bytes&&wm P Ty z|_=>false
 |.mkm=>match o with|.makeMap t none=>uR P t (JO P t) (qV P t)|_=>false
 |.mu d et m k v=>match o with|.mapUpdate t m' k' v'|.insert t m' k' v'=>bV m m'&&bV k k'&&bV v v'&&Nat.ble d 10000&&uR P t (JO P t) (qV P t)&&du P d et (JO P t)|_=>false
 |.rng m=>match o with|.range t m'=>bV m m'&&uR P t (JO P t) (qV P t)|_=>false
 |.nxt it=>match o with|.next x' s=>bV it x'&& !s|_=>false
section
variable {P:Program} {E:Env} {ρ:Ren} {G:GS} {F:List bh} {M:T} {nx:Nat} {w:World} {N:Nat} {S:SL} {a:Act}
theorem ce {m:Sem Value} {z:Value} {w w':World} (h:m.run P w= .ok z w'):((do pure (Next.value (←m))):Sem Next).run P w= .ok (.value z) w':=by
 simp[apH,h]
theorem Ut {m:Sem Unit} {w w':World} (h:m.run P w= .ok () w'):((do m;pure Next.skip):Sem Next).run P w= .ok .skip w':=by
 simp[apH,h]
theorem UC (qs:Array (Nat×Operand)) (f:Operand→Value):(qs.map fun(i,x)=>(i,f x))=(((qs.toList.map (·.1)).zip ((qs.toList.map (·.2)).map f))).toArray:=by
 apply Array.ext'
 simp only[Array.toList_map,List.map_map]
 generalize qs.toList=l
 induction l with
 |nil=>rfl
 |cons p l ih=>simp[ih]
theorem lN {α:Type _} {x:Array α} {l:List α} (h:x.toList=l):x=l.toArray:=by
 subst h;simp
theorem aU {a b:Bool} (h:(a&&b)=true):a=true∧b=true:=by simpa using h
theorem aoE {f k:Nat} {u v:AV} {K:AV→Bool} {x y:Value} (h1:den E ρ u=some x) (h2:den E ρ v=some y)
  (hk:(Nat.rec (arY k u v K) (fun f _=>Nat.rec (agV k u v K) (fun f _=>Nat.rec (shX (Nat.beq k 1) u v K) (fun f _=>Nat.rec (agL k u v K) (fun f _=>Nat.rec (abk u v K) (fun _ _=>afV (Nat.beq k 1) u v K) f) f) f) f) f:Bool)=true) (t:TypeId) (p q:Operand):
  ∃v z,den E ρ v=some z∧K v=true∧∀w,((do eqGuard (agW f k) t p q x y;binOp (agW f k) t x y):Sem Value).run P w= .ok z w:=by
 match f with
 |0=>exact aoF h1 h2 hk t p q
 |1=>exact aku h1 h2 hk t p q
 |2=>exact ank h1 h2 hk t p q
 |3=>exact akm h1 h2 hk t p q
 |4=>exact afY h1 h2 hk t p q
 |n+5=>exact ajo h1 h2 hk t p q
set_option maxHeartbeats 1000000 in
theorem ans (hE:fV E) (s:SR E ρ N S a) {o:Oper} {x:XO} {K:AV→Bool} (hc:Ff P x o.op=true) (hk:opP x S K=true):∃v z,den E ρ v=some z∧K v=true∧∀w,(execOp a.eval o).run P w= .ok (.value z) w:=by
 obtain⟨dst,op,ty,pos,af,g⟩:=o
 cases x<;>simp only[Ff]at hc<;>simp only[opP]at hk<;>first|(cases hk;done)|skip
 case mv x=>
  split at hc<;>first|(cases hc;done)|skip
  all_goals
   obtain⟨v,z,h1,h2,h3⟩:=bG s hc hk
   exact⟨v,z,h1,h3,fun w=>by simp only[execOp,h2];rfl⟩
 case pick c x y=>
  split at hc<;>first|(cases hc;done)|skip
  obtain⟨hc,c3⟩:=aU hc
  obtain⟨c1,c2⟩:=aU hc
  obtain⟨v,z,h1,h2,h3⟩:=bG s c1 hk
  obtain⟨b,rfl,h4⟩:=ON h1 h3
  rcases bi h4 with⟨rfl,h5⟩|⟨rfl,h5⟩
  ·obtain⟨u,z,g1,g2,g3⟩:=bG s c2 h5
   exact⟨u,z,g1,g3,fun w=>by simp[execOp,h2,g2,asBool]⟩
  ·obtain⟨u,z,g1,g2,g3⟩:=bG s c3 h5
   exact⟨u,z,g1,g3,fun w=>by simp[execOp,h2,g2,asBool]⟩
 case bin f k x y=>
  split at hc<;>first|(cases hc;done)|skip
  rename_i b t x' y' t2
  obtain⟨hc,c3⟩:=aU hc
  obtain⟨c1,c2⟩:=aU hc
  rw[decide_eq_true_eq]at c1
  subst c1
  obtain⟨u,zu,h1,h2,h3⟩:=bG s c2 hk
  obtain⟨v,zv,h4,h5,h6⟩:=bG s c3 h3
  obtain⟨r,z,g1,g2,g3⟩:=aoE (P:=P) h1 h4 h6 t x' y'
  exact⟨r,z,g1,g2,fun w=>by simp only[execOp,h2,h5];exact ce (g3 w)⟩
 case eqs ne d et x y=>
  split at hc<;>first|(cases hc;done)|skip
  rename_i b t x' y' t2
  obtain⟨hc,c6⟩:=aU hc
  obtain⟨hc,c5⟩:=aU hc
  obtain⟨hc,c4⟩:=aU hc
  obtain⟨hc,c3⟩:=aU hc
  obtain⟨c1,c2⟩:=aU hc
  rw[decide_eq_true_eq]at c1
  subst c1
  obtain⟨u,zu,h1,h2,h3⟩:=bG s c5 hk
  obtain⟨v,zv,h4,h5,h6⟩:=bG s c6 h3
  obtain⟨r,z,g1,g2,g3⟩:=aol (P:=P) (Nat.le_of_ble_eq_true c2) c3 (by simpa using c4) h1 h4 h6 x' y'
  exact⟨r,z,g1,g2,fun w=>by simp only[execOp,h2,h5];exact ce (g3 w)⟩
 case isn ne kd x=>
  split at hc<;>first|(cases hc;done)|skip
  rename_i b t x' c t2
  obtain⟨hc,c3⟩:=aU hc
  obtain⟨c1,c2⟩:=aU hc
  rw[decide_eq_true_eq]at c1
  subst c1
  split at c2
  case h_2=>cases c2
  rename_i z hz
  obtain⟨u,zu,h1,h2,h3⟩:=bG s c3 hk
  have hcz:c=z:=by
   have key:∀v:AV,(tP v c&&tP v z)=true→c=z:=fun v h=>by
    obtain⟨p,q⟩:=aU h
    have p':=Bl (E:=⟨fun _=>undef,fun _=>none⟩) (ρ:=fun _=>none) p
    have q':=Bl (E:=⟨fun _=>undef,fun _=>none⟩) (ρ:=fun _=>none) q
    rw[p']at q'
    exact apT q'
   simp only[Bool.or_eq_true]at c2
   rcases c2 with(((h|h)|h)|h)|h<;>exact key _ h
  subst hcz
  obtain⟨r,y,g1,g2,g3⟩:=aj8 (P:=P) hz h1 h3 x' c
  exact⟨r,y,g1,g2,fun w=>by simp only[execOp,h2];exact ce (g3 w)⟩
 case un f x=>
  split at hc<;>first|(cases hc;done)|skip
  rename_i u t x'
  obtain⟨c1,c2⟩:=aU hc
  rw[decide_eq_true_eq]at c2
  obtain⟨v,zv,h1,h2,h3⟩:=bG s c1 hk
  match f,c2,h3 with
  |0,c2,h3=>
   obtain⟨r,z,g1,g2,g3⟩:=ajz (P:=P) h1 h3
   exact⟨r,z,g1,g2,fun w=>by simp only[execOp,h2,c2];exact ce (g3 w)⟩
  |1,c2,h3=>
   obtain⟨r,z,g1,g2,g3⟩:=ajB (P:=P) h1 h3
   exact⟨r,z,g1,g2,fun w=>by simp only[execOp,h2,c2];exact ce (g3 w)⟩
  |n+2,c2,h3=>
   obtain⟨r,z,g1,g2,g3⟩:=aki (P:=P) h1 h3
   exact⟨r,z,g1,g2,fun w=>by simp only[execOp,h2,c2];exact ce (g3 w)⟩
 case cnw k x=>
  split at hc<;>first|(cases hc;done)|skip
  obtain⟨hc,c3⟩:=aU hc
  obtain⟨c1,c2⟩:=aU hc
  obtain⟨v,zv,h1,h2,h3⟩:=bG s c1 hk
  obtain⟨r,z,g1,g2,g3⟩:=akj (P:=P) h1 h3 c2 (VJ c3)
  exact⟨r,z,g1,g2,fun w=>by simp only[execOp,h2];exact ce (g3 w)⟩
 case cnv k x=>
  split at hc<;>first|(cases hc;done)|skip
  obtain⟨hc,c3⟩:=aU hc
  obtain⟨c1,c2⟩:=aU hc
  obtain⟨v,zv,h1,h2,h3⟩:=bG s c1 hk
  obtain⟨r,z,g1,g2,g3⟩:=akk (P:=P) h1 h3 c2 (VJ c3)
  exact⟨r,z,g1,g2,fun w=>by simp only[execOp,h2];exact ce (g3 w)⟩
 case fa off x=>
  split at hc<;>first|(cases hc;done)|skip
  obtain⟨c1,c2⟩:=aU hc
  rw[decide_eq_true_eq]at c2
  obtain⟨v,zv,h1,h2,h3⟩:=bG s c1 hk
  obtain⟨r,z,g1,g2,g3⟩:=aoi (P:=P) c2 h1 h3
  exact⟨r,z,g1,g2,fun w=>by simp only[execOp,h2];exact ce (g3 w)⟩
 case nck x=>
  split at hc<;>first|(cases hc;done)|skip
  obtain⟨v,zv,h1,h2,h3⟩:=bG s hc hk
  obtain⟨g1,g2⟩:=ajD (P:=P) h1 h3 (a:=a) h2 (dst:=dst) (ty:=ty) (pos:=pos) (af:=af) (g:=g)
  exact⟨v,zv,h1,g1,g2⟩
 case ixa n sz x i=>
  split at hc<;>first|(cases hc;done)|skip
  obtain⟨hc,c4⟩:=aU hc
  obtain⟨hc,c3⟩:=aU hc
  obtain⟨c1,c2⟩:=aU hc
  rw[decide_eq_true_eq]at c4
  obtain⟨v,zv,h1,h2,h3⟩:=bG s c1 hk
  obtain⟨u,zu,h4,h5,h6⟩:=bG s c2 h3
  obtain⟨r,z,g1,g2,g3⟩:=aj6 (P:=P) (VL c3) c4 h1 h4 h6
  exact⟨r,z,g1,g2,fun w=>by simp only[execOp,h2,h5];exact ce (g3 w)⟩
 case slt x lo hi=>
  split at hc<;>first|(cases hc;done)|skip
  obtain⟨hc,c4⟩:=aU hc
  obtain⟨hc,c3⟩:=aU hc
  obtain⟨c1,c2⟩:=aU hc
  obtain⟨v,zv,h1,h2,h3⟩:=bG s c1 hk
  obtain⟨l,l1,l2⟩:=EY s c2 h3
  obtain⟨hh,l3,l4⟩:=EY s c3 l2
  obtain⟨u,z,g1,g2,g3⟩:=ajj (P:=P) (Lp c4) h1 l1 l3 l4
  exact⟨u,z,g1,g2,fun w=>by simp only[execOp,h2];exact ce (g3 w)⟩
 case ixv agg n sz x i=>
  split at hc<;>first|(cases hc;done)|skip
  obtain⟨hc,c5⟩:=aU hc
  obtain⟨hc,c4⟩:=aU hc
  obtain⟨hc,c3⟩:=aU hc
  obtain⟨c1,c2⟩:=aU hc
  rw[decide_eq_true_eq]at c4 c5
  obtain⟨v,zv,h1,h2,h3⟩:=bG s c1 hk
  obtain⟨u,zu,h4,h5,h6⟩:=bG s c2 h3
  obtain⟨r,z,g1,g2,g3⟩:=aj3 (P:=P) (VL c3) c4 c5 h1 h4 h6
  exact⟨r,z,g1,g2,fun w=>by simp only[execOp,h2,h5];exact ce (g3 w)⟩
 case ixs sz x i=>
  split at hc<;>first|(cases hc;done)|skip
  obtain⟨hc,c4⟩:=aU hc
  obtain⟨hc,c3⟩:=aU hc
  obtain⟨c1,c2⟩:=aU hc
  rw[decide_eq_true_eq]at c4
  obtain⟨v,zv,h1,h2,h3⟩:=bG s c1 hk
  obtain⟨u,zu,h4,h5,h6⟩:=bG s c2 h3
  obtain⟨r,z,g1,g2,g3⟩:=aj4 (P:=P) (jg c3) c4 h1 h4 h6
  exact⟨r,z,g1,g2,fun w=>by simp only[execOp,h2,h5];exact ce (g3 w)⟩
 case fld agg off n x=>
  split at hc<;>first|(cases hc;done)|skip
  obtain⟨c1,c2⟩:=aU hc
  split at c2
  case h_2=>cases c2
  rename_i fs hfs
  split at c2
  case h_2=>cases c2
  rename_i f hf
  obtain⟨c2,c4⟩:=aU c2
  obtain⟨c2,c3⟩:=aU c2
  rw[decide_eq_true_eq]at c3 c4
  obtain⟨v,zv,h1,h2,h3⟩:=bG s c1 hk
  obtain⟨r,z,g1,g2,g3⟩:=akb (P:=P) hfs hf (apz c2) c3 c4 h1 h3
  exact⟨r,z,g1,g2,fun w=>by simp only[execOp,h2];exact ce (g3 w)⟩
 case len f x=>
  split at hc<;>first|(cases hc;done)|skip
  rename_i c
  obtain⟨callee,args,tas⟩:=c
  split at hc<;>first|(cases hc;done)|skip
  rename_i x' t e1 e2 e3
  simp only at e1 e2 e3
  obtain rfl:=lN e2
  obtain rfl:=lN e3
  subst e1
  obtain⟨c1,c2⟩:=aU hc
  obtain⟨v,zv,h1,h2,h3⟩:=bG s c1 hk
  cases f with
  |zero=>
   obtain⟨r,z,g1,g2,g3⟩:=afT (P:=P) (ty:=ty) (Lp c2) h1 h3
   refine⟨r,z,g1,g2,fun w=> ?_⟩
   rw[fC,show[x'].toArray.map a.eval= #[zv] by simp[h2]]
   exact g3 _ w
  |succ f=>
   obtain⟨r,z,g1,g2,g3⟩:=ajY (P:=P) (ty:=ty) (jg c2) h1 h3
   refine⟨r,z,g1,g2,fun w=> ?_⟩
   rw[fC,show[x'].toArray.map a.eval= #[zv] by simp[h2]]
   exact g3 _ w
 case cap x=>
  split at hc<;>first|(cases hc;done)|skip
  rename_i c
  obtain⟨callee,args,tas⟩:=c
  split at hc<;>first|(cases hc;done)|skip
  rename_i x' t e1 e2 e3
  simp only at e1 e2 e3
  obtain rfl:=lN e2
  obtain rfl:=lN e3
  subst e1
  obtain⟨c1,c2⟩:=aU hc
  obtain⟨v,zv,h1,h2,h3⟩:=bG s c1 hk
  obtain⟨r,z,g1,g2,g3⟩:=ako (P:=P) (ty:=ty) (jg c2) h1 h3
  refine⟨r,z,g1,g2,fun w=> ?_⟩
  rw[fC,show[x'].toArray.map a.eval= #[zv] by simp[h2]]
  exact g3 _ w
 case mx b x y=>
  split at hc<;>first|(cases hc;done)|skip
  rename_i c
  obtain⟨callee,args,tas⟩:=c
  split at hc<;>first|(cases hc;done)|skip
  rename_i f x' y' e1 e2
  simp only at e1 e2
  obtain rfl:=lN e2
  subst e1
  obtain⟨hc,c3⟩:=aU hc
  obtain⟨c1,c2⟩:=aU hc
  rw[decide_eq_true_eq]at c3
  subst c3
  obtain⟨v,zv,h1,h2,h3⟩:=bG s c1 hk
  obtain⟨u,zu,h4,h5,h6⟩:=bG s c2 h3
  obtain⟨r,z,g1,g2,g3⟩:=anL (P:=P) (ta:=tas) (ty:=ty) h1 h4 h6
  refine⟨r,z,g1,g2,fun w=> ?_⟩
  rw[fC,show[x',y'].toArray.map a.eval= #[zv,zu] by simp[h2,h5]]
  exact g3 _ w
 case ext i x=>
  split at hc<;>first|(cases hc;done)|skip
  obtain⟨c1,c2⟩:=aU hc
  have c2:=apz c2
  subst c2
  obtain⟨v,zv,h1,h2,h3⟩:=bG s c1 hk
  obtain⟨r,z,g1,g2,g3⟩:=ake (P:=P) h1 h3
  exact⟨r,z,g1,g2,fun w=>by simp only[execOp,h2];exact ce (g3 w)⟩
 case six x i=>
  split at hc<;>first|(cases hc;done)|skip
  obtain⟨hc,c3⟩:=aU hc
  obtain⟨c1,c2⟩:=aU hc
  obtain⟨v,zv,h1,h2,h3⟩:=bG s c1 hk
  obtain⟨u,zu,h4,h5,h6⟩:=bG s c2 h3
  obtain⟨r,z,g1,g2,g3⟩:=ajm (P:=P) (Lp c3) h1 h4 h6
  exact⟨r,z,g1,g2,fun w=>by simp only[execOp,h2,h5];exact ce (g3 w)⟩
 case bld z ps xs=>
  split at hc<;>first|(cases hc;done)|skip
  rename_i t qs
  obtain⟨hc,c4⟩:=aU hc
  obtain⟨hc,c3⟩:=aU hc
  obtain⟨c1,c2⟩:=aU hc
  obtain⟨vs,h1,h2,h3⟩:=Bw s c4 hk
  obtain⟨h4,h5⟩:=aj h2
  obtain⟨zs,z1,z2⟩:=tx (E:=E) (ρ:=ρ) c2
  obtain⟨u,x,g1,g2,g3⟩:=akt hE z1 z2 c1 c3 h1 (by simpa using h3) (NY hE h4 h1) h5
  exact⟨u,x,g1,g2,fun w=>by simp only[execOp,UC];exact ce (g3 w)⟩
 case mkf f xs=>
  split at hc<;>first|(cases hc;done)|skip
  rename_i f' fs caps
  obtain⟨hc,c3⟩:=aU hc
  obtain⟨c1,c2⟩:=aU hc
  have c1:=apz c1
  subst c1
  have c2:fs= #[]:=by simpa using c2
  subst c2
  obtain⟨vs,h1,h2,h3⟩:=Bw s c3 hk
  refine⟨_,_,?_,h2,fun w=>by simp only[execOp];exact ce rfl⟩
  have e:(List.map a.eval caps.toList).toArray=Array.map a.eval caps:=Array.ext' (by rw[Array.toList_map])
  simp only[den,h1,e,Array.map_empty]
end
section
variable {P:Program} {E:Env} {ρ:Ren} {G:GS} {F:List bh} {M:T} {nx:Nat} {w:World} {N:Nat} {S:SL} {a:Act}
theorem adv (h:Sim E ρ G F M nx w) (s:SR E ρ N S a) {o:Oper} {x:XO} {K:AV→Bool} (hc:Ff P x o.op=true) (hk:YL x S M K=true):∃v z,den E ρ v=some z∧K v=true∧(execOp a.eval o).run P w= .ok (.value z) w:=by
 obtain⟨dst,op,ty,pos,af,g⟩:=o
 cases x<;>simp only[Ff]at hc<;>simp only[YL]at hk<;>first|(cases hk;done)|skip
 case ld agg n x=>
  split at hc<;>first|(cases hc;done)|skip
  obtain⟨hc,c3⟩:=aU hc
  obtain⟨c1,c2⟩:=aU hc
  rw[decide_eq_true_eq]at c2 c3
  obtain⟨v,zv,h1,h2,h3⟩:=bG s c1 hk
  obtain⟨u,z,g1,g2,g3⟩:=ML (P:=P) h h1 h3 c2 c3
  exact⟨u,z,g1,g2,by simp only[execOp,h2];exact ce g3⟩
 case mlen x=>
  split at hc<;>first|(cases hc;done)|skip
  rename_i c
  obtain⟨callee,args,tas⟩:=c
  split at hc<;>first|(cases hc;done)|skip
  rename_i x' t e1 e2 e3
  simp only at e1 e2 e3
  obtain rfl:=lN e2
  obtain rfl:=lN e3
  subst e1
  obtain⟨c1,c2⟩:=aU hc
  obtain⟨v,zv,h1,h2,h3⟩:=bG s c1 hk
  obtain⟨r,z,g1,g2,g3⟩:=agf (P:=P) (ty:=ty) h (oT c2) h1 h3
  refine⟨r,z,g1,g2,?_⟩
  rw[fC,show[x'].toArray.map a.eval= #[zv] by simp[h2]]
  exact g3 _
 case sls sz x lo hi mx=>
  split at hc<;>first|(cases hc;done)|skip
  obtain⟨hc,c6⟩:=aU hc
  obtain⟨hc,c5⟩:=aU hc
  obtain⟨hc,c4⟩:=aU hc
  obtain⟨hc,c3⟩:=aU hc
  obtain⟨c1,c2⟩:=aU hc
  rw[decide_eq_true_eq]at c6
  obtain⟨v,zv,h1,h2,h3⟩:=bG s c1 hk
  obtain⟨l,l1,l2⟩:=EY s c2 h3
  obtain⟨hh,l3,l4⟩:=EY s c3 l2
  obtain⟨m,l5,l6⟩:=EY s c4 l4
  obtain⟨u,z,g1,g2,g3⟩:=ajk (P:=P) h (jg c5) c6 h1 l1 l3 l5 l6
  exact⟨u,z,g1,g2,by simp only[execOp,h2];exact ce g3⟩
 case lk d et zv comma m k=>
  split at hc<;>first|(cases hc;done)|skip
  obtain⟨hc,c7⟩:=aU hc
  obtain⟨hc,c6⟩:=aU hc
  obtain⟨hc,c5⟩:=aU hc
  obtain⟨hc,c4⟩:=aU hc
  obtain⟨hc,c3⟩:=aU hc
  obtain⟨c1,c2⟩:=aU hc
  rw[decide_eq_true_eq]at c3
  subst c3
  obtain⟨v,z1,h1,h2,h3⟩:=bG s c1 hk
  obtain⟨u,z2,h4,h5,h6⟩:=bG s c2 h3
  obtain⟨zz,z3,z4⟩:=aij (E:=E) (ρ:=ρ) c7
  obtain⟨r,z,g1,g2,g3⟩:=anX (P:=P) h (Nat.le_of_ble_eq_true c4) (oT c5) c6 z3 z4 h1 h4 h6
  exact⟨r,z,g1,g2,by simp only[execOp,h2,h5];exact ce g3⟩
 case ent it=>
  split at hc<;>first|(cases hc;done)|skip
  obtain⟨v,zv,h1,h2,h3⟩:=bG s hc hk
  obtain⟨u,z,g1,g2,g3⟩:=akf (P:=P) h h1 h3
  exact⟨u,z,g1,g2,by simp only[execOp,h2];exact ce g3⟩
theorem Dm:∀(vs:List Value) (b o k i:Nat),storeCells ⟨b,o,none⟩ vs (k+i)=storeCells ⟨b,o+k,none⟩ vs i
 |[],_,_,_,_=>rfl
 |v::vs,b,o,k,i=>by
  unfold storeCells
  rw[show k+i+1=k+(i+1) by omega,Dm vs b o k (i+1)]
  simp only[de,Nat.add_assoc]
theorem AJ:∀(xs ys:List Value) (a:Addr) (i:Nat) {w w1 w2:World},(storeCells a xs i).run P w= .ok () w1→(storeCells a ys (i+xs.length)).run P w1= .ok () w2→(storeCells a (xs++ys) i).run P w= .ok () w2
 |[],ys,a,i,w,w1,w2,h,k=>by
  simp only[storeCells,Sem.run_pure]at h
  cases h
  simpa using k
 |x::xs,ys,a,i,w,w1,w2,h,k=>by
  simp only[List.cons_append,storeCells,apH]at h ⊢
  rcases e:(store (a.add i) x).run P w with⟨u,w'⟩|_|_<;>rw[e]at h<;>try(cases h;done)
  simp only[apG]at h ⊢
  exact AJ xs ys a (i+1) h (by rw[show i+1+xs.length=i+(x::xs).length by simp;omega];exact k)
theorem Dl {zs:Array Value}:∀{n:Nat},0<zs.size→(Builtin.zeroCells zs n).toList=(List.replicate n zs.toList).flatten
 |0,_=>by simp[Builtin.zeroCells]
 |n+1,h=>by
  rw[List.replicate_succ',List.flatten_append,←Dl h]
  simp only[Builtin.zeroCells,Array.toList_map,Array.toList_range,Nat.succ_mul,List.range_add,apJ,List.map_map,apB,List.flatten_nil,List.append_nil]
  congr 1
  refine List.ext_getElem? fun i=> ?_
  simp only[apR,Function.comp_def]
  by_cases hi:i<zs.size
  ·rw[List.getElem?_range hi]
   simp[Nat.add_mod,Nat.mod_eq_of_lt hi,hi]
  ·rw[List.getElem?_eq_none (by simp;omega),List.getElem?_eq_none (by simp;omega)]
   rfl
theorem Zp (hE:fV E) {i Ty:Nat} {e:eT} {z:List AV} {zs:Array Value} (he:ρ i=some e) (hz:aS E ρ z=some zs.toList) (hs:cA P Ty=some (db z)):∀{n o:Nat} {M:T} {w:World} {K:T→Bool},Sim E ρ G F M nx w→agM z i n o M K=true→
  ∃M' w',Sim E ρ G F M' nx w'∧K M'=true∧(storeCells ⟨e.b,o,none⟩ (List.replicate n zs.toList).flatten).run P w= .ok () w'
 |0,o,M,w,K,h,hk=>⟨M,w,h,hk,by simp[storeCells,Sem.run_pure]⟩
 |n+1,o,M,w,K,h,hk=>by
  have hk:stX (db z) (.ptr i o) (.agg z) M (fun M'=>fN (Nat.add o (db z)) fun o'=>agM z i n o' M' K)=true:=hk
  obtain⟨M1,w1,g1,g2,_,g4⟩:=Yy (P:=P) hE h (v:=.ptr i o) (x:=.agg z) (p:=.pointer (some ⟨e.b,o,none⟩)) (y:=.agg zs) (by simp only[den,he]) (by simp only[den,hz,Array.toArray_toList]) hk hs
  have g4:=g4 _ rfl
  rw[bY]at g2
  obtain⟨M2,w2,k1,k2,k3⟩:=Zp hE he hz hs g1 g2
  refine⟨M2,w2,k1,k2,?_⟩
  have hl:zs.toList.length=db z:=by rw[cw];exact cL hz
  rw[List.replicate_succ,apB]
  refine AJ _ _ _ 0 g4 ?_
  have:=Dm (List.replicate n zs.toList).flatten e.b o (db z) 0
  rw[Nat.zero_add]
  show(storeCells _ _ zs.toList.length).run P w1=_
  rw[hl]
  rw[Nat.add_zero]at this
  rw[this]
  exact k3
def apt (P:Program) (E:Env) (ρ':Ren) (o:Oper) (a:Act) (w w':World) (v:AV):Prop:=
 (∃z,den E ρ' v=some z∧(execOp a.eval o).run P w= .ok (.value z) w')∨(v= .bad∧(execOp a.eval o).run P w= .ok .skip w')
theorem ant (hE:fV E) (h:Sim E ρ G F M nx w) (s:SR E ρ N S a) {o:Oper} {x:XO} {K:AV→T→Nat→Bool} (hc:Ff P x o.op=true) (hk:opE x S M nx K=true):
  ∃v M' nx' ρ' w',ρ.Le ρ'∧Sim E ρ' G F M' nx' w'∧K v M' nx'=true∧apt P E ρ' o a w w' v:=by
 obtain⟨dst,op,ty,pos,af,g⟩:=o
 cases x<;>simp only[Ff]at hc<;>simp only[opE]at hk<;>first|(cases hk;done)|skip
 case st n x y=>
  split at hc<;>first|(cases hc;done)|skip
  obtain⟨hc,c3⟩:=aU hc
  obtain⟨c1,c2⟩:=aU hc
  rw[decide_eq_true_eq]at c3
  obtain⟨v,z1,h1,h2,h3⟩:=bG s c1 hk
  obtain⟨u,z2,h4,h5,h6⟩:=bG s c2 h3
  obtain⟨M',w',g1,g2,g3⟩:=am8 (P:=P) hE h h1 h4 h6 c3
  exact⟨.bad,M',nx,ρ,w',Ren.Le.refl _,g1,g2,.inr ⟨rfl,by simp only[execOp,h2,h5];exact Ut g3⟩⟩
 case al T z=>
  split at hc<;>first|(cases hc;done)|skip
  obtain⟨c1,c2⟩:=aU hc
  have c1:=apz c1
  subst c1
  obtain⟨zs,z1,z2⟩:=tx (E:=E) (ρ:=ρ) c2
  obtain⟨h1,h2⟩:=aj hk
  rw[apV,cw]at h1
  obtain⟨v,M',nx',ρ',w',z,g1,g2,g3,g4,g5⟩:=ag3 (P:=P) h z1 z2 (fun e=>by rw[e]at h1;simp at h1) h2
  exact⟨v,M',nx',ρ',w',g1,g2,g3,.inl ⟨z,g4,by simp only[execOp];exact ce g5⟩⟩
 case box T x=>
  split at hc<;>first|(cases hc;done)|skip
  obtain⟨c1,c2⟩:=aU hc
  have c2:=apz c2
  subst c2
  obtain⟨u,zu,h1,h2,h3⟩:=bG s c1 hk
  obtain⟨v,M',nx',ρ',w',z,g1,g2,g3,g4,g5⟩:=aks (P:=P) hE h h1 h3
  exact⟨v,M',nx',ρ',w',g1,g2,g3,.inl ⟨z,g4,by simp only[execOp,h2];exact ce g5⟩⟩
 case bsl Ty sz len z ps xs=>
  split at hc<;>first|(cases hc;done)|skip
  rename_i t n qs
  obtain⟨hc,c5⟩:=aU hc
  obtain⟨hc,c4⟩:=aU hc
  obtain⟨hc,c3⟩:=aU hc
  obtain⟨c1,c2⟩:=aU hc
  have c1:=apz c1
  subst c1
  obtain⟨vs,h1,h2,h3⟩:=Bw s c5 hk
  obtain⟨h4,h5⟩:=aj h2
  obtain⟨zs,z1,z2⟩:=aai (E:=E) (ρ:=ρ) c3
  obtain⟨v,M',nx',ρ',w',x,g1,g2,g3,g4,g5⟩:=akr (P:=P) hE h (jg c2) z1 z2 c4 h1 (by simpa using h3) (NY hE h4 h1) h5
  exact⟨v,M',nx',ρ',w',g1,g2,g3,.inl ⟨x,g4,by simp only[execOp,UC];exact ce g5⟩⟩
 case mks Ty sz bytes z l c=>
  split at hc<;>first|(cases hc;done)|skip
  obtain⟨hc,c5⟩:=aU hc
  obtain⟨hc,c4⟩:=aU hc
  obtain⟨hc,c3⟩:=aU hc
  obtain⟨c1,c2⟩:=aU hc
  obtain⟨u,z1,h1,h2,h3⟩:=bG s c1 hk
  obtain⟨v,z2,h4,h5,h6⟩:=bG s c2 h3
  obtain⟨zs,y1,y2⟩:=tx (E:=E) (ρ:=ρ) c5
  obtain⟨v,M',nx',ρ',w',x,g1,g2,g3,g4,g5⟩:=ajO (P:=P) h (jg c3) c4 y1 y2 h1 h4 h6
  exact⟨v,M',nx',ρ',w',g1,g2,g3,.inl ⟨x,g4,by simp only[execOp,h2,h5];exact ce g5⟩⟩
 case mkx Ty sz bytes z l c=>
  split at hc<;>first|(cases hc;done)|skip
  obtain⟨hc,c5⟩:=aU hc
  obtain⟨hc,c4⟩:=aU hc
  obtain⟨hc,c3⟩:=aU hc
  obtain⟨c1,c2⟩:=aU hc
  obtain⟨u,z1,h1,h2,h3⟩:=bG s c1 hk
  obtain⟨v,z2,h4,h5,h6⟩:=bG s c2 h3
  obtain⟨zs,y1,y2⟩:=tx (E:=E) (ρ:=ρ) c5
  obtain⟨v,M',nx',ρ',w',x,g1,g2,g3,g4,g5⟩:=ajN (P:=P) h (jg c3) c4 h1 h4 h6
  exact⟨v,M',nx',ρ',w',g1,g2,g3,.inl ⟨x,g4,by simp only[execOp,h2,h5];exact ce g5⟩⟩
 case mkm=>
  split at hc<;>first|(cases hc;done)|skip
  obtain⟨v,M',nx',ρ',w',x,g1,g2,g3,g4,g5⟩:=ajQ (P:=P) h hk (oT hc) (hint:=none) (fun v hv=>by cases hv)
  exact⟨v,M',nx',ρ',w',g1,g2,g3,.inl ⟨x,g4,by simp only[execOp,Option.map_none];exact ce g5⟩⟩
 case mu d et m k v=>
  split at hc<;>first|(cases hc;done)|skip
  all_goals
   obtain⟨hc,c6⟩:=aU hc
   obtain⟨hc,c5⟩:=aU hc
   obtain⟨hc,c4⟩:=aU hc
   obtain⟨hc,c3⟩:=aU hc
   obtain⟨c1,c2⟩:=aU hc
   obtain⟨u,z1,h1,h2,h3⟩:=bG s c1 hk
   obtain⟨v,z2,h4,h5,h6⟩:=bG s c2 h3
   obtain⟨q,z3,h7,h8,h9⟩:=bG s c3 h6
   obtain⟨M',w',g1,g2,g3⟩:=anN (P:=P) h (Nat.le_of_ble_eq_true c4) (oT c5) c6 h1 h4 h7 h9
   exact⟨.bad,M',nx,ρ,w',Ren.Le.refl _,g1,g2,.inr ⟨rfl,by simp only[execOp,h2,h5,h8];exact Ut g3⟩⟩
 case rng m=>
  split at hc<;>first|(cases hc;done)|skip
  obtain⟨c1,c2⟩:=aU hc
  obtain⟨u,z1,h1,h2,h3⟩:=bG s c1 hk
  obtain⟨v,M',nx',ρ',w',x,g1,g2,g3,g4,g5⟩:=ajq (P:=P) h (oT c2) h1 h3
  exact⟨v,M',nx',ρ',w',g1,g2,g3,.inl ⟨x,g4,by simp only[execOp,h2];exact ce g5⟩⟩
 case nxt it=>
  split at hc<;>first|(cases hc;done)|skip
  rename_i x' b
  obtain⟨c1,c2⟩:=aU hc
  have c2:b=false:=by simpa using c2
  subst c2
  obtain⟨u,z1,h1,h2,h3⟩:=bG s c1 hk
  obtain⟨v,M',w',z,g1,g2,g3,g4⟩:=ajy (P:=P) (ty:=ty) h h1 h3
  exact⟨v,M',nx,ρ,w',Ren.Le.refl _,g1,g2,.inl ⟨z,g3,by simp only[execOp,h2];exact ce g4⟩⟩
 case clr Ty z x=>
  split at hc<;>first|(cases hc;done)|skip
  rename_i c
  obtain⟨callee,args,tas⟩:=c
  split at hc<;>first|(cases hc;done)|skip
  rename_i x' t e1 e2 e3
  simp only at e1 e2 e3
  obtain rfl:=lN e2
  obtain rfl:=lN e3
  subst e1
  obtain⟨hc,c4⟩:=aU hc
  obtain⟨hc,c3⟩:=aU hc
  obtain⟨c1,c2⟩:=aU hc
  rw[decide_eq_true_eq,←cw]at c4
  obtain⟨u,z1,h1,h2,h3⟩:=bG s c1 hk
  rcases jE h3 with⟨_,h3⟩|⟨i,o,n,cp,rfl,k3⟩
  ·cases h3
  obtain⟨h4,k4⟩:=aj k3
  obtain⟨h5,k5⟩:=aj k4
  rw[apV]at h4
  rw[apV]at h5
  obtain⟨zs,y1,y2⟩:=tx (E:=E) (ρ:=ρ) c3
  have hlz:zs.toList.length=db z:=by rw[cw];exact cL y2
  simp only[den]at h1
  split at h1
  case h_2=>cases h1
  rename_i e he
  cases h1
  obtain⟨M',w',g1,g2,g4⟩:=Zp (P:=P) hE he y2 c4 h k5
  obtain⟨zv,r1,r2⟩:=KK (P:=P) y1 w
  refine⟨.tup [],M',nx,ρ,w',Ren.Le.refl _,g1,g2,.inl ⟨.tuple #[],by simp[den,aS],?_⟩⟩
  have hc0:(Builtin.clear_ #[t] ty #[.slice (some ⟨e.b,o,none⟩) n (df e cp)]).run P w= .ok (.tuple #[]) w':=by
   obtain⟨n,rfl⟩:∃m,n=m+1:=⟨n - 1,by omega⟩
   have hz0:=Dl (zs:=zs) (n:=n+1) (by rw[←Array.length_toList];omega)
   simp only[Builtin.clear_,List.getElem?_toArray,List.getElem?_cons_zero]
   simp[run_underlying (jg c2),apH,r1,Result.andThen,r2,hz0,g4]
  simp only[execOp,resolve,List.map_toArray,List.map_cons,List.map_nil,h2]
  simp[invoke,builtin,hc0]
 case mcl m=>
  split at hc<;>first|(cases hc;done)|skip
  rename_i c
  obtain⟨callee,args,tas⟩:=c
  split at hc<;>first|(cases hc;done)|skip
  rename_i x' t e1 e2 e3
  simp only at e1 e2 e3
  obtain rfl:=lN e2
  obtain rfl:=lN e3
  subst e1
  obtain⟨c1,c2⟩:=aU hc
  obtain⟨u,z1,h1,h2,h3⟩:=bG s c1 hk
  obtain⟨M',w',g1,g2,g3⟩:=ajR (P:=P) (ty:=ty) h (oT c2) h1 h3
  refine⟨.tup [],M',nx,ρ,w',Ren.Le.refl _,g1,g2,.inl ⟨.tuple #[],by simp[den,aS],?_⟩⟩
  rw[fC,show[x'].toArray.map a.eval= #[z1] by simp[h2]]
  simp only[builtin]
  exact ce g3
 case app Ty sz bytes x y=>
  split at hc<;>first|(cases hc;done)|skip
  rename_i c
  obtain⟨callee,args,tas⟩:=c
  split at hc<;>first|(cases hc;done)|skip
  rename_i x' y' t u e1 e2 e3
  simp only at e1 e2 e3
  obtain rfl:=lN e2
  obtain rfl:=lN e3
  subst e1
  obtain⟨hc,c5⟩:=aU hc
  obtain⟨hc,c4⟩:=aU hc
  obtain⟨hc,c3⟩:=aU hc
  obtain⟨c1,c2⟩:=aU hc
  have c3:=apz c3
  subst c3
  obtain⟨u,z1,h1,h2,h3⟩:=bG s c1 hk
  obtain⟨v,z2,h4,h5,h6⟩:=bG s c2 h3
  obtain⟨r,M',nx',ρ',w',x,g1,g2,g3,g4,g5⟩:=akw (P:=P) (ty:=ty) hE h (jg c4) c5 h1 h4 h6
  refine⟨r,M',nx',ρ',w',g1,g2,g3,.inl ⟨x,g4,?_⟩⟩
  rw[fC,show[x',y'].toArray.map a.eval= #[z1,z2] by simp[h2,h5]]
  simp only[builtin]
  exact ce g5
 case apr Ty sz bytes x y=>
  split at hc<;>first|(cases hc;done)|skip
  rename_i c
  obtain⟨callee,args,tas⟩:=c
  split at hc<;>first|(cases hc;done)|skip
  rename_i x' y' t u e1 e2 e3
  simp only at e1 e2 e3
  obtain rfl:=lN e2
  obtain rfl:=lN e3
  subst e1
  obtain⟨hc,c5⟩:=aU hc
  obtain⟨hc,c4⟩:=aU hc
  obtain⟨hc,c3⟩:=aU hc
  obtain⟨c1,c2⟩:=aU hc
  have c3:=apz c3
  subst c3
  obtain⟨u,z1,h1,h2,h3⟩:=bG s c1 hk
  obtain⟨v,z2,h4,h5,h6⟩:=bG s c2 h3
  obtain⟨r,M',nx',ρ',w',x,g1,g2,g3,g4,g5⟩:=akv (P:=P) (ty:=ty) h (jg c4) c5 h1 h4 h6
  refine⟨r,M',nx',ρ',w',g1,g2,g3,.inl ⟨x,g4,?_⟩⟩
  rw[fC,show[x',y'].toArray.map a.eval= #[z1,z2] by simp[h2,h5]]
  simp only[builtin]
  exact ce g5
 case del d et m k=>
  split at hc<;>first|(cases hc;done)|skip
  rename_i c
  obtain⟨callee,args,tas⟩:=c
  split at hc<;>first|(cases hc;done)|skip
  rename_i x' y' t t2 e1 e2 e3
  simp only at e1 e2 e3
  obtain rfl:=lN e2
  obtain rfl:=lN e3
  subst e1
  obtain⟨hc,c5⟩:=aU hc
  obtain⟨hc,c4⟩:=aU hc
  obtain⟨hc,c3⟩:=aU hc
  obtain⟨c1,c2⟩:=aU hc
  obtain⟨u,z1,h1,h2,h3⟩:=bG s c1 hk
  obtain⟨v,z2,h4,h5,h6⟩:=bG s c2 h3
  obtain⟨M',w',g1,g2,g3⟩:=akh (P:=P) (t2:=t2) (ty:=ty) h (Nat.le_of_ble_eq_true c3) (oT c4) c5 h1 h4 h6
  refine⟨.tup [],M',nx,ρ,w',Ren.Le.refl _,g1,g2,.inl ⟨.tuple #[],by simp[den,aS],?_⟩⟩
  rw[fC,show[x',y'].toArray.map a.eval= #[z1,z2] by simp[h2,h5]]
  simp only[builtin]
  exact ce g3
end
noncomputable def KI (v:AV):Nat:=AV.casesOn v 0 (fun _ _=>0) (fun _=>0) (fun _=>0) (fun _ _=>0) (fun _ _ _ _=>0) (fun _=>0) 1 2 3 4 5 (fun _ _=>0) (fun _ _=>0) (fun _=>0) (fun _=>0) (fun _=>0) (fun _=>0) (fun _=>0)
noncomputable def eqC (c d:ACap):Bool:=ACap.casesOn c (fun n=>ACap.casesOn d (fun m=>Nat.beq n m) (fun _=>false)) (fun n=>ACap.casesOn d (fun _=>false) (fun m=>Nat.beq n m))
noncomputable def apj (s:SY) (v:AV):Bool:=kI v fun s'=>aN (s=s')
noncomputable def uh (u v:AV):Bool:=AV.casesOn u false (fun k a=>jF v fun k2 b=>Bool.and (Nat.beq k k2) (xP a b)) (fun a=>Zt v fun b=>Bool.rec (Bool.not b) b a) (fun l=>qX v fun m=>Sw l m) (fun i o=>nz v fun j p=>Bool.and (Nat.beq i j) (Nat.beq o p))
 (fun i o n c=>ue v false fun j p m d=>Bool.and (Nat.beq i j) (Bool.and (Nat.beq o p) (Bool.and (Nat.beq n m) (eqC c d)))) (fun i=>zS v false fun j=>Nat.beq i j) (Nat.beq (KI v) 1) (Nat.beq (KI v) 2) (Nat.beq (KI v) 3) (Nat.beq (KI v) 4) (Nat.beq (KI v) 5) (fun _ _=>false) (fun _ _=>false) (fun _=>false) (fun _=>false) (fun _=>false) (fun _=>false) (fun s=>apj s v)
noncomputable def eqS (l m:List AV):Bool:=List.rec (motive:=fun _=>List AV→Bool) (fun m=>List.casesOn m true (fun _ _=>false)) (fun x _ ih m=>List.casesOn m false (fun y r=>Bool.and (uh x y) (ih r))) l m
noncomputable def acl (v:AV) (K:Nat→List AV→Bool):Bool:=AV.casesOn v false (fun _ _=>false) (fun _=>false) (fun _=>false) (fun _ _=>false) (fun _ _ _ _=>false) (fun _=>false) false false false false false (fun _ _=>false) (fun g c=>K g c) (fun _=>false) (fun _=>false) (fun _=>false) (fun _=>false) (fun _=>false)
theorem WD {v:AV} {K:Nat→List AV→Bool} (h:acl v K=true):∃g c,v= .fn g c∧K g c=true:=by
 cases v<;>first|(cases h;done)|exact⟨_,_,rfl,h⟩
noncomputable def eqA (u v:AV):Bool:=AV.casesOn u false (fun _ _=>uh u v) (fun _=>uh u v) (fun _=>uh u v) (fun _ _=>uh u v) (fun _ _ _ _=>uh u v) (fun _=>uh u v) (uh u v) (uh u v) (uh u v) (uh u v) (uh u v) (fun _ _=>false) (fun f c=>acl v fun g d=>Bool.and (Nat.beq f g) (eqS c d)) (fun _=>false) (fun l=>asAgg v fun m=>eqS l m) (fun _=>false) (fun _=>false) (fun _=>uh u v)
theorem aon {c d:ACap} (h:eqC c d=true):c=d:=by
 cases c<;>cases d<;>first|(cases h;done)|(have:=apz h;subst this;rfl)
theorem am7 {v:AV} {n:Nat} (h:Nat.beq (KI v) n=true):KI v=n:=apz h
theorem aek {u v:AV} (h:uh u v=true):u=v:=by
 cases u<;>first|(cases h;done)|skip
 case int k a=>
  obtain⟨k2,b,rfl,h1⟩:=iF h
  obtain⟨h2,h3⟩:=xZ h1
  rw[xO,decide_eq_true_eq]at h3
  rw[apz h2,h3]
 case bool a=>
  obtain⟨b,rfl,h1⟩:=Ns h
  cases a<;>cases b<;>first|rfl|cases h1
 case str l=>
  obtain⟨m,rfl,h1⟩:=jj h
  rw[By,decide_eq_true_eq]at h1
  rw[h1]
 case ptr i o=>
  obtain⟨j,p,rfl,h1⟩:=ie h
  obtain⟨h2,h3⟩:=xZ h1
  rw[apz h2,apz h3]
 case sl i o n c=>
  rcases jE h with⟨_,h1⟩|⟨j,p,m,d,rfl,h1⟩
  ·cases h1
  ·obtain⟨h2,h3⟩:=xZ h1
   obtain⟨h4,h5⟩:=xZ h3
   obtain⟨h6,h7⟩:=xZ h5
   rw[apz h2,apz h4,apz h6,aon h7]
 case map i=>
  rcases oZ h with⟨_,h1⟩|⟨j,rfl,h1⟩
  ·cases h1
  ·rw[apz h1]
 case sy s=>
  obtain⟨s',rfl,h1⟩:=eI (K:=fun s'=>aN (s=s')) h
  rw[prB_true.1 h1]
 all_goals
  have:=am7 h
  cases v<;>first|rfl|cases this
theorem Wl:∀{l m:List AV},eqS l m=true→l=m
 |[],[],_=>rfl
 |[],_::_,h=>by cases h
 |_::_,[],h=>by cases h
 |x::l,y::m,h=>by
  obtain⟨h1,h2⟩:=xZ (a:=uh x y) (b:=eqS l m) h
  rw[aek h1,Wl h2]
theorem aop {u v:AV} (h:eqA u v=true):u=v:=by
 cases u<;>first|(cases h;done)|exact aek (show uh _ v=true from h)|skip
 case agg l=>
  obtain⟨m,rfl,h1⟩:=fg h
  rw[Wl h1]
 case fn f c=>
  obtain⟨g,d,rfl,h1⟩:=WD h
  obtain⟨h2,h3⟩:=xZ h1
  rw[apz h2,Wl h3]
abbrev jt:=Nat→List AV→T→Nat→(AV→T→Nat→Bool)→Bool
inductive XSt
 |p (i:Nat) (d:Option Nat) (g:Option (Nat×Bool)) (x:XO)|r (i:Nat) (d:Option Nat) (g:Option (Nat×Bool)) (x:XO)|e (i:Nat) (d:Option Nat) (g:Option (Nat×Bool)) (x:XO)
 |c (i:Nat) (d:Option Nat) (g:Option (Nat×Bool)) (f:Nat) (xs:List XP)|a (i d:Nat) (g:Option (Nat×Bool)) (x:XO)|k (i:Nat) (d:Option Nat) (g:Option (Nat×Bool)) (t:Nat) (fs:List Nat) (xs:List XP)
noncomputable def iW (d:Option Nat) (v:AV) (S:SL) (K:SL→Bool):Bool:=Option.casesOn d (K S) fun d=>K (.cons d v S)
theorem kU (d:Option Nat) (v:AV) (S:SL) (K:SL→Bool):iW d v S K=K (anp d v S):=by cases d<;>rfl
noncomputable def Oc (t:Nat) (S:SL) (K:Bool→SL→Bool):Bool:=AV.casesOn (bz t S) false (fun _ _=>false) (fun b=>K b S) (fun _=>false) (fun _ _=>false) (fun _ _ _ _=>false) (fun _=>false) false false false false false (fun _ _=>false) (fun _ _=>false) (fun _=>false) (fun _=>false) (fun _=>false) (fun _=>false)
 fun s=>SY.casesOn s (fun _ _=>false) (fun p=>bn (aN p) (K true (.cons t (.bool true) S)) (K false (.cons t (.bool false) S))) (fun _=>false) (fun _ _ _ _ _=>false) (fun _ _ _=>false) (fun _ _=>false) (fun _ _ _ _ _ _=>false) (fun _ _ _ _=>false) (fun _ _ _=>false) (fun _=>false)
noncomputable def gd (w b:Bool):Bool:=Bool.rec (Bool.not w) w b
noncomputable def isU (v:AV):Bool:=AV.casesOn v false (fun _ _=>false) (fun _=>false) (fun _=>false) (fun _ _=>false) (fun _ _ _ _=>false) (fun _=>false) false false false false false (fun _ _=>false) (fun _ _=>false) (fun _=>false) (fun _=>false) (fun l=>List.casesOn l true fun _ _=>false) (fun _=>false) (fun _=>false)
theorem adI {v:AV} (h:isU v=true):v= .tup []:=by
 cases v<;>first|(cases h;done)|skip
 case tup l=>cases l<;>first|rfl|(cases h)
theorem mp (E:Env) (ρ:Ren):den E ρ (.tup [])=some undef:=by simp[den,aS,undef]
noncomputable def xH (g:Option (Nat×Bool)) (S:SL) (Kn Ky:SL→Bool):Bool:=Option.casesOn g (Ky S) fun p=>bn (isU (bz p.1 S)) (Kn S) (Oc p.1 S fun b S=>bn (gd p.2 b) (Ky S) (Kn S))
noncomputable def WF (l m:List AV):List AV:=List.rec m (fun x _ ih=>x::ih) l
theorem Zu:∀(l m:List AV),WF l m=l++m
 |[],_=>rfl
 |x::l,m=>congrArg (x:: ·) (Zu l m)
noncomputable def agi (n:Nat) (l:List Nat):Bool:=List.rec false (fun m _ ih=>Bool.rec ih true (Nat.beq n m)) l
theorem YW:∀{n:Nat} {l:List Nat},agi n l=true→n∈l
 |n,[],h=>by cases h
 |n,m::l,h=>by
  have h:(Bool.rec (agi n l) true (Nat.beq n m):Bool)=true:=h
  cases e:Nat.beq n m with
  |true=>rw[apz e];simp
  |false=>rw[e]at h;exact List.mem_cons_of_mem _ (YW h)
noncomputable def fnK (fs:List Nat) (v:AV) (K:Nat→List AV→Bool):Bool:=acl v fun g c=>aa (agi g fs) (K g c)
theorem aog {fs:List Nat} {v:AV} {K:Nat→List AV→Bool} (h:fnK fs v K=true):∃f c,f∈fs∧v= .fn f c∧K f c=true:=by
 obtain⟨g,c,h1,h2⟩:=WD h
 obtain⟨h3,h4⟩:=aj h2
 exact⟨g,c,YW h3,h1,h4⟩
theorem aen {E:Env} {ρ:Ren} {l m:List AV} {xs ys:List Value} (h1:aS E ρ l=some xs) (h2:aS E ρ m=some ys):aS E ρ (WF l m)=some (xs++ys):=by
 rw[Zu];exact eD h1 h2
noncomputable def ahW (cf:jt) (st:XSt) (S:SL) (M:T) (nx:Nat) (K:SL→T→Nat→Bool):Bool:=XSt.casesOn st
 (fun _ d g x=>xH g S (fun S=>iW d (.tup []) S fun S=>K S M nx) fun S=>opP x S fun v=>iW d v S fun S=>K S M nx)
 (fun _ d g x=>xH g S (fun S=>iW d (.tup []) S fun S=>K S M nx) fun S=>YL x S M fun v=>iW d v S fun S=>K S M nx)
 (fun _ d g x=>xH g S (fun S=>iW d (.tup []) S fun S=>K S M nx) fun S=>opE x S M nx fun v M nx=>iW d v S fun S=>K S M nx)
 (fun _ d g f xs=>xH g S (fun S=>iW d (.tup []) S fun S=>K S M nx) fun S=>Nk S xs fun vs=>cf f vs M nx fun v M nx=>iW d v S fun S=>K S M nx)
 (fun _ d g x=>xH g S (fun S=>aa (isU (bz d S)) (K S M nx)) fun S=>YL x S M fun v=>aa (eqA v (bz d S)) (K S M nx))
 (fun _ d g t fs xs=>xH g S (fun S=>iW d (.tup []) S fun S=>K S M nx) fun S=>fnK fs (bz t S) fun f c=>Nk S xs fun vs=>cf f (WF vs c) M nx fun v M nx=>iW d v S fun S=>K S M nx)
noncomputable def lS (cf:jt) (sts:List XSt):SL→T→Nat→(SL→T→Nat→Bool)→Bool:=List.rec (fun S M nx K=>K S M nx) (fun st _ ih S M nx K=>ahW cf st S M nx fun S M nx=>ih S M nx K) sts
def CB:XSt→Nat×Kd
 |.p i ..=>(i,.P)|.r i ..=>(i,.R)|.e i ..=>(i,.E)|.c i ..=>(i,.E)|.a i ..=>(i,.A)|.k i ..=>(i,.E)
def OJ (ops:Array Oper) (N:Nat) (g:Option (Nat×Bool)) (o:Oper):Bool:=match g,o.guard with
 |none,none=>true
 |some (t,b),some (k,c)=>decide (b=c)&&decide ((ops[k]?).bind (·.dst)=some t)&&Nat.blt t N
 |_,_=>false
def OK (N:Nat) (d:Option Nat) (o:Oper):Bool:=decide (o.dst=d)&&(match d with|some t=>Nat.blt t N|none=>true)
def VK (P:Program) (f:Nat) (xs:List XP):Op→Bool
 |.call {callee:=.value (.func f'),args:=args,argTypes:=_}=>Nat.beq f' f&&td xs args.toList&&decide (QQ P f=some (false,false))
 |_=>false
def Ow (P:Program) (t:Nat) (fs:List Nat) (xs:List XP):Op→Bool
 |.call {callee:=.value (.tmp t'),args:=args,argTypes:=_}=>Nat.beq t' t&&td xs args.toList&&fs.all fun f=>decide (QQ P f=some (false,false))
 |_=>false
theorem abV {P:Program} {t:Nat} {fs:List Nat} {xs:List XP} {op:Op} (h:Ow P t fs xs op=true):∃args ta,op= .call {callee:=.value (.tmp t),args:=args,argTypes:=ta}∧td xs args.toList=true∧∀f∈fs,QQ P f=some (false,false):=by
 unfold Ow at h
 split at h
 ·rename_i f' args ta
  simp only[apP,List.all_eq_true,decide_eq_true_eq]at h
  obtain⟨⟨h1,h2⟩,h3⟩:=h
  have h1:=apz h1
  subst h1
  exact⟨args,ta,rfl,h2,h3⟩
 ·cases h
theorem adJ {P:Program} {f:Nat} {xs:List XP} {op:Op} (h:VK P f xs op=true):∃args ta,op= .call {callee:=.value (.func f),args:=args,argTypes:=ta}∧td xs args.toList=true∧QQ P f=some (false,false):=by
 unfold VK at h
 split at h
 ·rename_i f' args ta
  simp only[apP,decide_eq_true_eq]at h
  obtain⟨⟨h1,h2⟩,h3⟩:=h
  have h1:=apz h1
  subst h1
  exact⟨args,ta,rfl,h2,h3⟩
 ·cases h
def uU (P:Program) (ops:Array Oper) (N:Nat):XSt→Bool
 |.p i d g x|.r i d g x|.e i d g x=>match ops[i]? with|some o=>OK N d o&&OJ ops N g o&&Ff P x o.op|none=>false
 |.c i d g f xs=>match ops[i]? with
  |some o=>OK N d o&&OJ ops N g o&&VK P f xs o.op
  |none=>false
 |.a i d g x=>match ops[i]? with|some o=>OK N (some d) o&&OJ ops N g o&&Ff P x o.op|none=>false
 |.k i d g t fs xs=>match ops[i]? with
  |some o=>OK N d o&&OJ ops N g o&&Ow P t fs xs o.op
  |none=>false
section
variable {P:Program} {E:Env} {ρ:Ren} {G:GS} {F:List bh} {M:T} {nx:Nat} {w:World} {N:Nat} {S:SL} {a:Act} {ops:Array Oper} {o:Oper}
theorem YD (s:SR E ρ N S a) {t:Nat} {K:Bool→SL→Bool} (h:Oc t S K=true):∃b S',a.tmps.getD t undef= .bool b∧SR E ρ N S' a∧K b S'=true:=by
 have put:∀b,a.tmps.getD t undef= .bool b→SR E ρ N (.cons t (.bool b) S) a:=fun b hb=>⟨s.size,s.defs,fun u=>by
  by_cases q:t=u
  ·subst q
   rw[gL]
   exact .inr ⟨.bool b,rfl,hb⟩
  ·rw[lv _ _ q]
   exact s.at_ u⟩
 unfold Oc at h
 rcases e:bz t S with _|⟨k,z⟩|⟨b⟩|⟨l⟩|⟨i,o⟩|⟨i,o,n,c⟩|⟨i⟩|_|_|_|_|_|⟨tt,v⟩|⟨f,c⟩|⟨i⟩|⟨l⟩|⟨l⟩|⟨i⟩|⟨sy⟩<;>rw[e]at h<;>first|(cases h;done)|skip
 ·rcases s.at_ t with q|⟨x,h1,h2⟩
  ·rw[e]at q;cases q
  ·rw[e]at h1
   cases h1
   exact⟨b,S,h2,s,h⟩
 ·cases sy<;>first|(cases h;done)|skip
  rename_i p
  rcases s.at_ t with q|⟨x,h1,h2⟩
  ·rw[e]at q;cases q
  ·rw[e]at h1
   cases h1
   rcases bi h with⟨q,g⟩|⟨q,g⟩
   ·rw[q]at h2
    exact⟨true,_,h2,put true h2,g⟩
   ·rw[q]at h2
    exact⟨false,_,h2,put false h2,g⟩
theorem rL (s:SR E ρ N S a) {g:Option (Nat×Bool)} {Kn Ky:SL→Bool} (hc:OJ ops N g o=true) (h:xH g S Kn Ky=true):
  ∃S',SR E ρ N S' a∧((Region.wanted o (yielded ops a.tmps)=true∧Ky S'=true)∨(Region.wanted o (yielded ops a.tmps)=false∧Kn S'=true)):=by
 unfold OJ at hc
 split at hc
 ·rename_i h1
  exact⟨S,s,.inl ⟨by simp[Region.wanted,h1],h⟩⟩
 ·rename_i t b k c h1
  simp only[apP,decide_eq_true_eq,apV]at hc
  obtain⟨⟨rfl,h2⟩,h3⟩:=hc
  have h:bn (isU (bz t S)) (Kn S) (Oc t S fun b' S=>bn (gd b b') (Ky S) (Kn S))=true:=h
  rcases bi h with⟨hu,h⟩|⟨_,h⟩
  ·have hu:=adI hu
   have hlt:t<a.tmps.size:=by rw[s.size];exact h3
   rcases s.at_ t with q|⟨x,q1,q2⟩
   ·rw[hu]at q;cases q
   ·rw[hu,mp]at q1
    cases q1
    have e:a.tmps[t]?=some undef:=by
     rw[Array.getElem?_eq_getElem hlt]
     simp only[Array.getD,hlt,dif_pos,Array.getInternal_eq_getElem]at q2
     rw[q2]
    have hy:yielded ops a.tmps k=none:=by simp[yielded,h2,e,undef]
    have hw:Region.wanted o (yielded ops a.tmps)=false:=by simp[Region.wanted,h1,hy]
    refine⟨S,s,?_⟩
    rw[hw]
    exact .inr ⟨rfl,h⟩
  obtain⟨v,S',h7,s',h5⟩:=YD (t:=t) (K:=fun b' S=>bn (gd b b') (Ky S) (Kn S)) s h
  have hlt:t<a.tmps.size:=by rw[s.size];exact h3
  have e:a.tmps[t]?=some (.bool v):=by
   rw[Array.getElem?_eq_getElem hlt]
   simp only[Array.getD,hlt,dif_pos,Array.getInternal_eq_getElem]at h7
   rw[h7]
  have hy:yielded ops a.tmps k=some v:=by simp[yielded,h2,e]
  have hw:Region.wanted o (yielded ops a.tmps)=(v==b):=by simp[Region.wanted,h1,hy]
  have hvb:(v==b)=gd b v:=by cases v<;>cases b<;>rfl
  refine⟨S',s',?_⟩
  rw[hw,hvb]
  rcases bi h5 with⟨q,g⟩|⟨q,g⟩
  ·exact .inl ⟨q,g⟩
  ·exact .inr ⟨q,g⟩
 ·cases hc
theorem acK {i:Nat} {z:Value} (hi:ops[i]?=some o) (hw:Region.wanted o (yielded ops a.tmps)=true) (hr:(execOp a.eval o).run P w= .ok (.value z) w):RV P ops i z a w:=by
 unfold RV op1 wpOp
 simp only[hi,hw,if_true]
 exact .inl (ah1 hr ⟨by rw[cD hi],rfl⟩)
theorem acJ {i:Nat} (hi:ops[i]?=some o) (hw:Region.wanted o (yielded ops a.tmps)=false):RV P ops i undef a w:=by
 unfold RV op1 wpOp
 simp only[hi,hw]
 constructor
 ·rw[cD hi]
 ·trivial
theorem UM {i:Nat} {K:Act→World→Prop} (hi:ops[i]?=some o) (hw:Region.wanted o (yielded ops a.tmps)=false) (k:K (a.put o.dst undef) w):op1 P ops i K a w:=by
 unfold op1 wpOp
 simp only[hi,hw]
 exact k
theorem Om {i:Nat} {K:Act→World→Prop} (hi:ops[i]?=some o) (hw:Region.wanted o (yielded ops a.tmps)=true) (k:o.wp P a w K Q0):op1 P ops i K a w:=by
 unfold op1 wpOp
 simp only[hi,hw,if_true]
 exact .inl k
theorem vu {d:Option Nat} (h:OK N d o=true):o.dst=d∧∀t,d=some t→t<N:=by
 unfold OK at h
 simp only[apP,decide_eq_true_eq]at h
 refine⟨h.1,fun t ht=> ?_⟩
 subst ht
 simpa[apV] using h.2
theorem agP {dst:Option Tmp} {ty:TypeId} {pos:String} {af:Array Edge} {g:Option (Nat×Bool)} {f:Nat} {args:Array Operand} {ta:Array TypeId} (hf:QQ P f=some (false,false)):
  (execOp a.eval ⟨dst,.call {callee:=.value (.func f),args:=args,argTypes:=ta},ty,pos,af,g⟩).run P w= .ok (.enter f (args.toList.map a.eval).toArray) w:=by
 simp[execOp,resolve,Act.eval,Deferred.ofValue,invoke]
 rw[DI hf]
 congr 2
 apply Array.ext'
 simp
theorem aep {dst:Option Tmp} {ty:TypeId} {pos:String} {af:Array Edge} {g:Option (Nat×Bool)} {t f:Nat} {args:Array Operand} {ta:Array TypeId} {cs:List Value} (hf:QQ P f=some (false,false)) (hv:a.tmps.getD t undef= .func (.func f) #[] cs.toArray):
  (execOp a.eval ⟨dst,.call {callee:=.value (.tmp t),args:=args,argTypes:=ta},ty,pos,af,g⟩).run P w= .ok (.enter f (args.toList.map a.eval++cs).toArray) w:=by
 have hv2:a.eval (.tmp t)= .func (.func f) #[] cs.toArray:=hv
 simp only[execOp,resolve,hv2]
 simp[Deferred.ofValue,invoke]
 rw[DI hf]
 congr 2
 apply Array.ext'
 simp
structure Ext (E:Env) (ρ:Ren) (E':Env) (ρ':Ren):Prop where
 env:Kx ρ E E'
 le:ρ.Le ρ'
 one:fV E'
theorem Ext.of (hE:fV E) {ρ ρ':Ren} (h:ρ.Le ρ'):Ext E ρ E ρ':=⟨⟨fun _ _ _=>rfl,MLe.refl _⟩,h,hE⟩
theorem Ext.trans {E1 E2 E3:Env} {r1 r2 r3:Ren} (h:Ext E1 r1 E2 r2) (k:Ext E2 r2 E3 r3):Ext E1 r1 E3 r3:=
 ⟨⟨fun i e hi=>(k.env.at_ i e (h.le i e hi)).trans (h.env.at_ i e hi),MLe.trans h.env.mem k.env.mem⟩,h.le.trans k.le,k.one⟩
theorem Ext.den {E':Env} {ρ':Ren} (x:Ext E ρ E' ρ') {v:AV} {z:Value} (h:den E ρ v=some z):den E' ρ' v=some z:=jh x.le v z (pj x.env v z h)
theorem SR.ext {E':Env} {ρ':Ren} (s:SR E ρ N S a) (x:Ext E ρ E' ρ'):SR E' ρ' N S a:=⟨s.size,s.defs,fun t=>(s.at_ t).imp id fun⟨y,h1,h2⟩=>⟨y,x.den h1,h2⟩⟩
def kT (P:Program) (cf:jt):Prop:=∀(f:Nat) (vs:List AV) (M:T) (nx:Nat) (K:AV→T→Nat→Bool) (E:Env) (ρ:Ren) (G:GS) (F:List bh) (w:World) (xs:List Value) (R:Ending→World→Prop),fV E→
 Sim E ρ G F M nx w→aS E ρ vs=some xs→cf f vs M nx K=true→(∀v M' nx' E' ρ' w' z,K v M' nx'=true→Ext E ρ E' ρ'→Sim E' ρ' G F M' nx' w'→den E' ρ' v=some z→R (.returned z) w')→Calls P f xs.toArray w R
theorem Ob {cf:jt} (hcf:kT P cf) {Q:Act→World→Prop}:∀{sts:List XSt} {S:SL} {M:T} {nx:Nat} {E:Env} {ρ:Ren} {a:Act} {w:World} {K:SL→T→Nat→Bool},fV E→(∀st∈sts,uU P ops N st=true)→SR E ρ N S a→Sim E ρ G F M nx w→lS cf sts S M nx K=true→
  (∀S' M' nx' E' ρ' a' w',K S' M' nx'=true→Ext E ρ E' ρ'→SR E' ρ' N S' a'→Sim E' ρ' G F M' nx' w'→Q a' w')→rm P ops Q (sts.map CB) a w
 |[],S,M,nx,E,ρ,a,w,K,hE,_,s,h,hk,hq=>hq _ _ _ _ _ _ _ hk (Ext.of hE (Ren.Le.refl _)) s h
 |st::sts,S,M,nx,E,ρ,a,w,K,hE,hc,s,h,hk,hq=>by
  have hst:=hc st (by simp)
  have hk':ahW cf st S M nx (fun S M nx=>lS cf sts S M nx K)=true:=hk
  have nextE:∀{S' M' nx' E' ρ' a' w'},lS cf sts S' M' nx' K=true→Ext E ρ E' ρ'→SR E' ρ' N S' a'→Sim E' ρ' G F M' nx' w'→rm P ops Q (sts.map CB) a' w':=fun r hl s' h'=>
   Ob hcf hl.one (fun st hst=>hc st (by simp[hst])) s' h' r fun S' M' nx' E2 ρ' a' w' k1 k2=>hq S' M' nx' E2 ρ' a' w' k1 (hl.trans k2)
  have next:∀{S' M' nx' ρ' a' w'},lS cf sts S' M' nx' K=true→ρ.Le ρ'→SR E ρ' N S' a'→Sim E ρ' G F M' nx' w'→rm P ops Q (sts.map CB) a' w':=fun r hl s' h'=>nextE r (Ext.of hE hl) s' h'
  cases st with
  |p i d g x=>
   simp only[uU]at hst
   split at hst
   case h_2=>cases hst
   rename_i o hi
   simp only[apP]at hst
   obtain⟨⟨c1,c2⟩,c3⟩:=hst
   obtain⟨d1,d2⟩:=vu c1
   obtain⟨S,s,hgd⟩:=rL (Kn:=fun S=>iW d (.tup []) S fun S=>lS cf sts S M nx K) (Ky:=fun S=>opP x S fun v=>iW d v S fun S=>lS cf sts S M nx K) s c2 hk'
   rcases hgd with⟨q1,q2⟩|⟨q1,q2⟩
   ·obtain⟨v,z,g1,g2,g3⟩:=ans hE s c3 q2
    rw[kU]at g2
    refine⟨z,fun w'=>acK hi q1 (g3 w'),?_⟩
    rw[cD hi,d1]
    exact next g2 (Ren.Le.refl _) (s.put d2 (.inr g1)) h
   ·rw[kU]at q2
    refine⟨undef,fun w'=>acJ hi q1,?_⟩
    rw[cD hi,d1]
    exact next q2 (Ren.Le.refl _) (s.put d2 (.inr (mp _ _))) h
  |r i d g x=>
   simp only[uU]at hst
   split at hst
   case h_2=>cases hst
   rename_i o hi
   simp only[apP]at hst
   obtain⟨⟨c1,c2⟩,c3⟩:=hst
   obtain⟨d1,d2⟩:=vu c1
   obtain⟨S,s,hgd⟩:=rL (Kn:=fun S=>iW d (.tup []) S fun S=>lS cf sts S M nx K) (Ky:=fun S=>YL x S M fun v=>iW d v S fun S=>lS cf sts S M nx K) s c2 hk'
   rcases hgd with⟨q1,q2⟩|⟨q1,q2⟩
   ·obtain⟨v,z,g1,g2,g3⟩:=adv h s c3 q2
    rw[kU]at g2
    refine⟨z,acK hi q1 g3,?_⟩
    rw[cD hi,d1]
    exact next g2 (Ren.Le.refl _) (s.put d2 (.inr g1)) h
   ·rw[kU]at q2
    refine⟨undef,acJ hi q1,?_⟩
    rw[cD hi,d1]
    exact next q2 (Ren.Le.refl _) (s.put d2 (.inr (mp _ _))) h
  |e i d g x=>
   simp only[uU]at hst
   split at hst
   case h_2=>cases hst
   rename_i o hi
   simp only[apP]at hst
   obtain⟨⟨c1,c2⟩,c3⟩:=hst
   obtain⟨d1,d2⟩:=vu c1
   obtain⟨S,s,hgd⟩:=rL (Kn:=fun S=>iW d (.tup []) S fun S=>lS cf sts S M nx K) (Ky:=fun S=>opE x S M nx fun v M nx=>iW d v S fun S=>lS cf sts S M nx K) s c2 hk'
   rcases hgd with⟨q1,q2⟩|⟨q1,q2⟩
   ·obtain⟨v,M',nx',ρ',w',g1,g2,g3,g4⟩:=ant hE h s c3 q2
    rw[kU]at g3
    refine Om hi q1 ?_
    rcases g4 with⟨z,g5,g6⟩|⟨g5,g6⟩
    ·refine ah1 g6 ?_
     rw[d1]
     exact next g3 g1 ((s.mono g1).put d2 (.inr g5)) g2
    ·refine anz g6 ?_
     rw[d1]
     exact next g3 g1 ((s.mono g1).put d2 (.inl g5)) g2
   ·rw[kU]at q2
    refine UM hi q1 ?_
    rw[d1]
    exact next q2 (Ren.Le.refl _) (s.put d2 (.inr (mp _ _))) h
  |k i d g t fs xs=>
   simp only[uU]at hst
   split at hst
   case h_2=>cases hst
   rename_i o hi
   simp only[apP]at hst
   obtain⟨⟨c1,c2⟩,c3⟩:=hst
   obtain⟨d1,d2⟩:=vu c1
   obtain⟨dst,op,ty,pos,af,gg⟩:=o
   obtain⟨args,ta,hop,c5,c6⟩:=abV c3
   dsimp only at hop
   subst hop
   obtain⟨S,s,hgd⟩:=rL (Kn:=fun S=>iW d (.tup []) S fun S=>lS cf sts S M nx K) (Ky:=fun S=>fnK fs (bz t S) fun f c=>Nk S xs fun vs=>cf f (WF vs c) M nx fun v M nx=>iW d v S fun S=>lS cf sts S M nx K) s c2 hk'
   rcases hgd with⟨q1,q2⟩|⟨q1,q2⟩
   ·obtain⟨f,c,hf,hu,q2⟩:=aog q2
    obtain⟨cs,hv,hcs⟩:∃cs,a.tmps.getD t undef= .func (.func f) #[] cs.toArray∧aS E ρ c=some cs:=by
     rcases s.at_ t with q|⟨x,y1,y2⟩
     ·rw[hu]at q;cases q
     ·rw[hu]at y1
      simp only[den]at y1
      rcases e:aS E ρ c with _|cs
      ·rw[e]at y1;cases y1
      ·rw[e]at y1
       simp only[apQ]at y1
       exact⟨cs,by rw[y2,←y1],rfl⟩
    obtain⟨vs,g1,g2,g3⟩:=Bw s c5 q2
    refine Om hi q1 (YM (aep (c6 f hf) hv) ?_)
    refine hcf _ (WF vs c) M nx _ E ρ G F w _ _ hE h (aen g1 hcs) g2 fun v M' nx' E' ρ' w' z k1 k2 k3 k4=>⟨z,rfl,?_⟩
    rw[kU]at k1
    simp only at d1
    rw[d1]
    exact nextE k1 k2 ((s.ext k2).put d2 (.inr k4)) k3
   ·rw[kU]at q2
    refine UM hi q1 ?_
    simp only at d1
    rw[d1]
    exact next q2 (Ren.Le.refl _) (s.put d2 (.inr (mp _ _))) h
  |c i d g f xs=>
   simp only[uU]at hst
   split at hst
   case h_2=>cases hst
   rename_i o hi
   simp only[apP]at hst
   obtain⟨⟨c1,c2⟩,c3⟩:=hst
   obtain⟨d1,d2⟩:=vu c1
   obtain⟨dst,op,ty,pos,af,gg⟩:=o
   obtain⟨args,ta,hop,c5,c6⟩:=adJ c3
   dsimp only at hop
   subst hop
   obtain⟨S,s,hgd⟩:=rL (Kn:=fun S=>iW d (.tup []) S fun S=>lS cf sts S M nx K) (Ky:=fun S=>Nk S xs fun vs=>cf f vs M nx fun v M nx=>iW d v S fun S=>lS cf sts S M nx K) s c2 hk'
   rcases hgd with⟨q1,q2⟩|⟨q1,q2⟩
   ·obtain⟨vs,g1,g2,g3⟩:=Bw s c5 q2
    refine Om hi q1 (YM (agP c6) ?_)
    refine hcf _ vs M nx _ E ρ G F w _ _ hE h g1 g2 fun v M' nx' E' ρ' w' z k1 k2 k3 k4=>⟨z,rfl,?_⟩
    rw[kU]at k1
    simp only at d1
    rw[d1]
    exact nextE k1 k2 ((s.ext k2).put d2 (.inr k4)) k3
   ·rw[kU]at q2
    refine UM hi q1 ?_
    simp only at d1
    rw[d1]
    exact next q2 (Ren.Le.refl _) (s.put d2 (.inr (mp _ _))) h
  |a i d g x=>
   simp only[uU]at hst
   split at hst
   case h_2=>cases hst
   rename_i o hi
   simp only[apP]at hst
   obtain⟨⟨c1,c2⟩,c3⟩:=hst
   obtain⟨d1,d2⟩:=vu c1
   obtain⟨S,s,hgd⟩:=rL (Kn:=fun S=>aa (isU (bz d S)) (lS cf sts S M nx K)) (Ky:=fun S=>YL x S M fun v=>aa (eqA v (bz d S)) (lS cf sts S M nx K)) s c2 hk'
   rcases hgd with⟨q1,q2⟩|⟨q1,q2⟩
   ·obtain⟨v,z,g1,g2,g3⟩:=adv h s c3 q2
    obtain⟨g4,g5⟩:=aj g2
    have g4:=aop g4
    refine⟨⟨z,acK hi q1 g3,?_⟩,next g5 (Ren.Le.refl _) s h⟩
    rw[cD hi,d1]
    have hz:a.tmps.getD d undef=z:=by
     rcases s.at_ d with e|⟨x',e1,e2⟩
     ·rw[g4,e]at g1;cases g1
     ·rw[←g4,g1]at e1
      cases e1
      exact e2
    exact put_self hz
   ·obtain⟨g4,g5⟩:=aj q2
    have g4:=adI g4
    refine⟨⟨undef,acJ hi q1,?_⟩,next g5 (Ren.Le.refl _) s h⟩
    rw[cD hi,d1]
    have hz:a.tmps.getD d undef=undef:=by
     rcases s.at_ d with e|⟨x',e1,e2⟩
     ·rw[g4]at e;cases e
     ·rw[g4,mp]at e1
      cases e1
      exact e2
    exact put_self hz
where
 put_self {a:Act} {d:Nat} {z:Value} (h:a.tmps.getD d undef=z):a.put (some d) z=a:=by
  simp only[Act.put]
  have:a.tmps.setIfInBounds d z=a.tmps:=by
   apply Array.ext_getElem?
   intro j
   by_cases q:d=j
   ·subst q
    rcases Nat.lt_or_ge d a.tmps.size with hl|hl
    ·rw[Array.getElem?_setIfInBounds_self_of_lt hl,Array.getElem?_eq_getElem hl]
     simp only[Array.getD,hl,dif_pos,Array.getInternal_eq_getElem]at h
     rw[h]
    ·rw[Array.getElem?_eq_none (by simpa using hl),Array.getElem?_eq_none hl]
   ·rw[Array.getElem?_setIfInBounds_ne q]
  rw[this]
inductive XTr|leaf (sts:List XSt)|split (x y:Nat) (s t:XTr)
def abe:XTr→Tr
 |.leaf sts=>.leaf (sts.map CB)
 |.split x y s t=>.split x y (abe s) (abe t)
def Nn (P:Program) (ops:Array Oper) (N:Nat):XTr→Bool
 |.leaf sts=>sts.all (uU P ops N)
 |.split _ _ s t=>Nn P ops N s&&Nn P ops N t
noncomputable def TR (cf:jt) (tr:XTr) (S:SL) (M:T) (nx:Nat) (K:SL→T→Nat→Bool):Bool:=XTr.rec (fun sts=>lS cf sts S M nx K) (fun _ _ _ _ p q=>aa p q) tr
theorem KG (hE:fV E) {cf:jt} (hcf:kT P cf) {Q:Act→World→Prop} {K:SL→T→Nat→Bool} (s:SR E ρ N S a) (h:Sim E ρ G F M nx w)
  (hq:∀S' M' nx' E' ρ' a' w',K S' M' nx'=true→Ext E ρ E' ρ'→SR E' ρ' N S' a'→Sim E' ρ' G F M' nx' w'→Q a' w'):∀{tr:XTr},Nn P ops N tr=true→TR cf tr S M nx K=true→Um P ops Q a w (abe tr)
 |.leaf sts,hc,hk=>Ob hcf hE (fun st hst=>List.all_eq_true.1 hc st hst) s h hk hq
 |.split x y t u,hc,hk=>by
  simp only[Nn,apP]at hc
  obtain⟨k1,k2⟩:=aj (b:=TR cf t S M nx K) (x:=TR cf u S M nx K) hk
  exact⟨KG hE hcf s h hq hc.1 k1,KG hE hcf s h hq hc.2 k2⟩
end
end Go.Sy
