/- Definitions and lemmas of the proof, without a condition of their own. -/
import Derived.Test.YtjhpjjbnojbikaaGreatM0
import Derived.MapKept
import Derived.Maps.RangeRun
open Bool renaming and_eq_true→akB
open Go.Result renaming andThen_ok→aku
open Go.Sem renaming run_bind→akv
open List renaming flatten_cons→akq,getElem?_map→akD,getElem?_take_of_lt→akA,length_append→akk,length_drop→akG,length_map→akm,length_take→aky,map_append→akw,mem_append→akx,mem_of_getElem?→akp,nil_append→aks
open Nat renaming blt_eq→akF,eq_of_beq_eq_true→ako,le_refl→akz
open Option renaming map_eq_some_iff→akt
open Option.some renaming inj→akE,injEq→akC
namespace Go.Sy
open Go Go.RowKit Go.Eng
noncomputable def xe:Nat→ET→AV→Bool→Bool:=
 Nat.rec (fun _ _ _=>false) (fun _ ih et v K=>ET.casesOn et
  (oB v fun _ _=>K) (acD v fun _=>K) (Et v fun _=>K)
  (fun fs=>asAgg v fun cs=>List.rec K (fun f _ r=>gY f.2.2.1 f.1 f.2.1 cs fun u=>ih f.2.2.2 u r) fs)
  (fun offs n agg e=>asAgg v fun cs=>List.rec K (fun o _ r=>gY agg o n cs fun u=>ih e u r) offs))
section
variable {P:Program} {E:Env} {ρ:Ren} {G:GS} {F:List bo} {M:T} {nx:Nat} {w:World}
theorem ye:∀(d:Nat) {et:ET} {v:AV} {K:Bool} {x:Value} {t:TypeId},di P d et t=true→den E ρ v=some x→xe d et v K=true→K=true∧∀(e:Bool) (n:Nat) (w:World),d≤n→(Instr.checkKey e n t x).run P w= .ok () w
 |0,et,v,K,x,t,hc,_,_=>by simp[di]at hc
 |d+1,et,v,K,x,t,hc,hx,hk=>by
  unfold di at hc
  split at hc
  ·rename_i kk hu
   obtain⟨k,a,rfl,g⟩:=iQ (K:=fun _ _=>K) hx hk
   refine⟨g,fun e n w hn=> ?_⟩
   obtain⟨n,rfl⟩:∃n',n=n'+1:=⟨n - 1,by omega⟩
   simp[Instr.checkKey,run_underlying hu]
  ·rename_i hu
   obtain⟨a,rfl,g⟩:=WH (K:=fun _=>K) hx hk
   refine⟨g,fun e n w hn=> ?_⟩
   obtain⟨n,rfl⟩:∃n',n=n'+1:=⟨n - 1,by omega⟩
   simp[Instr.checkKey,run_underlying hu]
  ·rename_i hu
   obtain⟨a,rfl,g⟩:=mG (K:=fun _=>K) hx hk
   refine⟨g,fun e n w hn=> ?_⟩
   obtain⟨n,rfl⟩:∃n',n=n'+1:=⟨n - 1,by omega⟩
   simp[Instr.checkKey,run_underlying hu]
  ·rename_i gs fs hu
   obtain⟨cs,rfl,g1⟩:=eK hk
   simp only[den]at hx
   split at hx
   case h_2=>cases hx
   rename_i xs hxs
   cases hx
   simp only[akB,Bool.not_eq_true']at hc
   have key:∀(l:List Field) (gs:List (Nat×Nat×Bool×ET)),eU (di P d) P l gs=true→(List.rec K (fun f _ r=>gY f.2.2.1 f.1 f.2.1 cs fun u=>xe d f.2.2.2 u r) gs:Bool)=true→K=true∧
     ∀(e:Bool) (n:Nat) (w:World),d≤n→∀f∈l,f.name≠ "_" ∧∃z,(part f.type xs.toArray f.offset).run P w= .ok z w∧(Instr.checkKey e n f.type z).run P w= .ok () w:=by
    intro l
    induction l with
    |nil=>
     intro gs hf hk
     cases gs with
     |nil=>exact⟨hk,fun _ _ _ _ f hf=>by simp at hf⟩
     |cons g gs=>simp[eU]at hf
    |cons f l ihl=>
     intro gs hf hk
     cases gs with
     |nil=>simp[eU]at hf
     |cons g gs=>
      simp only[eU,akB,decide_eq_true_eq]at hf
      obtain⟨⟨⟨⟨⟨f1,f2⟩,f3⟩,f4⟩,f5⟩,f6⟩:=hf
      have f1:f.name≠ "_" :=by simpa using f1
      have hk':gY g.2.2.1 g.1 g.2.1 cs (fun u=>xe d g.2.2.2 u (List.rec K (fun f _ r=>gY f.2.2.1 f.1 f.2.1 cs fun u=>xe d f.2.2.2 u r) gs))=true:=hk
      obtain⟨u,zu,u1,u2,u3⟩:=qm hxs hk' f4 f3
      obtain⟨k1,k2⟩:=ye d f5 u1 u2
      obtain⟨k3,k4⟩:=ihl gs f6 k1
      refine⟨k3,fun e n w hn f' hf'=> ?_⟩
      rcases List.mem_cons.1 hf' with rfl|hf'
      ·exact⟨f1,zu,by rw[f2];exact u3 w,k2 e n w hn⟩
      ·exact k4 e n w hn f' hf'
   obtain⟨k1,k2⟩:=key fs.toList gs hc.2 g1
   refine⟨k1,fun e n w hn=> ?_⟩
   obtain⟨n,rfl⟩:∃n',n=n'+1:=⟨n - 1,by omega⟩
   have k3:=k2 e n w (by omega)
   simp only[Instr.checkKey,akv,run_underlying hu,aku]
   rw[←Array.forIn_toList]
   generalize fs.toList=l at k3
   clear hu key k2 hc
   induction l with
   |nil=>simp
   |cons f l ihl=>
    obtain⟨q1,z,q2,q3⟩:=k3 f (by simp)
    have:=ihl fun g hg=>k3 g (by simp[hg])
    simp[q1,q2,q3]at this ⊢
    exact this
  ·rename_i offs n agg e len el hu
   obtain⟨cs,rfl,g1⟩:=eK hk
   simp only[den]at hx
   split at hx
   case h_2=>cases hx
   rename_i xs hxs
   cases hx
   simp only[akB,decide_eq_true_eq]at hc
   obtain⟨⟨⟨c1,c2⟩,c3⟩,c4⟩:=hc
   have key:∀(l:List Nat),(List.rec K (fun o _ r=>gY agg o n cs fun u=>xe d e u r) l:Bool)=true→K=true∧∀(b:Bool) (m:Nat) (w:World),d≤m→∀o∈l,∃z,(part el xs.toArray o).run P w= .ok z w∧(Instr.checkKey b m el z).run P w= .ok () w:=by
    intro l
    induction l with
    |nil=>intro hk;exact⟨hk,fun _ _ _ _ o ho=>by simp at ho⟩
    |cons o l ihl=>
     intro hk
     have hk':gY agg o n cs (fun u=>xe d e u (List.rec K (fun o _ r=>gY agg o n cs fun u=>xe d e u r) l))=true:=hk
     obtain⟨u,zu,u1,u2,u3⟩:=qm hxs hk' c2 c1
     obtain⟨k1,k2⟩:=ye d c4 u1 u2
     obtain⟨k3,k4⟩:=ihl k1
     refine⟨k3,fun b m w hm o' ho'=> ?_⟩
     rcases List.mem_cons.1 ho' with rfl|ho'
     ·exact⟨zu,u3 w,k2 b m w hm⟩
     ·exact k4 b m w hm o' ho'
   obtain⟨k1,k2⟩:=key offs g1
   refine⟨k1,fun b m w hm=> ?_⟩
   obtain⟨m,rfl⟩:∃n',m=n'+1:=⟨m - 1,by omega⟩
   have k3:=k2 b m w (by omega)
   simp only[Instr.checkKey,akv,run_underlying hu,aku]
   rw[Std.Legacy.Range.forIn_eq_forIn_range']
   simp only[Std.Legacy.Range.size,Nat.sub_zero,Nat.add_sub_cancel,Nat.div_one]
   rw[c3,List.range_eq_range']at k3
   generalize List.range' 0 len=l at k3 ⊢
   clear hu key c3 g1 k2
   induction l with
   |nil=>simp
   |cons i l ihl=>
    obtain⟨z,q2,q3⟩:=k3 (i*n) (by simp)
    have:=ihl fun g hg=>k3 g (by simp at hg ⊢;exact .inr hg)
    simp[Go.Eng.run_sizeOf c1,q2,q3]at this ⊢
    exact this
  ·cases hc
theorem HX {d:Nat} {et:ET} {k:AV} {x:Value} {kt:TypeId} (hd:d≤10000) (hc:di P d et kt=true) (hx:den E ρ k=some x) {es:List (AV×AV×Nat)} {ms:List MapEntry} {Kn:Bool} {Ks:Nat→AV×AV×Nat→Bool} (he:bL E ρ es=some ms) (hk:PA d et k es Kn Ks=true):
  (Kn=true∧∀w,(Instr.findKey kt x ms).run P w= .ok none w)∨(∃j e y,es[j]?=some e∧Ks j e=true∧den E ρ e.2.1=some y∧∀w,(Instr.findKey kt x ms).run P w= .ok (some (j,y)) w):=by
 obtain⟨dd,hu⟩:∃dd,P.underlying kt=some dd:=by
  cases d with
  |zero=>simp[di]at hc
  |succ d=>
   unfold di at hc
   rcases hq:P.underlying kt with _|dd
   ·rw[hq]at hc;cases et<;>simp at hc
   ·exact⟨dd,rfl⟩
 rcases SN hd hc hx (i:=0) he hk with⟨q1,q2⟩|⟨j,e,y,q1,q2,q3,q4⟩
 ·refine .inl ⟨q1,fun w=> ?_⟩
  rcases(q2 w).2 dd hu with q|q
  ·simp[Instr.findKey,run_underlying hu,q]
  ·simp[Instr.findKey,run_underlying hu,q,(q2 w).1]
 ·rw[Nat.zero_add]at q2
  refine .inr ⟨j,e,y,q1,q2,q3,fun w=> ?_⟩
  have:=q4 w
  rw[Nat.zero_add]at this
  rcases this.2 dd hu with q|q
  ·simp[Instr.findKey,run_underlying hu,q]
  ·simp[Instr.findKey,run_underlying hu,q,this.1]
theorem Sim.map (h:Sim E ρ G F M nx w) {i:Nat} {es:List (AV×AV×Nat)} {cl:Nat} (hi:M.get i=some (.map es cl)):∃e ms,ρ i=some e∧bL E ρ es=some ms∧w.heap[e.b]?=some (.map ms.toArray cl):=by
 obtain⟨e,ob,h1,h2,ms,h3,rfl⟩:=h.obj hi
 exact⟨e,ms,h1,h3,h2⟩
noncomputable def yG (M:T) (i:Nat) (K:Bool→Bool→Bool→(α:Type)→List α→(α→List PL)→(α→List PL)→Bool):Bool:=dh (M.get i) fun ob=>AObj.casesOn ob (fun _ _ _ _=>false) (fun _ _=>false) (fun _ _ _ _=>false) false (fun _ _ _ _ _=>false) K
theorem sn {M:T} {i:Nat} {K:Bool→Bool→Bool→(α:Type)→List α→(α→List PL)→(α→List PL)→Bool} (h:yG M i K=true):∃sure ak av α l k v,M.get i=some (.kmap sure ak av α l k v)∧K sure ak av α l k v=true:=by
 obtain⟨ob,h1,h2⟩:=bF h
 cases ob<;>first|exact⟨_,_,_,_,_,_,_,h1,h2⟩|cases h2
noncomputable def isK (M:T) (i:Nat):Bool:=Option.casesOn (M.get i) false fun ob=>AObj.casesOn ob (fun _ _ _ _=>false) (fun _ _=>false) (fun _ _ _ _=>false) false (fun _ _ _ _ _=>false) (fun _ _ _ _ _ _ _=>true)
noncomputable def acB (d:Nat) (et:ET) (key:AV) (ak:Bool) (α:Type) (l:List α) (k:α→List PL) (Q:α→Prop):Bool:=
 ah fun x:α=>br (aF (x∈l)) (ss d et key (dt ak (k x)) fun b=>br b (aF (Q x)) (aF (¬Q x))) true
theorem WG {d:Nat} {et:ET} {key:AV} {ak:Bool} {α:Type} {l:List α} {k:α→List PL} {Q:α→Prop} (h:acB d et key ak α l k Q=true):∀x∈l,ss d et key (dt ak (k x)) (fun b=>br b (aF (Q x)) (aF (¬Q x)))=true:=fun x hx=>by
 have h:=au h x
 rw[prB_true.2 hx]at h
 exact h
theorem SO {d:Nat} {et:ET} {key:AV} {x:Value} {kt:TypeId} (hd:d≤10000) (hc:di P d et kt=true) (hx:den E ρ key=some x) {α:Type} {ak av:Bool} {k v:α→List PL} {Q:α→Prop}:∀{l:List α} {es:List (AV×AV×Nat)} {ms:List MapEntry} {i:Nat},
  es.map (fun e=>(e.1,e.2.1))=l.map (fun x=>(dt ak (k x),dt av (v x)))→bL E ρ es=some ms→(∀y∈l,ss d et key (dt ak (k y)) (fun b=>br b (aF (Q y)) (aF (¬Q y)))=true)→
  ((∀y∈l,¬Q y)∧∀w,(Instr.findAsking kt x ms i).run P w= .ok none w∧∀dd,P.underlying kt=some dd→(Instr.findNow dd x ms i=some none∨(Instr.findNow dd x ms i=none)))∨
  (∃j y z,l[j]?=some y∧Q y∧den E ρ (dt av (v y))=some z∧∀w,(Instr.findAsking kt x ms i).run P w= .ok (some (i+j,z)) w∧∀dd,P.underlying kt=some dd→(Instr.findNow dd x ms i=some (some (i+j,z))∨Instr.findNow dd x ms i=none))
 |[],[],ms,i,_,he,_=>by
  simp[bL]at he
  subst he
  exact .inl ⟨fun y hy=>(by cases hy),fun w=>⟨by simp[Instr.findAsking],fun dd _=>.inl rfl⟩⟩
 |[],_::_,ms,i,h1,_,_=>by simp at h1
 |_::_,[],ms,i,h1,_,_=>by simp at h1
 |y::l,(k',v',b')::es,ms,i,hs,he,hq=>by
  simp only[List.map_cons,List.cons.injEq,Prod.mk.injEq]at hs
  obtain⟨⟨rfl,rfl⟩,hs⟩:=hs
  obtain⟨x',y',ms',h1,h2,h3,rfl⟩:=dG he
  obtain⟨b,b1,b2,hsn⟩:=DY d hc hx h1 (hq y List.mem_cons_self)
  have hr:∀w,(Op.equal kt x x').run P w= .ok b w:=fun w=>b2 10000 w hd
  rcases bk b1 with⟨rfl,b3⟩|⟨rfl,b3⟩
  ·refine .inr ⟨0,y,y',rfl,prB_true.1 b3,h2,fun w=>⟨by simp[Instr.findAsking,hr],fun dd hu=> ?_⟩⟩
   rcases hsn dd hu with q|q<;>simp[Instr.findNow,q]
  ·rcases SO hd hc hx (i:=i+1) hs h3 (fun z hz=>hq z (List.mem_cons_of_mem _ hz)) with⟨q1,q2⟩|⟨j,z,y2,q1,q2,q3,q4⟩
   ·refine .inl ⟨fun z hz=> ?_,fun w=>⟨by simp[Instr.findAsking,hr,(q2 w).1],fun dd hu=> ?_⟩⟩
    ·rcases List.mem_cons.1 hz with rfl|hz
     ·exact prB_true.1 b3
     ·exact q1 z hz
    rcases hsn dd hu with q|q
    ·simp only[Instr.findNow,q]
     exact(q2 w).2 dd hu
    ·exact .inr (by simp[Instr.findNow,q])
   ·refine .inr ⟨j+1,z,y2,by simpa using q1,q2,q3,fun w=>⟨by simp[Instr.findAsking,hr,(q4 w).1];omega,fun dd hu=> ?_⟩⟩
    rcases hsn dd hu with q|q
    ·simp only[Instr.findNow,q]
     have:=(q4 w).2 dd hu
     rw[show i+1+j=i+(j+1) by omega]at this
     exact this
    ·exact .inr (by simp[Instr.findNow,q])
theorem OK {d:Nat} {et:ET} {key:AV} {x:Value} {kt:TypeId} (hd:d≤10000) (hc:di P d et kt=true) (hx:den E ρ key=some x) {α:Type} {ak av:Bool} {k v:α→List PL} {Q:α→Prop} {l:List α} {es:List (AV×AV×Nat)} {ms:List MapEntry}
  (hs:es.map (fun e=>(e.1,e.2.1))=l.map (fun x=>(dt ak (k x),dt av (v x)))) (he:bL E ρ es=some ms) (hq:∀y∈l,ss d et key (dt ak (k y)) (fun b=>br b (aF (Q y)) (aF (¬Q y)))=true):
  ((∀y∈l,¬Q y)∧∀w,(Instr.findKey kt x ms).run P w= .ok none w)∨(∃j y z,l[j]?=some y∧Q y∧den E ρ (dt av (v y))=some z∧∀w,(Instr.findKey kt x ms).run P w= .ok (some (j,z)) w):=by
 obtain⟨dd,hu⟩:∃dd,P.underlying kt=some dd:=by
  cases d with
  |zero=>simp[di]at hc
  |succ d=>
   unfold di at hc
   rcases hq:P.underlying kt with _|dd
   ·rw[hq]at hc;cases et<;>simp at hc
   ·exact⟨dd,rfl⟩
 rcases SO hd hc hx (i:=0) hs he hq with⟨q1,q2⟩|⟨j,y,z,q1,q2,q3,q4⟩
 ·refine .inl ⟨q1,fun w=> ?_⟩
  rcases(q2 w).2 dd hu with q|q
  ·simp[Instr.findKey,run_underlying hu,q]
  ·simp[Instr.findKey,run_underlying hu,q,(q2 w).1]
 ·refine .inr ⟨j,y,z,q1,q2,q3,fun w=> ?_⟩
  have:=q4 w
  rw[Nat.zero_add]at this
  rcases this.2 dd hu with q|q
  ·simp[Instr.findKey,run_underlying hu,q]
  ·simp[Instr.findKey,run_underlying hu,q,this.1]
theorem Sim.kmap (h:Sim E ρ G F M nx w) {i:Nat} {ak av:Bool} {α:Type} {l:List α} {k v:α→List PL} (hi:M.get i=some (.kmap false ak av α l k v)) {x:Value} (hm:den E ρ (.sy (.kmp i))=some x):
  ∃e,ρ i=some e∧((x= .map (some e.b)∧∃es ms cl,es.map (fun e=>(e.1,e.2.1))=l.map (fun x=>(dt ak (k x),dt av (v x)))∧bL E ρ es=some ms∧w.heap[e.b]?=some (.map ms.toArray cl))∨(x= .map none∧l=[])):=by
 obtain⟨e,h1,q⟩:=h.objP hi
 simp only[den,bx,h1,akC]at hm
 refine⟨e,h1,?_⟩
 rcases q with⟨q1,ob,q2,es,cl,ms,h3,h4,rfl⟩|⟨q1,q2⟩
 ·refine .inl ⟨?_,es,ms,cl,h3,h4,q2⟩
  have q1:(false|| !Nat.beq e.cap 0)=true:=q1
  have q3:Nat.beq e.cap 0=false:=by simpa using q1
  rw[←hm,q3];rfl
 ·refine .inr ⟨?_,q2.2⟩
  have q1:(false|| !Nat.beq e.cap 0)=false:=q1
  have q3:Nat.beq e.cap 0=true:=by simpa using q1
  rw[←hm,q3];rfl
theorem Sim.kmapS (h:Sim E ρ G F M nx w) {i:Nat} {ak av:Bool} {α:Type} {l:List α} {k v:α→List PL} (hi:M.get i=some (.kmap true ak av α l k v)):∃e es ms cl,ρ i=some e∧es.map (fun e=>(e.1,e.2.1))=l.map (fun x=>(dt ak (k x),dt av (v x)))∧bL E ρ es=some ms∧w.heap[e.b]?=some (.map ms.toArray cl):=by
 obtain⟨e,ob,h1,h2,es,cl,ms,h3,h4,rfl⟩:=h.obj hi
 exact⟨e,es,ms,cl,h1,h3,h4,h2⟩
noncomputable def PF (v:AV) (K:Nat→Bool) (K0:Bool):Bool:=match v with
 |.sy (.kmp i)=>K i
 |_=>K0
theorem TJ {v:AV} {K:Nat→Bool} {K0:Bool} (h:PF v K K0=true):(∃i,v= .sy (.kmp i)∧K i=true)∨K0=true:=by
 unfold PF at h
 split at h
 ·exact .inl ⟨_,rfl,h⟩
 ·exact .inr h
noncomputable def lkK (d:Nat) (et:ET) (zv:AV) (comma:Bool) (k:AV) (ak av:Bool) (α:Type) (l:List α) (kf vf:α→List PL) (K:AV→Bool):Bool:=
 ax fun Q:α→Prop=>ac (acB d et k ak α l kf Q) (ac (br (aF (∀x∈l,¬Q x)) (br comma (K (.tup [zv,.bool false])) (K zv)) true) (ah fun x:α=>br (aF (x∈l∧Q x)) (br comma (K (.tup [dt av (vf x),.bool true])) (K (dt av (vf x)))) true))
noncomputable def lkX (d:Nat) (et:ET) (zv:AV) (comma:Bool) (m k:AV) (M:T) (K:AV→Bool):Bool:=
 xe d et k (PF m (fun i=>yG M i fun sure ak av α l kf vf=>br sure false (lkK d et zv comma k ak av α l kf vf K)) (wK m (br comma (K (.tup [zv,.bool false])) (K zv)) fun i=>br (isK M i) (yG M i fun sure ak av α l kf vf=>ac sure (lkK d et zv comma k ak av α l kf vf K)) (ry M i fun es _=>PA d et k es (br comma (K (.tup [zv,.bool false])) (K zv)) fun _ e=>br comma (K (.tup [e.2.1,.bool true])) (K e.2.1))))
theorem aiT (h:Sim E ρ G F M nx w) {d:Nat} {et:ET} {zv:AV} {zx:Value} {comma:Bool} {m k:AV} {K:AV→Bool} {x y:Value} {t kt e:TypeId} (hd:d≤10000) (ht:P.underlying t=some (.map kt e)) (hc:di P d et kt=true) (hz:∀w,(zeroValue e).run P w= .ok zx w) (hzv:den E ρ zv=some zx)
  (hm:den E ρ m=some x) (hk:den E ρ k=some y) (hg:lkX d et zv comma m k M K=true):∃u z,den E ρ u=some z∧K u=true∧(Instr.lookup t x y comma).run P w= .ok z w:=by
 obtain⟨g1,g2⟩:=ye d hc hk hg
 have none_:(br comma (K (.tup [zv,.bool false])) (K zv))=true→∃u z,den E ρ u=some z∧K u=true∧z=(if comma then .tuple #[zx,.bool false] else zx):=by
  intro hh
  rcases bk hh with⟨rfl,hh⟩|⟨rfl,hh⟩
  ·exact⟨_,_,by simp only[den,aO,hzv];rfl,hh,by simp⟩
  ·exact⟨_,_,hzv,hh,by simp⟩
 have nil_:(br comma (K (.tup [zv,.bool false])) (K zv))=true→x= .map none→∃u z,den E ρ u=some z∧K u=true∧(Instr.lookup t x y comma).run P w= .ok z w:=fun g3 e=>by
  subst e
  obtain⟨u,z,u1,u2,u3⟩:=none_ g3
  refine⟨u,z,u1,u2,?_⟩
  have hf:(Instr.findKey kt y []).run P w= .ok none w:=by
   obtain⟨dd,hu⟩:∃dd,P.underlying kt=some dd:=by
    cases d with
    |zero=>simp[di]at hc
    |succ d=>
     unfold di at hc
     rcases hq:P.underlying kt with _|dd
     ·rw[hq]at hc;cases et<;>simp at hc
     ·exact⟨dd,rfl⟩
   simp[Instr.findKey,run_underlying hu,Instr.findNow]
  subst u3
  cases comma<;>simp[Instr.lookup,run_underlying ht,g2 _ 10000 w hd,hf,hz]
 have made_:∀{ak av:Bool} {α:Type} {l:List α} {kf vf:α→List PL} {f:eD} {es:List (AV×AV×Nat)} {ms:List MapEntry} {cl:Nat},lkK d et zv comma k ak av α l kf vf K=true→x= .map (some f.b)→es.map (fun e=>(e.1,e.2.1))=l.map (fun x=>(dt ak (kf x),dt av (vf x)))→bL E ρ es=some ms→w.heap[f.b]?=some (.map ms.toArray cl)→∃u z,den E ρ u=some z∧K u=true∧(Instr.lookup t x y comma).run P w= .ok z w:=by
  intro ak av α l kf vf f es ms cl g4 ex fs f2 f3
  subst ex
  obtain⟨Q,g5⟩:=bJ g4
  obtain⟨g6,g7⟩:=aq g5
  obtain⟨g8,g9⟩:=aq g7
  rcases OK hd hc hk fs f2 (WG g6) with⟨q1,q2⟩|⟨j,e',y',q1,q2,q3,q4⟩
  ·rw[prB_true.2 q1]at g8
   obtain⟨u,z,u1,u2,u3⟩:=none_ g8
   refine⟨u,z,u1,u2,?_⟩
   subst u3
   cases comma<;>simp[Instr.lookup,run_underlying ht,MapKept.run_getObj_map f3,g2 _ 10000 w hd,q2,hz]
  ·have g10:=au g9 e'
   rw[prB_true.2 ⟨akp q1,q2⟩]at g10
   have g10:(br comma (K (.tup [dt av (vf e'),.bool true])) (K (dt av (vf e'))))=true:=g10
   rcases bk g10 with⟨rfl,q5⟩|⟨rfl,q5⟩
   ·exact⟨_,.tuple #[y',.bool true],by simp only[den,aO,q3],q5,by simp[Instr.lookup,run_underlying ht,MapKept.run_getObj_map f3,g2 _ 10000 w hd,q4]⟩
   ·exact⟨_,y',q3,q5,by simp[Instr.lookup,run_underlying ht,MapKept.run_getObj_map f3,g2 _ 10000 w hd,q4]⟩
 rcases TJ g1 with⟨i,rfl,g3⟩|g1
 ·obtain⟨sure,ak,av,α,l,kf,vf,hi,g4⟩:=sn g3
  rcases bk g4 with⟨_,g4⟩|⟨rfl,g4⟩
  ·cases g4
  obtain⟨f,f1,⟨ex,es,ms,cl,fs,f2,f3⟩|⟨e0,rfl⟩⟩:=h.kmap hi hm
  ·exact made_ g4 ex fs f2 f3
  ·obtain⟨Q,g5⟩:=bJ g4
   obtain⟨g6,g7⟩:=aq g5
   obtain⟨g8,g9⟩:=aq g7
   rw[prB_true.2 (fun z hz=>by cases hz)]at g8
   exact nil_ g8 e0
 rcases nC g1 with⟨rfl,g3⟩|⟨i,rfl,g3⟩
 ·cases hm
  obtain⟨u,z,u1,u2,u3⟩:=none_ g3
  refine⟨u,z,u1,u2,?_⟩
  have hf:(Instr.findKey kt y []).run P w= .ok none w:=by
   obtain⟨dd,hu⟩:∃dd,P.underlying kt=some dd:=by
    cases d with
    |zero=>simp[di]at hc
    |succ d=>
     unfold di at hc
     rcases hq:P.underlying kt with _|dd
     ·rw[hq]at hc;cases et<;>simp at hc
     ·exact⟨dd,rfl⟩
   simp[Instr.findKey,run_underlying hu,Instr.findNow]
  subst u3
  cases comma<;>simp[Instr.lookup,run_underlying ht,g2 _ 10000 w hd,hf,hz]
 ·rcases bk g3 with⟨_,g3⟩|⟨_,g3⟩
  ·obtain⟨sure,ak,av,α,l,kf,vf,hi,g4⟩:=sn g3
   obtain⟨hs,g4⟩:=aq g4
   subst hs
   obtain⟨f,es,ms,cl,f1,fs,f2,f3⟩:=h.kmapS hi
   simp only[den,f1,akC]at hm
   exact made_ g4 hm.symm fs f2 f3
  obtain⟨es,cl,hi,g4⟩:=jt g3
  obtain⟨f,ms,f1,f2,f3⟩:=h.map hi
  simp only[den,f1]at hm
  cases hm
  rcases HX hd hc hk f2 g4 with⟨q1,q2⟩|⟨j,e',y',q1,q2,q3,q4⟩
  ·obtain⟨u,z,u1,u2,u3⟩:=none_ q1
   refine⟨u,z,u1,u2,?_⟩
   subst u3
   cases comma<;>simp[Instr.lookup,run_underlying ht,MapKept.run_getObj_map f3,g2 _ 10000 w hd,q2,hz]
  ·rcases bk q2 with⟨rfl,q5⟩|⟨rfl,q5⟩
   ·exact⟨_,.tuple #[y',.bool true],by simp only[den,aO,q3],q5,by simp[Instr.lookup,run_underlying ht,MapKept.run_getObj_map f3,g2 _ 10000 w hd,q4]⟩
   ·exact⟨_,y',q3,q5,by simp[Instr.lookup,run_underlying ht,MapKept.run_getObj_map f3,g2 _ 10000 w hd,q4]⟩
end
noncomputable def PV (u v:AV):Bool:=AV.casesOn u false (fun k a=>jc v fun k2 b=>Bool.and (Nat.beq k k2) (vx a b)) (fun a=>WI v fun b=>Bool.rec (Bool.not b) b a) (fun l=>py v fun m=>OL l m) (fun i o=>pA v fun j p=>Bool.and (Nat.beq i j) (Nat.beq o p)) (fun _ _ _ _=>false) (fun _=>false) false false false false false (fun _ _=>false) (fun _ _=>false) (fun _=>false) (fun _=>false) (fun _=>false) (fun _=>false) (fun _=>false)
noncomputable def sbL (l m:List AV):Bool:=List.rec (motive:=fun _=>List AV→Bool) (fun m=>List.casesOn m true (fun _ _=>false)) (fun x _ ih m=>List.casesOn m false (fun y r=>Bool.and (PV x y) (ih r))) l m
noncomputable def sbX (u v:AV):Bool:=AV.casesOn u false (fun _ _=>PV u v) (fun _=>PV u v) (fun _=>PV u v) (fun _ _=>PV u v) (fun _ _ _ _=>false) (fun _=>false) false false false false false (fun _ _=>false) (fun _ _=>false) (fun _=>false) (fun l=>asAgg v fun m=>sbL l m) (fun _=>false) (fun _=>false) (fun _=>false)
noncomputable def ers {α:Type _} (l:List α):Nat→(List α→Bool)→Bool:=List.rec (fun _ _=>false) (fun x xs ih n K=>Nat.rec (K xs) (fun m _=>ih m fun r=>K (x::r)) n) l
theorem aak {α:Type _}:∀{l:List α} {n:Nat} {K:List α→Bool},ers l n K=true→K (l.eraseIdx n)=true∧n<l.length
 |[],n,K,h=>by cases h
 |x::l,0,K,h=>⟨h,by simp⟩
 |x::l,n+1,K,h=>by
  have h':ers l n (fun r=>K (x::r))=true:=h
  obtain⟨h1,h2⟩:=aak h'
  exact⟨by simpa using h1,by simp;omega⟩
section
variable {P:Program} {E:Env} {ρ:Ren} {G:GS} {F:List bo} {M:T} {nx:Nat} {w:World}
theorem vE {a b:Bool} (h:Bool.and a b=true):a=true∧b=true:=by
 have h':(a&&b)=true:=h
 simpa using h'
theorem BN {u v:AV} {x y:Value} (h:PV u v=true) (hx:den E ρ u=some x) (hy:den E ρ v=some y) (n:Nat):Instr.sameBits n x y=true:=by
 cases u<;>first|(cases h;done)|skip
 case int k a=>
  obtain⟨k2,b,rfl,h1⟩:=iR h
  obtain⟨h2,h3⟩:=vE h1
  have h2:=ako h2
  subst h2
  rw[vw,decide_eq_true_eq]at h3
  subst h3
  cases hx;cases hy
  unfold Instr.sameBits;simp
 case bool a=>
  obtain⟨b,rfl,h1⟩:=Ld h
  cases hx;cases hy
  unfold Instr.sameBits
  cases a<;>cases b<;>first|rfl|cases h1
 case str l=>
  obtain⟨m,rfl,h1⟩:=io h
  rw[yM,decide_eq_true_eq]at h1
  subst h1
  cases hx;cases hy
  unfold Instr.sameBits
  rw[beq_toListBytes];simp
 case ptr i o=>
  obtain⟨j,p,rfl,h1⟩:=iq h
  obtain⟨h2,h3⟩:=vE h1
  have h2:=ako h2
  have h3:=ako h3
  subst h2;subst h3
  rw[hx]at hy;cases hy
  simp only[den]at hx
  split at hx<;>cases hx
  unfold Instr.sameBits;simp
theorem Zk:∀{l m:List AV} {xs ys:List Value},sbL l m=true→aO E ρ l=some xs→aO E ρ m=some ys→∀n,xs.length=ys.length∧(xs.zip ys).all (fun p=>Instr.sameBits n p.1 p.2)=true
 |[],[],xs,ys,_,hx,hy,n=>by simp[aO]at hx hy;subst hx;subst hy;simp
 |[],b::m,xs,ys,h,hx,hy,n=>by cases h
 |a::l,[],xs,ys,h,hx,hy,n=>by cases h
 |a::l,b::m,xs,ys,h,hx,hy,n=>by
  obtain⟨x,xs,h1,h2,rfl⟩:=cA hx
  obtain⟨y,ys,h3,h4,rfl⟩:=cA hy
  obtain⟨h5,h6⟩:=vE (a:=PV a b) (b:=sbL l m) h
  obtain⟨h7,h8⟩:=Zk h6 h2 h4 n
  refine⟨by simp[h7],?_⟩
  simp only[List.zip_cons_cons,List.all_cons,akB]
  exact⟨BN h5 h1 h3 n,h8⟩
theorem ain {u v:AV} {x y:Value} (h:sbX u v=true) (hx:den E ρ u=some x) (hy:den E ρ v=some y):Instr.sameBits 10000 x y=true:=by
 cases u<;>first|(cases h;done)|skip
 case int k a=>exact BN (u:=.int k a) h hx hy 10000
 case bool a=>exact BN (u:=.bool a) h hx hy 10000
 case str a=>exact BN (u:=.str a) h hx hy 10000
 case ptr i o=>exact BN (u:=.ptr i o) h hx hy 10000
 case agg l=>
  obtain⟨m,rfl,h1⟩:=eK h
  simp only[den]at hx hy
  split at hx
  case h_2=>cases hx
  rename_i xs hxs
  split at hy
  case h_2=>cases hy
  rename_i ys hys
  cases hx;cases hy
  obtain⟨h2,h3⟩:=Zk h1 hxs hys 9999
  show Instr.sameBits (9999+1) (.agg xs.toArray) (.agg ys.toArray)=true
  unfold Instr.sameBits
  simp only[akB,beq_iff_eq]
  exact⟨by simpa using h2,by simpa using h3⟩
theorem IU:∀{es:List (AV×AV×Nat)} {ms:List MapEntry} {k v:AV} {b:Nat} {x y:Value},bL E ρ es=some ms→den E ρ k=some x→den E ρ v=some y→bL E ρ (es++[(k,v,b)])=some (ms++[⟨x,y,b⟩])
 |[],ms,k,v,b,x,y,h,h1,h2=>by simp[bL]at h;subst h;simp[bL,h1,h2]
 |(k',v',b')::es,ms,k,v,b,x,y,h,h1,h2=>by
  obtain⟨x',y',ms',q1,q2,q3,rfl⟩:=dG h
  have:=IU q3 h1 h2 (b:=b)
  simp[bL,q1,q2,this]
theorem Wu:∀{es:List (AV×AV×Nat)} {ms:List MapEntry} {i:Nat} {e:AV×AV×Nat},bL E ρ es=some ms→es[i]?=some e→∃x y,den E ρ e.1=some x∧den E ρ e.2.1=some y∧ms[i]?=some ⟨x,y,e.2.2⟩
 |[],ms,i,e,h,hi=>by simp at hi
 |(k',v',b')::es,ms,0,e,h,hi=>by
  obtain⟨x',y',ms',q1,q2,q3,rfl⟩:=dG h
  simp at hi;subst hi
  exact⟨x',y',q1,q2,rfl⟩
 |(k',v',b')::es,ms,i+1,e,h,hi=>by
  obtain⟨x',y',ms',q1,q2,q3,rfl⟩:=dG h
  obtain⟨x,y,h1,h2,h3⟩:=Wu q3 (show es[i]?=some e by simpa using hi)
  exact⟨x,y,h1,h2,by simpa using h3⟩
theorem IS:∀{es:List (AV×AV×Nat)} {ms:List MapEntry},bL E ρ es=some ms→ms.length=es.length
 |[],ms,h=>by simp[bL]at h;subst h;rfl
 |(k',v',b')::es,ms,h=>by
  obtain⟨x',y',ms',q1,q2,q3,rfl⟩:=dG h
  simp[IS q3]
theorem Tq:∀{es:List (AV×AV×Nat)} {ms:List MapEntry} {i:Nat} {k v:AV} {b:Nat} {x y:Value},bL E ρ es=some ms→den E ρ k=some x→den E ρ v=some y→bL E ρ (es.set i (k,v,b))=some (ms.set i ⟨x,y,b⟩)
 |[],ms,i,k,v,b,x,y,h,h1,h2=>by simp[bL]at h;subst h;simp[bL]
 |(k',v',b')::es,ms,0,k,v,b,x,y,h,h1,h2=>by
  obtain⟨x',y',ms',q1,q2,q3,rfl⟩:=dG h
  simp[bL,h1,h2,q3]
 |(k',v',b')::es,ms,i+1,k,v,b,x,y,h,h1,h2=>by
  obtain⟨x',y',ms',q1,q2,q3,rfl⟩:=dG h
  have:=Tq q3 h1 h2 (i:=i) (b:=b)
  simp[bL,q1,q2,this]
theorem La:∀{es:List (AV×AV×Nat)} {ms:List MapEntry} {i:Nat},bL E ρ es=some ms→bL E ρ (es.eraseIdx i)=some (ms.eraseIdx i)
 |[],ms,i,h=>by simp[bL]at h;subst h;simp[bL]
 |(k',v',b')::es,ms,0,h=>by
  obtain⟨x',y',ms',q1,q2,q3,rfl⟩:=dG h
  simpa using q3
 |(k',v',b')::es,ms,i+1,h=>by
  obtain⟨x',y',ms',q1,q2,q3,rfl⟩:=dG h
  have:=La q3 (i:=i)
  simp[bL,q1,q2,this]
theorem Sim.mapTurn (h:Sim E ρ G F M nx w) {i:Nat} {es es':List (AV×AV×Nat)} {cl cl':Nat} {e:eD} {ms':List MapEntry} {M':T} (hi:M.get i=some (.map es cl)) (he:ρ i=some e) (hd:bL E ρ es'=some ms') (h1:M'.get i=some (.map es' cl')) (h2:∀m,m≠i→M'.get m=M.get m):
  Sim E ρ G F M' nx {w with heap:=w.heap.setIfInBounds e.b (.map ms'.toArray cl')}:=by
 obtain⟨e',ms,q1,q2,q3⟩:=h.map hi
 rw[he]at q1;cases q1
 have hlt:=cg q3
 exact h.turn (o':=.map es' cl') (ob':=.map ms'.toArray cl') hi he rfl rfl rfl (fun b _ hb=>by
  have:¬e.b=b:=fun q=>hb q.symm
  simp[this]) (by simp[hlt]) ⟨ms',hd,rfl⟩ h1 h2
theorem Sim.kmapTurn (h:Sim E ρ G F M nx w) {i:Nat} {ak av:Bool} {α:Type} {l:List α} {kf vf:α→List PL} {y:α} {e:eD} {es:List (AV×AV×Nat)} {ms:List MapEntry} {x z:Value} {cl:Nat} {M':T} (hi:M.get i=some (.kmap true ak av α l kf vf)) (he:ρ i=some e)
  (hs:es.map (fun e=>(e.1,e.2.1))=l.map (fun x=>(dt ak (kf x),dt av (vf x)))) (hd:bL E ρ es=some ms) (h3:w.heap[e.b]?=some (.map ms.toArray cl)) (hk:den E ρ (dt ak (kf y))=some x) (hv:den E ρ (dt av (vf y))=some z)
  (h1:M'.get i=some (.kmap true ak av α (l++[y]) kf vf)) (h2:∀m,m≠i→M'.get m=M.get m):
  Sim E ρ G F M' nx {w with heap:=w.heap.setIfInBounds e.b (.map (ms++[(⟨x,z,cl⟩:MapEntry)]).toArray (cl+1))}:=by
 have hlt:=cg h3
 exact h.turn (o':=.kmap true ak av α (l++[y]) kf vf) (ob':=.map (ms++[(⟨x,z,cl⟩:MapEntry)]).toArray (cl+1)) hi he rfl rfl rfl (fun b _ hb=>by
  have:¬e.b=b:=fun q=>hb q.symm
  simp[this]) (by simp[hlt]) ⟨es++[(dt ak (kf y),dt av (vf y),cl)],cl+1,ms++[(⟨x,z,cl⟩:MapEntry)],by simp[hs],IU hd hk hv,rfl⟩ h1 h2
noncomputable def aiO (M:T) (nx:Nat) (K:AV→T→Nat→Bool):Bool:=T.set bI M nx (some (.map [] 0)) fun M'=>fN (Nat.succ nx) fun n=>K (.map nx) M' n
theorem aeU (h:Sim E ρ G F M nx w) {K:AV→T→Nat→Bool} (hk:aiO M nx K=true) {t:TypeId} {kt e:TypeId} (ht:P.underlying t=some (.map kt e)) {hint:Option Value} (hh:∀v,hint=some v→∃k n,v= .int k n):
  ∃v M' nx' ρ' w' x,ρ.Le ρ'∧Sim E ρ' G F M' nx' w'∧K v M' nx'=true∧den E ρ' v=some x∧(Instr.makeMap t hint).run P w= .ok x w':=by
 obtain⟨M',k1,k2,k3⟩:=T.set_ok _ _ _ _ _ hk
 rw[bW]at k1
 have hn:=h.fresh nx (akz _)
 refine⟨_,M',_,ρ.set nx ⟨w.heap.size,0⟩,w.alloc (.map #[] 0),Value.map (some w.heap.size),Ren.le_set _ hn,h.alloc (o:=.map [] 0) (ob:=.map #[] 0) hn (Nat.le_succ _) (Nat.lt_succ_self _) (cap:=0) ⟨[],rfl,rfl⟩ k2 k3,k1,by simp[den,Ren.set_self],?_⟩
 rcases hint with _|v
 ·simp[Instr.makeMap,newObj,Sem.run]
 ·obtain⟨k,n,rfl⟩:=hh v rfl
  simp[Instr.makeMap,run_underlying ht,asInt,asIntOf,newObj,Sem.run]
noncomputable def muX (d:Nat) (et:ET) (m k v:AV) (M:T) (K:T→Bool):Bool:=
 xe d et k (wK m false fun i=>br (isK M i) (yG M i fun sure ak av α l kf vf=>ac sure (ax fun Q:α→Prop=>ac (acB d et k ak α l kf Q) (ac (aF (∀x∈l,¬Q x)) (ax fun x:α=>ac (aF (dt ak (kf x)=k)) (ac (aF (dt av (vf x)=v)) (T.set bI M i (some (.kmap true ak av α (l++[x]) kf vf)) K)))))) (ry M i fun es cl=>PA d et k es
  (app es [(k,v,cl)] fun es'=>fN (Nat.succ cl) fun cl'=>T.set bI M i (some (.map es' cl')) K)
  fun j e=>ac (sbX e.1 k) (fm es j [(k,v,e.2.2)] fun es'=>T.set bI M i (some (.map es' cl)) K)))
theorem aiL (h:Sim E ρ G F M nx w) {d:Nat} {et:ET} {m k v:AV} {K:T→Bool} {x y z:Value} {t kt e:TypeId} (hd:d≤10000) (ht:P.underlying t=some (.map kt e)) (hc:di P d et kt=true) (hm:den E ρ m=some x) (hk:den E ρ k=some y) (hv:den E ρ v=some z)
  (hg:muX d et m k v M K=true):∃M' w',Sim E ρ G F M' nx w'∧K M'=true∧(Instr.mapUpdate t x y z).run P w= .ok () w':=by
 obtain⟨g1,g2⟩:=ye d hc hk hg
 rcases nC g1 with⟨_,g3⟩|⟨i,rfl,g3⟩
 ·cases g3
 rcases bk g3 with⟨_,g3⟩|⟨_,g3⟩
 ·obtain⟨sure,ak,av,α,l,kf,vf,hi,g4⟩:=sn g3
  obtain⟨hsu,g4⟩:=aq g4
  subst hsu
  obtain⟨Q,g5⟩:=bJ g4
  obtain⟨g6,g7⟩:=aq g5
  obtain⟨g8,g9⟩:=ae g7
  obtain⟨y0,g10⟩:=bJ g9
  obtain⟨g11,g12⟩:=ae g10
  obtain⟨g13,g14⟩:=ae g12
  obtain⟨f,es,ms,cl,f1,fs,f2,f3⟩:=h.kmapS hi
  simp only[den,f1]at hm
  cases hm
  obtain⟨M',k1,k2,k3⟩:=T.set_ok _ _ _ _ _ g14
  rcases OK hd hc hk fs f2 (WG g6) with⟨q1,q2⟩|⟨j,e',y',q1,q2,q3,q4⟩
  ·refine⟨M',_,h.kmapTurn hi f1 fs f2 f3 (by rw[g11];exact hk) (by rw[g13];exact hv) k2 k3,k1,?_⟩
   simp[Instr.mapUpdate,run_underlying ht,MapKept.run_getObj_map f3,g2 _ 10000 w hd,q2,MapKept.run_setObj_map _ f3]
  ·exact absurd q2 (g8 e' (akp q1))
 obtain⟨es,cl,hi,g4⟩:=jt g3
 obtain⟨f,ms,f1,f2,f3⟩:=h.map hi
 simp only[den,f1]at hm
 cases hm
 rcases HX hd hc hk f2 g4 with⟨q1,q2⟩|⟨j,e',y',q1,q2,q3,q4⟩
 ·rw[yQ,bW]at q1
  obtain⟨M',k1,k2,k3⟩:=T.set_ok _ _ _ _ _ q1
  refine⟨M',_,h.mapTurn hi f1 (IU f2 hk hv) k2 k3,k1,?_⟩
  simp[Instr.mapUpdate,run_underlying ht,MapKept.run_getObj_map f3,g2 _ 10000 w hd,q2,MapKept.run_setObj_map _ f3]
 ·obtain⟨hs,q5⟩:=aq q2
  obtain⟨q6,hle⟩:=du q5
  obtain⟨M',k1,k2,k3⟩:=T.set_ok _ _ _ _ _ q6
  obtain⟨xk,yv,r1,r2,r3⟩:=Wu f2 q1
  have hset:es.take j++[(k,v,e'.2.2)]++es.drop (j+[(k,v,e'.2.2)].length)=es.set j (k,v,e'.2.2):=by
   simp at hle
   rw[List.set_eq_take_append_cons_drop,if_pos (by omega)]
   simp
  rw[hset]at k2
  refine⟨M',_,h.mapTurn hi f1 (Tq (i:=j) f2 hk hv) k2 k3,k1,?_⟩
  have hm:(ms.toArray.modify j fun e=>{e with key:=y,val:=z})=(ms.set j ⟨y,z,e'.2.2⟩).toArray:=by
   apply Array.ext'
   simp only[Array.toList_modify,List.toList_toArray]
   refine List.ext_getElem? fun q=> ?_
   have hlt:=(List.getElem?_eq_some_iff.1 r3).1
   by_cases hq:j=q
   ·subst hq
    rw[List.getElem?_modify_eq,r3,List.getElem?_set_self hlt]
    rfl
   ·rw[List.getElem?_modify_ne _ _ hq,List.getElem?_set_ne hq]
  have hstay:(Instr.keyThatStays (((ms.toArray[j]?).map (·.key)).getD y) y).run P w= .ok y w:=by
   simp[r3,Instr.keyThatStays,ain hs r1 hk]
  simp only[Instr.mapUpdate,akv,run_underlying ht,aku,MapKept.run_getObj_map f3,g2 _ 10000 w hd,q4,hstay,MapKept.run_setObj_map _ f3]
  rw[hm]
noncomputable def ajl (d:Nat) (et:ET) (m k:AV) (M:T) (K:T→Bool):Bool:=
 xe d et k (wK m (K M) fun i=>ry M i fun es cl=>PA d et k es (T.set bI M i (some (.map es cl)) K) fun j _=>ers es j fun es'=>T.set bI M i (some (.map es' cl)) K)
theorem afF (h:Sim E ρ G F M nx w) {d:Nat} {et:ET} {m k:AV} {K:T→Bool} {x y:Value} {t t2 kt e ty:TypeId} (hd:d≤10000) (ht:P.underlying t=some (.map kt e)) (hc:di P d et kt=true) (hm:den E ρ m=some x) (hk:den E ρ k=some y)
  (hg:ajl d et m k M K=true):∃M' w',Sim E ρ G F M' nx w'∧K M'=true∧(Builtin.delete_ #[t,t2] ty #[x,y]).run P w= .ok (.tuple #[]) w':=by
 obtain⟨g1,g2⟩:=ye d hc hk hg
 rcases nC g1 with⟨rfl,g3⟩|⟨i,rfl,g3⟩
 ·cases hm
  exact⟨M,w,h,g3,by simp[Builtin.delete_,run_underlying ht,g2 _ 10000 w hd]⟩
 obtain⟨es,cl,hi,g4⟩:=jt g3
 obtain⟨f,ms,f1,f2,f3⟩:=h.map hi
 simp only[den,f1]at hm
 cases hm
 rcases HX hd hc hk f2 g4 with⟨q1,q2⟩|⟨j,e',y',q1,q2,q3,q4⟩
 ·obtain⟨M',k1,k2,k3⟩:=T.set_ok _ _ _ _ _ q1
  exact⟨M',_,h.mapTurn hi f1 f2 k2 k3,k1,by simp[Builtin.delete_,run_underlying ht,MapKept.run_getObj_map f3,g2 _ 10000 w hd,q2,MapKept.run_setObj_map _ f3]⟩
 ·obtain⟨q5,hlt⟩:=aak q2
  obtain⟨M',k1,k2,k3⟩:=T.set_ok _ _ _ _ _ q5
  refine⟨M',_,h.mapTurn hi f1 (La (i:=j) f2) k2 k3,k1,?_⟩
  have hm:ms.toArray.eraseIdxIfInBounds j=(ms.eraseIdx j).toArray:=by
   have hl:=IS f2
   rw[Array.eraseIdxIfInBounds,dif_pos (by simp;omega)]
   simp
  simp[Builtin.delete_,run_underlying ht,MapKept.run_getObj_map f3,g2 _ 10000 w hd,q4,MapKept.run_setObj_map _ f3,hm]
end
end Go.Sy
namespace Go.Sy
open Go Go.RowKit Go.Eng
open Go.ChangeMaps (setBlock)
section
variable {P:Program} {E:Env} {ρ:Ren} {G:GS} {F:List bo} {M:T} {nx:Nat} {w:World}
noncomputable def ac6 (v:AV) (K:AV→Bool):Bool:=py v fun l=>fN (dN l) fun n=>K (.int 0 (.ofNat n))
theorem abt {v:AV} {K:AV→Bool} {x:Value} {t ty:TypeId} (ht:P.underlying t=some .string) (hv:den E ρ v=some x) (hk:ac6 v K=true):∃u z,den E ρ u=some z∧K u=true∧∀(cs:Array Bool) w,(builtin .len #[t] ty cs #[x]).run P w= .ok (.value z) w:=by
 obtain⟨l,rfl,k1⟩:=io hk
 rw[bW,cF]at k1
 cases hv
 refine⟨_,_,rfl,k1,fun cs w=> ?_⟩
 have h1:ByteArray.size ⟨(l.map UInt8.ofNat).toArray⟩=l.length:=by simp[ByteArray.size]
 simp[builtin,Builtin.len_,h1,goInt,run_underlying ht,dv]
noncomputable def aiW (v:AV) (K:AV→Bool):Bool:=vF v (K (.int 0 (.ofNat 0))) fun _ _ n _=>K (.int 0 (.ofNat n))
theorem afh {v:AV} {K:AV→Bool} {x:Value} {t ty e:TypeId} (ht:P.underlying t=some (.slice e)) (hv:den E ρ v=some x) (hk:aiW v K=true):∃u z,den E ρ u=some z∧K u=true∧∀(cs:Array Bool) w,(builtin .len #[t] ty cs #[x]).run P w= .ok (.value z) w:=by
 rcases jX hk with⟨rfl,k1⟩|⟨i,o,n,c,rfl,k1⟩
 ·cases hv
  exact⟨_,_,rfl,k1,fun cs w=>by simp[builtin,Builtin.len_,goInt,run_underlying ht,dv]⟩
 ·simp only[den]at hv
  split at hv
  ·cases hv
   exact⟨_,_,rfl,k1,fun cs w=>by simp[builtin,Builtin.len_,goInt,run_underlying ht,dv]⟩
  ·cases hv
noncomputable def ada (v:AV) (M:T) (K:AV→Bool):Bool:=wK v (K (.int 0 (.ofNat 0))) fun i=>ry M i fun es _=>fN (dN es) fun n=>K (.int 0 (.ofNat n))
theorem abT (h:Sim E ρ G F M nx w) {v:AV} {K:AV→Bool} {x:Value} {t ty kt e:TypeId} (ht:P.underlying t=some (.map kt e)) (hv:den E ρ v=some x) (hk:ada v M K=true):∃u z,den E ρ u=some z∧K u=true∧∀cs:Array Bool,(builtin .len #[t] ty cs #[x]).run P w= .ok (.value z) w:=by
 rcases nC hk with⟨rfl,k1⟩|⟨i,rfl,k1⟩
 ·cases hv
  exact⟨_,_,rfl,k1,fun cs=>by simp[builtin,Builtin.len_,goInt,run_underlying ht,dv]⟩
 ·obtain⟨es,cl,hi,k2⟩:=jt k1
  rw[bW,cF]at k2
  obtain⟨f,ms,f1,f2,f3⟩:=h.map hi
  simp only[den,f1]at hv
  cases hv
  refine⟨_,_,rfl,k2,fun cs=> ?_⟩
  have:=IS f2
  simp[builtin,Builtin.len_,goInt,run_underlying ht,dv,MapKept.run_getObj_map f3,this]
noncomputable def mxX (mx:Bool) (v1 v2:AV) (K:AV→Bool):Bool:=jc v1 fun k a=>jc v2 fun k2 b=>ac (Nat.beq k k2) (br (vh a b) (br mx (K v2) (K v1)) (br mx (K v1) (K v2)))
theorem aiK {mx:Bool} {v1 v2:AV} {K:AV→Bool} {x y:Value} {ta:Array TypeId} {ty:TypeId} (h1:den E ρ v1=some x) (h2:den E ρ v2=some y) (hk:mxX mx v1 v2 K=true):
  ∃u z,den E ρ u=some z∧K u=true∧∀(cs:Array Bool) w,(builtin (bif mx then .max else .min) ta ty cs #[x,y]).run P w= .ok (.value z) w:=by
 obtain⟨k,a,b,rfl,rfl,g⟩:=oR (f:=fun k a b=>br (vh a b) (br mx (K v2) (K v1)) (br mx (K v1) (K v2))) hk
 cases h1;cases h2
 rw[yF]at g
 rcases bk g with⟨q,g⟩|⟨q,g⟩
 ·have q:a<b:=of_decide_eq_true q
  rcases bk g with⟨rfl,g⟩|⟨rfl,g⟩
  ·exact⟨_,_,rfl,g,fun cs w=>by simp[builtin,Builtin.max_,Builtin.max2,q]⟩
  ·exact⟨_,_,rfl,g,fun cs w=>by
    have:¬b<a:=by omega
    simp[builtin,Builtin.min_,Builtin.min2,this]⟩
 ·have q:¬a<b:=of_decide_eq_false q
  rcases bk g with⟨rfl,g⟩|⟨rfl,g⟩
  ·exact⟨_,_,rfl,g,fun cs w=>by simp[builtin,Builtin.max_,Builtin.max2,q]⟩
  ·refine⟨_,_,rfl,g,fun cs w=> ?_⟩
   by_cases e:b<a
   ·simp[builtin,Builtin.min_,Builtin.min2,e]
   ·have:a=b:=by omega
    subst this
    simp[builtin,Builtin.min_,Builtin.min2]
noncomputable def aje (i:Nat) (v:AV) (K:AV→Bool):Bool:=adl v fun l=>dh (dV l i) K
theorem afC {i:Nat} {v:AV} {K:AV→Bool} {x:Value} (hv:den E ρ v=some x) (hk:aje i v K=true):∃u z,den E ρ u=some z∧K u=true∧∀w,(Instr.extract x i).run P w= .ok z w:=by
 obtain⟨l,rfl,k1⟩:=acC hk
 obtain⟨u,hu,k2⟩:=bF k1
 rw[eF]at hu
 simp only[den]at hv
 split at hv
 ·rename_i xs hd
  cases hv
  obtain⟨z,h1,h2⟩:=oz hd hu
  exact⟨u,z,h1,k2,fun w=>by simp[Instr.extract,h2]⟩
 ·cases hv
noncomputable def aii (v iv:AV) (K:AV→Bool):Bool:=py v fun l=>Fy iv fun _ n=>dh (dV l n) fun c=>ac (Nat.blt c 256) (K (.int 1 (.ofNat c)))
theorem aez {v iv:AV} {K:AV→Bool} {x y:Value} {t:TypeId} (ht:P.underlying t=some .string) (hv:den E ρ v=some x) (hi:den E ρ iv=some y) (hk:aii v iv K=true):∃u z,den E ρ u=some z∧K u=true∧∀w,(Instr.index t x y).run P w= .ok z w:=by
 obtain⟨l,rfl,k1⟩:=io hk
 obtain⟨kd,n,rfl,k2⟩:=vG k1
 obtain⟨c,hc,k3⟩:=bF k2
 obtain⟨hb,k4⟩:=aq k3
 rw[akF]at hb
 rw[eF]at hc
 cases hv;cases hi
 refine⟨_,_,rfl,k4,fun w=> ?_⟩
 have hlt:=(List.getElem?_eq_some_iff.1 hc).1
 have hg:(ByteArray.data ⟨(l.map UInt8.ofNat).toArray⟩)[n]?=some (UInt8.ofNat c):=by simp[hc]
 have h1:ByteArray.size ⟨(l.map UInt8.ofNat).toArray⟩=l.length:=by simp[ByteArray.size]
 have hx:l[n]'hlt=c:=(List.getElem?_eq_some_iff.1 hc).2
 simp[Instr.index,run_underlying ht,asIntOf,h1,hlt,dv]
 show(((((l.map UInt8.ofNat).toArray)[n]'(by simp;omega)).toNat:Nat):Int)=c
 simp[hx]
 omega
noncomputable def itX (mi:Option Nat) (cl:Nat) (M:T) (nx:Nat) (K:AV→T→Nat→Bool):Bool:=T.set bI M nx (some (.iter mi cl [] cl)) fun M'=>fN (Nat.succ nx) fun n=>K (.ptr nx 0) M' n
noncomputable def aio (m:AV) (M:T) (nx:Nat) (K:AV→T→Nat→Bool):Bool:=wK m (itX none 0 M nx K) fun i=>ry M i fun _ cl=>itX (some i) cl M nx K
theorem aeD (h:Sim E ρ G F M nx w) {m:AV} {K:AV→T→Nat→Bool} {x:Value} {t kt e:TypeId} (ht:P.underlying t=some (.map kt e)) (hm:den E ρ m=some x) (hk:aio m M nx K=true):
  ∃v M' nx' ρ' w' z,ρ.Le ρ'∧Sim E ρ' G F M' nx' w'∧K v M' nx'=true∧den E ρ' v=some z∧(Instr.range t x).run P w= .ok z w':=by
 have hn:=h.fresh nx (akz _)
 rcases nC hk with⟨rfl,g⟩|⟨i,rfl,g⟩
 ·cases hm
  obtain⟨M',k1,k2,k3⟩:=T.set_ok _ _ _ _ _ g
  rw[bW]at k1
  exact⟨_,M',_,ρ.set nx ⟨w.heap.size,0⟩,w.alloc (.mapIter none 0 #[] 0),.pointer (some ⟨w.heap.size,0,none⟩),Ren.le_set _ hn,h.alloc (o:=.iter none 0 [] 0) (ob:=.mapIter none 0 #[] 0) hn (Nat.le_succ _) (Nat.lt_succ_self _) (cap:=0) ⟨none,rfl,rfl⟩ k2 k3,k1,by simp[den,Ren.set_self],run_range_nilMap w t kt e ht⟩
 ·obtain⟨es,cl,hi,g2⟩:=jt g
  obtain⟨f,ms,f1,f2,f3⟩:=h.map hi
  simp only[den,f1]at hm
  cases hm
  obtain⟨M',k1,k2,k3⟩:=T.set_ok _ _ _ _ _ g2
  rw[bW]at k1
  have hne:i≠nx:=fun q=>by rw[q,hn]at f1;cases f1
  exact⟨_,M',_,ρ.set nx ⟨w.heap.size,0⟩,w.alloc (.mapIter (some f.b) cl #[] cl),.pointer (some ⟨w.heap.size,0,none⟩),Ren.le_set _ hn,h.alloc (o:=.iter (some i) cl [] cl) (ob:=.mapIter (some f.b) cl #[] cl) hn (Nat.le_succ _) (Nat.lt_succ_self _) (cap:=0) ⟨some f.b,⟨f,f1,rfl⟩,rfl⟩ k2 k3,k1,by simp[den,Ren.set_self],run_range_map w t kt e f.b _ cl ht f3⟩
noncomputable def HV (n:Nat) (l:List Nat):Bool:=List.rec false (fun x _ ih=>Bool.rec ih true (Nat.beq x n)) l
theorem LX (n:Nat):∀l,HV n l=l.contains n
 |[]=>rfl
 |x::l=>by
  have:HV n (x::l)=Bool.rec (motive:=fun _=>Bool) (HV n l) true (Nat.beq x n):=rfl
  rw[this,LX n l]
  by_cases h:x=n
  ·subst h;simp
  ·have hb:Nat.beq x n=false:=by
    cases e:Nat.beq x n with
    |false=>rfl
    |true=>exact absurd (ako e) h
   simp[hb,Ne.symm h]
noncomputable def Yt (since:Nat) (es:List (AV×AV×Nat)):Bool:=List.rec true (fun e _ ih=>Bool.rec false ih (Nat.blt e.2.2 since)) es
theorem TC {since:Nat}:∀{es:List (AV×AV×Nat)} {ms:List MapEntry},Yt since es=true→bL E ρ es=some ms→∀x∈ms,x.born<since
 |[],ms,_,h=>by simp[bL]at h;subst h;simp
 |(k,v,b)::es,ms,hb,h=>by
  obtain⟨x,y,ms',h1,h2,h3,rfl⟩:=dG h
  have hb':Bool.rec (motive:=fun _=>Bool) false (Yt since es) (Nat.blt b since)=true:=hb
  have hv:Nat.blt b since=true:=by
   cases q:Nat.blt b since with
   |true=>rfl
   |false=>rw[q]at hb';cases hb'
  rw[hv]at hb'
  rw[akF]at hv
  intro z hz
  rcases List.mem_cons.1 hz with rfl|hz
  ·exact hv
  ·exact TC hb' h3 z hz
noncomputable def PD (seen:List Nat) (es:List (AV×AV×Nat)) (K:AV×AV×Nat→Bool):Bool:=List.rec true (fun e _ ih=>br (HV e.2.2 seen) ih (ac (K e) ih)) es
noncomputable def Eu (seen:List Nat) (es:List (AV×AV×Nat)):Bool:=List.rec false (fun e _ ih=>br (HV e.2.2 seen) ih true) es
theorem IW {seen:List Nat} {K:AV×AV×Nat→Bool}:∀{es:List (AV×AV×Nat)} {ms:List MapEntry},PD seen es K=true→bL E ρ es=some ms→∀x∈ms,seen.contains x.born=false→∃e,K e=true∧e∈es∧den E ρ e.1=some x.key∧den E ρ e.2.1=some x.val∧e.2.2=x.born
 |[],ms,_,h=>by simp[bL]at h;subst h;simp
 |(k,v,b)::es,ms,hc,h=>by
  obtain⟨x,y,ms',h1,h2,h3,rfl⟩:=dG h
  have hc':br (HV b seen) (PD seen es K) (ac (K (k,v,b)) (PD seen es K))=true:=hc
  intro z hz hs
  rcases bk hc' with⟨q,hc'⟩|⟨q,hc'⟩
  ·rcases List.mem_cons.1 hz with rfl|hz
   ·rw[LX]at q
    rw[q]at hs;cases hs
   ·obtain⟨e,e1,e2,e3⟩:=IW hc' h3 z hz hs
    exact⟨e,e1,by simp[e2],e3⟩
  ·obtain⟨q1,q2⟩:=aq hc'
   rcases List.mem_cons.1 hz with rfl|hz
   ·exact⟨_,q1,by simp,h1,h2,rfl⟩
   ·obtain⟨e,e1,e2,e3⟩:=IW q2 h3 z hz hs
    exact⟨e,e1,by simp[e2],e3⟩
theorem MN {seen:List Nat}:∀{es:List (AV×AV×Nat)} {ms:List MapEntry},bL E ρ es=some ms→(Eu seen es=true↔∃x∈ms,seen.contains x.born=false)
 |[],ms,h=>by simp[bL]at h;subst h;simp[Eu]
 |(k,v,b)::es,ms,h=>by
  obtain⟨x,y,ms',h1,h2,h3,rfl⟩:=dG h
  have hu:Eu seen ((k,v,b)::es)=br (HV b seen) (Eu seen es) true:=rfl
  rw[hu,Kr,LX]
  have ih:=MN (seen:=seen) h3
  cases q:seen.contains b with
  |true=>
   simp only[cond_true,ih,List.mem_cons,exists_eq_or_imp,q,Bool.true_eq_false,false_or]
  |false=>
   simp only[cond_false,List.mem_cons,exists_eq_or_imp,q,true_or]
noncomputable def aiC (it:AV) (M:T) (K:AV→T→Bool):Bool:=pA it fun r o=>ac (Nat.beq o 0) (Rv M r fun mi since seen c0=>Option.casesOn mi (K (.tup [.bool false]) M) fun i=>ry M i fun es cl=>
 ac (Nat.ble since c0) (ac (Yt since es) (br (Eu seen es)
  (PD seen es fun e=>app seen [e.2.2] fun seen'=>T.set bI M r (some (.iter (some i) since seen' cl)) fun M'=>K (.tup [.bool true,e.1,e.2.1]) M')
  (K (.tup [.bool false]) M))))
theorem aeI (h:Sim E ρ G F M nx w) {it:AV} {K:AV→T→Bool} {x:Value} {ty:TypeId} (hv:den E ρ it=some x) (hk:aiC it M K=true):
  ∃v M' w' z,Sim E ρ G F M' nx w'∧K v M'=true∧den E ρ v=some z∧(Instr.next x false ty).run P w= .ok z w':=by
 obtain⟨r,o,rfl,g1⟩:=iq hk
 obtain⟨g2,g3⟩:=aq g1
 have g2:=ako g2
 subst g2
 obtain⟨mi,since,seen,c0,hi,g4⟩:=Oq g3
 obtain⟨e,ob,e1,e2,mb,e3,rfl⟩:=h.obj hi
 simp only[den,e1]at hv
 cases hv
 cases mi with
 |none=>
  have e3:mb=none:=e3
  subst e3
  refine⟨_,M,w,.tuple #[.bool false],h,g4,rfl,?_⟩
  simp only[Instr.next,getObj,akv,Sem.run,e2,Result.andThen]
  rfl
 |some i=>
  obtain⟨f,f1,rfl⟩:∃f,ρ i=some f∧mb=some f.b:=e3
  obtain⟨es,cl,hm,g5⟩:=jt g4
  obtain⟨f',ms,f2,f3,f4⟩:=h.map hm
  rw[f1]at f2;cases f2
  obtain⟨g6,g7⟩:=aq g5
  obtain⟨g8,g9⟩:=aq g7
  rw[Nat.ble_eq]at g6
  have hold:=TC g8 f3
  rcases run_next_at (P:=P) w ty e.b f.b since c0 seen.toArray ms.toArray cl e2 f4 (by simpa using hold) g6 with⟨n1,n2⟩|⟨en,n1,w1,n2,n3⟩
  ·have hno:Eu seen es=false:=by
    cases q:Eu seen es with
    |false=>rfl
    |true=>
     obtain⟨x,hx,hs⟩:=(MN f3).1 q
     have hmem:x∈leftOf ms.toArray seen.toArray:=by simpa[leftOf] using⟨hx,by simpa using hs⟩
     have:=Array.size_pos_of_mem hmem
     omega
   rw[Kr,hno,cond_false]at g9
   exact⟨_,M,w,_,h,g9,rfl,n2⟩
  ·have hmem:en∈ms∧seen.contains en.born=false:=by simpa[leftOf] using n1
   have hyes:Eu seen es=true:=(MN f3).2 ⟨en,hmem⟩
   rw[Kr,hyes,cond_true]at g9
   obtain⟨c,c1,c2,c3,c4,c5⟩:=IW g9 f3 en hmem.1 hmem.2
   rw[yQ]at c1
   obtain⟨M',k1,k2,k3⟩:=T.set_ok _ _ _ _ _ c1
   have hw1:Sim E ρ G F M nx w1:=by rcases n2 with rfl|rfl<;>first|exact h|exact h.drawn
   have hr1:w1.heap=w.heap:=by rcases n2 with rfl|rfl<;>rfl
   have hlt:=cg e2
   refine⟨_,M',_,.tuple #[.bool true,en.key,en.val],?_,k1,by simp only[den,aO,c3,c4],n3⟩
   refine hw1.turn (o':=.iter (some i) since (seen++[c.2.2]) cl) (ob':=.mapIter (some f.b) since (seen.toArray.push en.born) cl) hi e1 rfl rfl rfl (fun b _ hb=> ?_) ?_ ⟨some f.b,⟨f,f1,rfl⟩,by rw[c5];simp⟩ k2 k3
   ·have:¬e.b=b:=fun q=>hb q.symm
    simp[setBlock,this]
   ·simp[setBlock,hr1,hlt]
noncomputable def ab5 (b:Nat) (es:List (AV×AV×Nat)) (K:AV×AV×Nat→Bool):Bool:=List.rec false (fun e _ ih=>br (Nat.beq e.2.2 b) (K e) ih) es
theorem Wm {b:Nat} {K:AV×AV×Nat→Bool}:∀{es:List (AV×AV×Nat)} {ms:List MapEntry},ab5 b es K=true→bL E ρ es=some ms→∃e x y,K e=true∧den E ρ e.1=some x∧den E ρ e.2.1=some y∧ms.find? (·.born==b)=some ⟨x,y,b⟩
 |[],ms,hf,h=>by cases hf
 |(k,v,c)::es,ms,hf,h=>by
  obtain⟨x,y,ms',h1,h2,h3,rfl⟩:=dG h
  have hf':br (Nat.beq c b) (K (k,v,c)) (ab5 b es K)=true:=hf
  rcases bk hf' with⟨q,g⟩|⟨q,g⟩
  ·have:=ako q
   subst this
   exact⟨_,x,y,g,h1,h2,by simp⟩
  ·obtain⟨e,x',y',r1,r2,r3,r4⟩:=Wm g h3
   refine⟨e,x',y',r1,r2,r3,?_⟩
   have:(c==b)=false:=by
    rw[XI]at q
    simpa using q
   simp[this,r4]
noncomputable def adb (l:List Nat) (K:Nat→Bool):Bool:=List.rec false (fun x xs ih=>List.casesOn xs (K x) fun _ _=>ih) l
theorem Rt {K:Nat→Bool}:∀{l:List Nat},adb l K=true→∃x r,l=r++[x]∧K x=true
 |[],h=>by cases h
 |[x],h=>⟨x,[],rfl,h⟩
 |x::y::l,h=>by
  obtain⟨z,r,h1,h2⟩:=Rt (l:=y::l) h
  exact⟨z,x::r,by rw[h1];rfl,h2⟩
noncomputable def ajk (it:AV) (M:T) (K:AV→Bool):Bool:=pA it fun r o=>ac (Nat.beq o 0) (Rv M r fun mi _ seen c0=>dh mi fun i=>ry M i fun es cl=>ac (Nat.beq c0 cl) (adb seen fun b=>ab5 b es fun e=>K (.tup [e.1,e.2.1])))
theorem afD (h:Sim E ρ G F M nx w) {it:AV} {K:AV→Bool} {x:Value} (hv:den E ρ it=some x) (hk:ajk it M K=true):∃v z,den E ρ v=some z∧K v=true∧(Instr.entry x).run P w= .ok z w:=by
 obtain⟨r,o,rfl,g1⟩:=iq hk
 obtain⟨g2,g3⟩:=aq g1
 have g2:=ako g2
 subst g2
 obtain⟨mi,since,seen,c0,hi,g4⟩:=Oq g3
 obtain⟨i,rfl,g5⟩:=bF g4
 obtain⟨e,ob,e1,e2,mb,e3,rfl⟩:=h.obj hi
 obtain⟨f,f1,rfl⟩:∃f,ρ i=some f∧mb=some f.b:=e3
 simp only[den,e1]at hv
 cases hv
 obtain⟨es,cl,hm,g6⟩:=jt g5
 obtain⟨f',ms,f2,f3,f4⟩:=h.map hm
 rw[f1]at f2;cases f2
 obtain⟨g7,g8⟩:=aq g6
 have g7:=ako g7
 subst g7
 obtain⟨b,q,rfl,g9⟩:=Rt g8
 obtain⟨c,x,y,c1,c2,c3,c4⟩:=Wm g9 f3
 refine⟨_,.tuple #[x,y],by simp only[den,aO,c2,c3],c1,?_⟩
 have hb:(q++[b]).toArray.back?=some b:=by simp
 have hf:ms.toArray.find? (·.born==b)=some ⟨x,y,b⟩:=by simpa using c4
 simp only[Instr.entry,getObj,akv,Sem.run,e2,f4,Result.andThen,hb,hf]
 simp
end
end Go.Sy
namespace Go.Sy
open Go Go.RowKit Go.Eng
section
variable {P:Program} {E:Env} {ρ:Ren} {G:GS} {F:List bo} {M:T} {nx:Nat} {w:World}
noncomputable def arS (o:Nat) (v1 v2:AV) (K:AV→Bool):Bool:=
 oB v1 fun k a=>oB v2 fun k2 b=>ac (Nat.beq k k2) (
  Nat.rec (uW k (a+b) K) (fun o _=>
  Nat.rec (uW k (a - b) K) (fun o _=>
  Nat.rec (uW k (a*b) K) (fun o _=>
  Nat.rec (ac (aF (b≠0)) (uW k (Int.tdiv a b) K)) (fun _ _=>
  ac (aF (b≠0)) (K (.sy (.int k (Int.tmod a b))))) o) o) o) o)
theorem qd {v1 v2:AV} {x y:Value} {f:Nat→Int→Int→Bool} (h1:den E ρ v1=some x) (h2:den E ρ v2=some y) (h:(oB v1 fun k a=>oB v2 fun k2 b=>ac (Nat.beq k k2) (f k a b))=true):∃k a b,x= .int (dv k) a∧y= .int (dv k) b∧f k a b=true:=by
 obtain⟨k,a,e1,g1⟩:=iQ h1 h
 obtain⟨k2,b,e2,g2⟩:=iQ h2 g1
 obtain⟨g3,g4⟩:=aq g2
 have:=ako g3
 subst this
 exact⟨k,a,b,e1,e2,g4⟩
theorem ajD {o:Nat} {v1 v2:AV} {K:AV→Bool} {x y:Value} (h1:den E ρ v1=some x) (h2:den E ρ v2=some y) (h:arS o v1 v2 K=true) (t:TypeId) (p q:Operand):
  ∃v z,den E ρ v=some z∧K v=true∧∀w,((do eqGuard (lr o) t p q x y;binOp (lr o) t x y):Sem Value).run P w= .ok z w:=by
 match o with
 |0=>
  obtain⟨k,a,b,rfl,rfl,g⟩:=qd (f:=fun k a b=>uW k (a+b) K) h1 h2 h
  obtain⟨g1,g2,g3⟩:=tF (E:=E) (ρ:=ρ) g
  exact⟨_,_,g3,g2,fun w=>by simp[lr,eqGuard,binOp,Op.intArith,g1]⟩
 |1=>
  obtain⟨k,a,b,rfl,rfl,g⟩:=qd (f:=fun k a b=>uW k (a - b) K) h1 h2 h
  obtain⟨g1,g2,g3⟩:=tF (E:=E) (ρ:=ρ) g
  exact⟨_,_,g3,g2,fun w=>by simp[lr,eqGuard,binOp,Op.intArith,g1]⟩
 |2=>
  obtain⟨k,a,b,rfl,rfl,g⟩:=qd (f:=fun k a b=>uW k (a*b) K) h1 h2 h
  obtain⟨g1,g2,g3⟩:=tF (E:=E) (ρ:=ρ) g
  exact⟨_,_,g3,g2,fun w=>by simp[lr,eqGuard,binOp,Op.intArith,g1]⟩
 |3=>
  obtain⟨k,a,b,rfl,rfl,g⟩:=qd (f:=fun k a b=>ac (aF (b≠0)) (uW k (Int.tdiv a b) K)) h1 h2 h
  obtain⟨hb,g⟩:=ae g
  obtain⟨g1,g2,g3⟩:=tF (E:=E) (ρ:=ρ) g
  exact⟨_,_,g3,g2,fun w=>by simp[lr,eqGuard,binOp,Op.intDiv,hb,g1]⟩
 |o+4=>
  obtain⟨k,a,b,rfl,rfl,g⟩:=qd (f:=fun k a b=>ac (aF (b≠0)) (K (.sy (.int k (Int.tmod a b))))) h1 h2 h
  obtain⟨hb,g⟩:=ae g
  exact⟨_,_,rfl,g,fun w=>by simp[lr,eqGuard,binOp,Op.intDiv,hb]⟩
noncomputable def Jh (u v:AV):Bool:=Bool.or (eG u) (eG v)
noncomputable def arY (o:Nat) (u v:AV) (K:AV→Bool):Bool:=br (Jh u v) (arS o u v K) (arX o u v K)
theorem ajB {o:Nat} {v1 v2:AV} {K:AV→Bool} {x y:Value} (h1:den E ρ v1=some x) (h2:den E ρ v2=some y) (h:arY o v1 v2 K=true) (t:TypeId) (p q:Operand):
  ∃v z,den E ρ v=some z∧K v=true∧∀w,((do eqGuard (lr o) t p q x y;binOp (lr o) t x y):Sem Value).run P w= .ok z w:=by
 rcases bk h with⟨_,g⟩|⟨_,g⟩
 ·exact ajD h1 h2 g t p q
 ·exact ajC h1 h2 g t p q
def Ep (o:Nat) (a b:Int):Prop:=match o with
 |0=>a<b|1=>a≤b|2=>b<a|3=>b≤a|4=>a=b|_=>¬a=b
noncomputable def akb (o:Nat) (v1 v2:AV) (K:AV→Bool):Bool:=oB v1 fun k a=>oB v2 fun k2 b=>ac (Nat.beq k k2) (K (.sy (.bool (Ep o a b))))
noncomputable def acr (o:Nat) (u v:AV) (K:AV→Bool):Bool:=br (Jh u v) (akb o u v K) (ajr o u v K)
theorem afK {o:Nat} {v1 v2:AV} {K:AV→Bool} {x y:Value} (h1:den E ρ v1=some x) (h2:den E ρ v2=some y) (h:acr o v1 v2 K=true) (t:TypeId) (p q:Operand):
  ∃v z,den E ρ v=some z∧K v=true∧∀w,((do eqGuard (lq o) t p q x y;binOp (lq o) t x y):Sem Value).run P w= .ok z w:=by
 rcases bk h with⟨_,g⟩|⟨_,g⟩
 ·obtain⟨k,a,b,rfl,rfl,g⟩:=qd (f:=fun k a b=>K (.sy (.bool (Ep o a b)))) h1 h2 g
  refine⟨_,_,rfl,g,fun w=> ?_⟩
  match o with
  |0=>simp[lq,Ep,eqGuard,binOp,Op.intCmp,nU]
  |1=>simp[lq,Ep,eqGuard,binOp,Op.intCmp,nU]
  |2=>simp[lq,Ep,eqGuard,binOp,Op.intCmp,nU]
  |3=>simp[lq,Ep,eqGuard,binOp,Op.intCmp,nU]
  |4=>simp[lq,Ep,eqGuard,binOp,Op.intCmp,nU,oA]
  |o+5=>simp[lq,Ep,eqGuard,binOp,Op.intCmp,nU,bne,oA]
 ·exact afL h1 h2 g t p q
theorem aeh (l m:List UInt8):(⟨l.toArray⟩:ByteArray)++⟨m.toArray⟩=⟨(l++m).toArray⟩:=by
 apply ByteArray.ext
 simp
noncomputable def Xv (u v:AV) (K:AV→Bool):Bool:=br (Jh u v) (Et u fun l=>Et v fun m=>ac (aF (l.length+m.length≤9223372036854775807)) (K (.sy (.str (l++m))))) (ac7 u v K)
theorem abx {v1 v2:AV} {K:AV→Bool} {x y:Value} (h1:den E ρ v1=some x) (h2:den E ρ v2=some y) (h:Xv v1 v2 K=true) (t:TypeId) (p q:Operand):
  ∃v z,den E ρ v=some z∧K v=true∧∀w,((do eqGuard .add t p q x y;binOp .add t x y):Sem Value).run P w= .ok z w:=by
 rcases bk h with⟨_,g⟩|⟨_,g⟩
 ·obtain⟨l,rfl,g1⟩:=mG h1 g
  obtain⟨m,rfl,g2⟩:=mG h2 g1
  obtain⟨hb,g⟩:=ae g2
  refine⟨_,_,rfl,g,fun w=> ?_⟩
  have e1:ByteArray.size ⟨l.toArray⟩=l.length:=by simp[ByteArray.size]
  have e2:ByteArray.size ⟨m.toArray⟩=m.length:=by simp[ByteArray.size]
  simp[eqGuard,binOp,Op.stringOp,e1,e2,aeh]
  omega
 ·exact aby h1 h2 g t p q
noncomputable def abu (ne:Bool) (u v:AV) (K:AV→Bool):Bool:=br (Jh u v) (Et u fun l=>Et v fun m=>Bool.rec (K (.sy (.bool (l=m)))) (K (.sy (.bool (¬l=m)))) ne) (aim ne u v K)
theorem aeB {ne:Bool} {v1 v2:AV} {K:AV→Bool} {x y:Value} (h1:den E ρ v1=some x) (h2:den E ρ v2=some y) (h:abu ne v1 v2 K=true) (t:TypeId) (p q:Operand):
  ∃v z,den E ρ v=some z∧K v=true∧∀w,((do eqGuard (bif ne then .neq else .eql) t p q x y;binOp (bif ne then .neq else .eql) t x y):Sem Value).run P w= .ok z w:=by
 rcases bk h with⟨_,g⟩|⟨_,g⟩
 ·obtain⟨l,rfl,g1⟩:=mG h1 g
  obtain⟨m,rfl,g2⟩:=mG h2 g1
  cases ne
  ·refine⟨.sy (.bool (l=m)),_,rfl,g2,fun w=> ?_⟩
   simp only[cond_false,eqGuard,binOp,Op.stringOp,nS,akv,Sem.run_pure,aku,nU]
   by_cases h:l=m<;>simp[h]
  ·refine⟨.sy (.bool (¬l=m)),_,rfl,g2,fun w=> ?_⟩
   simp only[cond_true,eqGuard,binOp,Op.stringOp,nS,akv,Sem.run_pure,aku,nU]
   by_cases h:l=m<;>simp[h]
 ·exact aeC h1 h2 g t p q
noncomputable def aiD (u:AV) (K:AV→Bool):Bool:=br (eG u) (acD u fun p=>K (.sy (.bool (¬p)))) (aiE u K)
theorem aeJ {v:AV} {K:AV→Bool} {x:Value} (h1:den E ρ v=some x) (h:aiD v K=true):∃u z,den E ρ u=some z∧K u=true∧∀w,(Op.unary .not x).run P w= .ok z w:=by
 rcases bk h with⟨_,g⟩|⟨_,g⟩
 ·obtain⟨p,rfl,g⟩:=WH h1 g
  refine⟨_,_,rfl,g,fun w=> ?_⟩
  have:aF (¬p)= !aF p:=by
   by_cases hp:p
   ·rw[prB_true.2 hp,prB_false.2 (fun q=>q hp)];rfl
   ·rw[prB_false.2 hp,prB_true.2 hp];rfl
  simp[Op.unary,this]
 ·exact aeK h1 g
noncomputable def aiF (u:AV) (K:AV→Bool):Bool:=br (eG u) (oB u fun k z=>uW k (-z) K) (aiG u K)
theorem aeL {v:AV} {K:AV→Bool} {x:Value} (h1:den E ρ v=some x) (h:aiF v K=true):∃u z,den E ρ u=some z∧K u=true∧∀w,(Op.unary .neg x).run P w= .ok z w:=by
 rcases bk h with⟨_,g⟩|⟨_,g⟩
 ·obtain⟨k,z,rfl,g⟩:=iQ h1 g
  obtain⟨g1,g2,g3⟩:=tF (E:=E) (ρ:=ρ) g
  exact⟨_,_,g3,g2,fun w=>by simp[Op.unary,Op.intArith,g1]⟩
 ·exact aeM h1 g
noncomputable def ajp (k:Nat) (u:AV) (K:AV→Bool):Bool:=br (eG u) (oB u fun _ z=>uW k z K) (ajq k u K)
theorem afI {k:Nat} {v:AV} {K:AV→Bool} {x:Value} (h1:den E ρ v=some x) (h:ajp k v K=true) {src dst:TypeId} (hs:(P.underlying src).isSome=true) (hd:P.underlying dst=some (.int (dv k))):
  ∃u z,den E ρ u=some z∧K u=true∧∀w,(convert src dst x).run P w= .ok z w:=by
 rcases bk h with⟨_,g⟩|⟨_,g⟩
 ·obtain⟨k0,z,rfl,g⟩:=iQ h1 g
  obtain⟨g1,g2,g3⟩:=tF (E:=E) (ρ:=ρ) g
  obtain⟨d,hs⟩:=Option.isSome_iff_exists.1 hs
  exact⟨_,_,g3,g2,fun w=>by simp[convert,run_underlying hs,run_underlying hd,Conv.intToInt,g1]⟩
 ·exact afJ h1 g hs hd
noncomputable def ajo (k:Nat) (u:AV) (K:AV→Bool):Bool:=oB u fun _ z=>K (.sy (.int k ((dv k).wrap z)))
theorem afH {k:Nat} {v:AV} {K:AV→Bool} {x:Value} (h1:den E ρ v=some x) (h:ajo k v K=true) {src dst:TypeId} (hs:(P.underlying src).isSome=true) (hd:P.underlying dst=some (.int (dv k))):
  ∃u z,den E ρ u=some z∧K u=true∧∀w,(convert src dst x).run P w= .ok z w:=by
 obtain⟨k0,z,rfl,g⟩:=iQ h1 h
 obtain⟨d,hs⟩:=Option.isSome_iff_exists.1 hs
 exact⟨_,_,rfl,g,fun w=>by simp[convert,run_underlying hs,run_underlying hd,Conv.intToInt]⟩
noncomputable def ac5 (u:AV) (K:AV→Bool):Bool:=br (eG u) (Et u fun l=>K (.sy (.int 0 (l.length:Int)))) (ac6 u K)
theorem abr {v:AV} {K:AV→Bool} {x:Value} {t ty:TypeId} (ht:P.underlying t=some .string) (hv:den E ρ v=some x) (hk:ac5 v K=true):∃u z,den E ρ u=some z∧K u=true∧∀(cs:Array Bool) w,(builtin .len #[t] ty cs #[x]).run P w= .ok (.value z) w:=by
 rcases bk hk with⟨_,g⟩|⟨_,g⟩
 ·obtain⟨l,rfl,g⟩:=mG hv g
  refine⟨_,_,rfl,g,fun cs w=> ?_⟩
  have e:ByteArray.size ⟨l.toArray⟩=l.length:=by simp[ByteArray.size]
  simp[builtin,Builtin.len_,goInt,run_underlying ht,dv,e]
 ·exact abt ht hv g
noncomputable def mxY (mx:Bool) (u v:AV) (K:AV→Bool):Bool:=br (Jh u v) (oB u fun k a=>oB v fun k2 b=>ac (Nat.beq k k2) (Bool.rec (K (.sy (.int k (min a b)))) (K (.sy (.int k (max a b)))) mx)) (mxX mx u v K)
theorem aiJ {mx:Bool} {v1 v2:AV} {K:AV→Bool} {x y:Value} {ta:Array TypeId} {ty:TypeId} (h1:den E ρ v1=some x) (h2:den E ρ v2=some y) (hk:mxY mx v1 v2 K=true):
  ∃u z,den E ρ u=some z∧K u=true∧∀(cs:Array Bool) w,(builtin (bif mx then .max else .min) ta ty cs #[x,y]).run P w= .ok (.value z) w:=by
 rcases bk hk with⟨_,g⟩|⟨_,g⟩
 ·obtain⟨k,m,n,rfl,rfl,g⟩:=qd (f:=fun k a b=>Bool.rec (K (.sy (.int k (min a b)))) (K (.sy (.int k (max a b)))) mx) h1 h2 g
  cases mx
  ·refine⟨.sy (.int k (min m n)),_,rfl,g,fun cs w=> ?_⟩
   have e:(if n<m then n else m)=min m n:=by simp only[Int.min_def];split<;>split<;>omega
   simp[builtin,Builtin.min_,Builtin.min2,e]
  ·refine⟨.sy (.int k (max m n)),_,rfl,g,fun cs w=> ?_⟩
   have e:(if n > m then n else m)=max m n:=by simp only[Int.max_def];split<;>split<;>omega
   simp[builtin,Builtin.max_,Builtin.max2,e]
 ·exact aiK h1 h2 g
noncomputable def aih (u v:AV) (K:AV→Bool):Bool:=br (Jh u v) (Et u fun l=>oB v fun _ z=>ac (aF (0≤z∧z<(l.length:Int))) (K (.sy (.int 1 ((l.getD z.toNat 0).toNat:Int))))) (aii u v K)
theorem aey {v iv:AV} {K:AV→Bool} {x y:Value} {t:TypeId} (ht:P.underlying t=some .string) (hv:den E ρ v=some x) (hi:den E ρ iv=some y) (hk:aih v iv K=true):∃u z,den E ρ u=some z∧K u=true∧∀w,(Instr.index t x y).run P w= .ok z w:=by
 rcases bk hk with⟨_,g⟩|⟨_,g⟩
 ·obtain⟨l,rfl,g1⟩:=mG hv g
  obtain⟨kd,z,rfl,g2⟩:=iQ hi g1
  obtain⟨⟨z0,zl⟩,g⟩:=ae g2
  obtain⟨n,rfl⟩:=Int.eq_ofNat_of_zero_le z0
  have hlt:n<l.length:=by omega
  refine⟨_,_,rfl,g,fun w=> ?_⟩
  have h1:ByteArray.size ⟨l.toArray⟩=l.length:=by simp[ByteArray.size]
  simp[Instr.index,run_underlying ht,asIntOf,h1,hlt,dv]
  rfl
 ·exact aez ht hv hi g
end
section
variable {P:Program} {E:Env} {ρ:Ren} {G:GS} {F:List bo} {M:T} {nx:Nat} {w:World}
noncomputable def toP (v:AV) (K:PL→Bool):Bool:=AV.casesOn v false (fun k z=>K (.int k z)) (fun b=>K (.bool b)) (fun l=>K (.str l)) (fun _ _=>false) (fun _ _ _ _=>false) (fun _=>false) (K .nilP) (K .nilS) (K .nilM) (K .nilF) (K .nilI) (fun _ _=>false) (fun _ _=>false) (fun _=>false) (fun _=>false) (fun _=>false) (fun _=>false)
 fun s=>SY.casesOn s (fun k z=>K (.sint k z)) (fun p=>K (.sbool p)) (fun l=>K (.sstr l)) (fun h sz α l enc=>K (.imm h sz α l enc)) (fun _ _ _=>false) (fun _ _=>false) (fun _ _ _ _ _ _=>false) (fun _ _ _ _=>false) (fun _ _ _=>false) (fun _=>false)
theorem Za {v:AV} {x:Value} {K:PL→Bool} (hd:den E ρ v=some x) (h:toP v K=true):∃p,OkP E.M p∧x=bQ p∧K p=true:=by
 cases v<;>first|(cases h;done)|skip
 case int k z=>cases hd;exact⟨.int k z,.int k z,rfl,h⟩
 case bool b=>cases hd;exact⟨.bool b,.bool b,rfl,h⟩
 case str l=>cases hd;exact⟨.str l,.str l,rfl,h⟩
 case nilP=>cases hd;exact⟨.nilP,.nilP,rfl,h⟩
 case nilS=>cases hd;exact⟨.nilS,.nilS,rfl,h⟩
 case nilM=>cases hd;exact⟨.nilM,.nilM,rfl,h⟩
 case nilF=>cases hd;exact⟨.nilF,.nilF,rfl,h⟩
 case nilI=>cases hd;exact⟨.nilI,.nilI,rfl,h⟩
 case sy s=>
  cases s<;>first|(cases h;done)|skip
  case int k z=>cases hd;exact⟨.sint k z,.sint k z,rfl,h⟩
  case bool p=>cases hd;exact⟨.sbool p,.sbool p,rfl,h⟩
  case str l=>cases hd;exact⟨.sstr l,.sstr l,rfl,h⟩
  case imm hh sz α l enc=>
   obtain⟨h1,h2⟩:=hC (show iO E (.imm hh sz α l enc)=some x from hd)
   exact⟨_,h1,h2,h⟩
noncomputable def Xo (vs:List AV):(List PL→Bool)→Bool:=List.rec (fun K=>K []) (fun v _ ih K=>toP v fun p=>ih fun ps=>K (p::ps)) vs
theorem Lw:∀{vs:List AV} {xs:List Value} {K:List PL→Bool},aO E ρ vs=some xs→Xo vs K=true→∃ps,(∀p∈ps,OkP E.M p)∧xs=ps.map bQ∧K ps=true∧ps.length=vs.length
 |[],xs,K,hd,h=>by
  simp[aO]at hd
  subst hd
  exact⟨[],by simp,rfl,h,rfl⟩
 |v::vs,xs,K,hd,h=>by
  obtain⟨x,ys,h1,h2,rfl⟩:=cA hd
  obtain⟨p,p1,rfl,p2⟩:=Za (K:=fun p=>Xo vs fun ps=>K (p::ps)) h1 h
  obtain⟨ps,q1,rfl,q2,q3⟩:=Lw h2 p2
  exact⟨p::ps,fun q hq=>by
   rcases List.mem_cons.1 hq with rfl|hq
   ·exact p1
   ·exact q1 q hq,rfl,q2,by simp[q3]⟩
theorem GW {p:PL} {M:oD} (h:OkP M p):Value.oneCell' (bQ p)=true:=by
 cases h with
 |imm ao cap hh=>subst hh;rfl
 |_=>rfl
theorem Am {M:oD} {h:Value} {sz:Nat} {α:Type} {l:List α} {enc:α→List PL} (hp:OkP M (.imm h sz α l enc)):∃ao cap,h= .slice ao l.length cap∧l.length≤cap∧cap≤maxLen∧0<sz∧
  (0<l.length→ao=some ⟨blk ao,wv ao,none⟩)∧(∀x∈l,(enc x).length=sz)∧(∀x∈l,∀p∈enc x,OkP M p)∧(∀i x,l[i]?=some x→MRow M (blk ao) (wv ao+i*sz) ((enc x).map bQ)):=by
 cases hp with
 |imm ao cap hh h1 h2 h3 ha hl ho hr=>exact⟨ao,cap,hh,h1,h2,h3,ha,hl,ho,hr⟩
theorem dY {e:eD} {n:Nat} {x:Value} (h:AI e n=some x):(e.cap=0∧n=0∧x= .slice none 0 0)∨∃c,e.cap=c+1∧x= .slice (some ⟨e.b,0,none⟩) n c:=by
 unfold AI at h
 split at h
 ·rename_i hc
  split at h
  ·rename_i hn;cases h;exact .inl ⟨hc,hn,rfl⟩
  ·cases h
 ·rename_i c hc;cases h;exact .inr ⟨c,hc,rfl⟩
theorem sq {e:eD} {n m:Nat} {x:Value} (h:LW e n m=some x):(e.cap=0∧n=0∧m=0∧x= .slice none 0 0)∨∃c,e.cap=c+1∧x= .slice (some ⟨e.b,0,none⟩) n m:=by
 unfold LW at h
 split at h
 ·rename_i hc
  split at h
  ·rename_i hn;cases h;exact .inl ⟨hc,hn.1,hn.2,rfl⟩
  ·cases h
 ·rename_i c hc;cases h;exact .inr ⟨c,hc,rfl⟩
theorem iZ {e:eD} {sz a n o:Nat} {oc:Option Nat} {x:Value} (h:sT e sz a n o oc=some x):(e.cap=0∧n=0∧a=0∧x= .slice none 0 0)∨∃c,e.cap=c+1∧x= .slice (some ⟨e.b,if c=a then o else a*sz,none⟩) n (c - a)∧a+n≤c∧(∀q,oc=some q→q=c):=by
 unfold sT at h
 split at h
 ·rename_i hc
  split at h
  ·rename_i hn;cases h;exact .inl ⟨hc,hn.1,hn.2,rfl⟩
  ·cases h
 ·rename_i c hc
  split at h
  ·rename_i hn;cases h;exact .inr ⟨c,hc,rfl,hn⟩
  ·cases h
theorem zK {t ty e:TypeId} (ht:P.underlying t=some (.slice e)) (ao:Option Addr) (n c:Nat) (cs:Array Bool) (w:World):(builtin .len #[t] ty cs #[.slice ao n c]).run P w= .ok (.value (.int .i64 n)) w:=by
 simp[builtin,Builtin.len_,goInt,run_underlying ht]
noncomputable def ajW (u:AV) (K:AV→Bool):Bool:=mE u fun s=>SY.casesOn s (fun _ _=>false) (fun _=>false) (fun _=>false) (fun _ _ _ l _=>K (.sy (.int 0 (l.length:Int)))) (fun _ _ _=>false) (fun _ n=>K (.sy (.int 0 (n:Int)))) (fun _ _ _ n _ _=>K (.sy (.int 0 (n:Int)))) (fun _ _ _ _=>false) (fun _ n _=>K (.sy (.int 0 (n:Int)))) (fun _=>false)
noncomputable def aiV (u:AV) (K:AV→Bool):Bool:=br (eG u) (ajW u K) (aiW u K)
theorem afg {v:AV} {K:AV→Bool} {x:Value} {t ty e:TypeId} (ht:P.underlying t=some (.slice e)) (hv:den E ρ v=some x) (hk:aiV v K=true):∃u z,den E ρ u=some z∧K u=true∧∀(cs:Array Bool) w,(builtin .len #[t] ty cs #[x]).run P w= .ok (.value z) w:=by
 rcases bk hk with⟨-,g⟩|⟨-,g⟩
 ·replace g:=eV g
  obtain⟨s,rfl,g⟩:=g
  cases s<;>first|(cases g;done)|skip
  case imm h sz α l enc=>
   obtain⟨h1,rfl⟩:=hC (show iO E (.imm h sz α l enc)=some x from hv)
   obtain⟨ao,cap,rfl,_⟩:=Am h1
   exact⟨_,.int .i64 (l.length:Int),rfl,g,fun cs w=>zK ht _ _ _ cs w⟩
  case prow i n=>
   refine⟨.sy (.int 0 (n:Int)),.int .i64 (n:Int),rfl,g,fun cs w=> ?_⟩
   simp only[den,bx]at hv
   split at hv
   ·rcases dY hv with⟨_,rfl,rfl⟩|⟨c,_,rfl⟩<;>rw[zK ht]
   ·cases hv
  case psub i sz a n o oc=>
   refine⟨.sy (.int 0 (n:Int)),.int .i64 (n:Int),rfl,g,fun cs w=> ?_⟩
   simp only[den,bx]at hv
   split at hv
   ·rcases iZ hv with⟨_,rfl,rfl,rfl⟩|⟨c,_,rfl,_,_⟩<;>rw[zK ht]
   ·cases hv
  case pfix i n c=>
   refine⟨.sy (.int 0 (n:Int)),.int .i64 (n:Int),rfl,g,fun cs w=> ?_⟩
   simp only[den,bx]at hv
   split at hv
   ·rcases sq hv with⟨_,rfl,rfl,rfl⟩|⟨c,_,rfl⟩<;>rw[zK ht]
   ·cases hv
 ·exact afh ht hv g
noncomputable def faS (off:Nat) (v:AV) (K:AV→Bool):Bool:=mE v fun s=>SY.casesOn s (fun _ _=>false) (fun _=>false) (fun _=>false) (fun _ _ _ _ _=>false) (fun b o cs=>K (.sy (.pim b (o+off) (yN cs off)))) (fun _ _=>false) (fun _ _ _ _ _ _=>false) (fun i sz q o=>K (.sy (.rptr i sz q (o+off)))) (fun _ _ _=>false) (fun _=>false)
noncomputable def faY (off:Nat) (v:AV) (K:AV→Bool):Bool:=br (eG v) (faS off v K) (faX off v K)
theorem Ga {t i off b o:Nat} (h:DV P t i=some off) (w:World):(Instr.fieldAt t (.pointer (some ⟨b,o,none⟩)) i).run P w= .ok (.pointer (some ⟨b,o+off,none⟩)) w:=by
 have h':=h
 unfold DV at h'
 rcases ht:P.underlying t with _|d
 ·simp[ht]at h'
 rw[ht]at h'
 cases d<;>simp at h'
 rename_i fs
 rcases hf:fs[i]? with _|f
 ·simp[hf]at h'
 simp[Instr.fieldAt,Instr.sureAddr,run_underlying ht,hf,yf ht hf h]
theorem abD {b o:Nat} {cs:List PL} (off:Nat) (h:(∀p∈cs,OkP E.M p)∧MRow E.M b o (cs.map bQ)):(∀p∈cs.drop off,OkP E.M p)∧MRow E.M b (o+off) ((cs.drop off).map bQ):=
 ⟨fun p hp=>h.1 p (List.mem_of_mem_drop hp),fun j v hv=>by
  have:=h.2 (off+j) v (by rw[List.map_drop,List.getElem?_drop]at hv;exact hv)
  rwa[←Nat.add_assoc]at this⟩
theorem IR {b o:Nat} {cs:List PL} {x:Value} (h:bx E ρ (.pim b o cs)=some x):((∀p∈cs,OkP E.M p)∧MRow E.M b o (cs.map bQ))∧x= .pointer (some ⟨b,o,none⟩):=by
 simp only[bx]at h
 split at h
 ·exact⟨‹_›,(akE h).symm⟩
 ·cases h
theorem GQ {b o:Nat} {cs:List PL} (h:(∀p∈cs,OkP E.M p)∧MRow E.M b o (cs.map bQ)):bx E ρ (.pim b o cs)=some (.pointer (some ⟨b,o,none⟩)):=by
 simp only[bx];rw[if_pos h]
theorem wI {i sz q o:Nat} {x:Value} (h:bx E ρ (.rptr i sz q o)=some x):∃e,ρ i=some e∧x= .pointer (some ⟨e.b,q*sz+o,none⟩):=by
 simp only[bx]at h
 split at h
 ·rename_i e he;exact⟨e,he,(akE h).symm⟩
 ·cases h
theorem ajc {off:Nat} {v:AV} {K:AV→Bool} {x:Value} {t i:Nat} (h:DV P t i=some off) (hv:den E ρ v=some x) (hk:faY off v K=true):∃u z,den E ρ u=some z∧K u=true∧∀w,(Instr.fieldAt t x i).run P w= .ok z w:=by
 rcases bk hk with⟨-,g⟩|⟨-,g⟩
 ·replace g:=eV g
  obtain⟨s,rfl,g⟩:=g
  cases s<;>first|(cases g;done)|skip
  case pim b o cs=>
   obtain⟨h1,rfl⟩:=IR (show bx E ρ (.pim b o cs)=some x from hv)
   replace g:K (.sy (.pim b (o+off) (yN cs off)))=true:=g
   rw[vy]at g
   exact⟨_,_,show den E ρ (.sy (.pim b (o+off) (cs.drop off)))=_ from GQ (abD off h1),g,fun w=>Ga h w⟩
  case rptr j sz q o=>
   obtain⟨e,he,rfl⟩:=wI (show bx E ρ (.rptr j sz q o)=some x from hv)
   exact⟨_,.pointer (some ⟨e.b,q*sz+(o+off),none⟩),by simp only[den,bx,he],g,fun w=>by rw[Ga h,Nat.add_assoc]⟩
 ·exact ajd h hv g
noncomputable def ajV (v:AV) (K:AV→Bool):Bool:=mE v fun s=>SY.casesOn s (fun _ _=>false) (fun _=>false) (fun _=>false) (fun _ _ _ _ _=>false) (fun _ _ _=>K v) (fun _ _=>false) (fun _ _ _ _ _ _=>false) (fun _ _ _ _=>K v) (fun _ _ _=>false) (fun _=>false)
noncomputable def aiH (v:AV) (K:AV→Bool):Bool:=br (eG v) (ajV v K) (aiI v K)
theorem aeN {v:AV} {K:AV→Bool} {x:Value} (hv:den E ρ v=some x) (hk:aiH v K=true) {a:Act} {o:Operand} (ha:a.eval o=x) {dst:Option Tmp} {ty:TypeId} {pos:String} {af:Array Edge} {g:Option (Nat×Bool)}:
  K v=true∧∀w,(execOp a.eval ⟨dst,.nilCheck o,ty,pos,af,g⟩).run P w= .ok (.value x) w:=by
 rcases bk hk with⟨-,k⟩|⟨-,k⟩
 ·replace k:=eV k
  obtain⟨s,rfl,k⟩:=k
  cases s<;>first|(cases k;done)|skip
  case pim b o cs=>
   obtain⟨h1,rfl⟩:=IR (show bx E ρ (.pim b o cs)=some x from hv)
   exact⟨k,fun w=>by simp[execOp,ha]⟩
  case rptr j sz q o=>
   obtain⟨e,he,rfl⟩:=wI (show bx E ρ (.rptr j sz q o)=some x from hv)
   exact⟨k,fun w=>by simp[execOp,ha]⟩
 ·exact aeO hv k ha
noncomputable def xT (n:Nat) (z:Int) (K:Nat→Bool):Nat→Bool:=Nat.rec (fun _=>ac (aF False) true) (fun _ ih k=>br (aF (z=Int.ofNat k)) (K k) (ih (Nat.succ k))) n
theorem tG {z:Int} {K:Nat→Bool}:∀{n k:Nat},xT n z K k=true→∃j:Nat,z=(j:Int)∧j<k+n∧K j=true
 |0,k,h=>absurd (ae (show ac (aF False) true=true from h)).1 id
 |n+1,k,h=>by
  have h':br (aF (z=Int.ofNat k)) (K k) (xT n z K (Nat.succ k))=true:=h
  rcases iM h' with⟨q,g⟩|⟨_,g⟩
  ·exact⟨k,q,by omega,g⟩
  ·obtain⟨j,h1,h2,h3⟩:=tG g
   exact⟨j,h1,by omega,h3⟩
noncomputable def ajZ (n sz:Nat) (v iv:AV) (K:AV→Bool):Bool:=pA v fun i o=>oB iv fun _ z=>xT n z (fun k=>fN (Nat.add o (Nat.mul k sz)) fun o=>K (.ptr i o)) 0
noncomputable def ai3 (n sz:Nat) (v iv:AV) (K:AV→Bool):Bool:=br (eG iv) (ajZ n sz v iv K) (ai4 n sz v iv K)
theorem afq {n sz:Nat} {v iv:AV} {K:AV→Bool} {x y:Value} {t e:TypeId} (ht:P.underlying t=some (.array n e)) (hs:cJ P e=some sz) (hv:den E ρ v=some x) (hi:den E ρ iv=some y) (hk:ai3 n sz v iv K=true):
  ∃u z,den E ρ u=some z∧K u=true∧∀w,(Instr.indexAt t x y).run P w= .ok z w:=by
 rcases bk hk with⟨-,g⟩|⟨-,g⟩
 ·obtain⟨j,o,rfl,k1⟩:=iq g
  obtain⟨kd,z,rfl,k2⟩:=iQ hi k1
  obtain⟨q,rfl,hq,k3⟩:=tG k2
  rw[bW]at k3
  simp only[den]at hv
  split at hv
  ·rename_i f hf
   cases hv
   have hq:q<n:=by omega
   refine⟨_,.pointer (some ⟨f.b,o+q*sz,none⟩),by simp only[den,hf];rfl,k3,fun w=> ?_⟩
   simp[Instr.indexAt,Instr.sureAddr,asIntOf,run_underlying ht,Go.Eng.run_sizeOf hs,hq,dl]
  ·cases hv
 ·exact afr ht hs hv hi g
def ajy:Value→Nat
 |.slice ao _ _=>blk ao
 |_=>0
def aiA:Value→Nat
 |.slice ao _ _=>wv ao
 |_=>0
noncomputable def ajX (sz:Nat) (v iv:AV) (K:AV→Bool):Bool:=oB iv fun _ z=>mE v fun s=>SY.casesOn s (fun _ _=>false) (fun _=>false) (fun _=>false)
 (fun h sz' _ l enc=>ac (Nat.beq sz sz') (ac (aF (0≤z∧z<(l.length:Int))) (ah fun x=>br (aF (l[z.toNat]?=some x)) (K (.sy (.pim (ajy h) (aiA h+z.toNat*sz) (enc x)))) true)))
 (fun _ _ _=>false) (fun i n=>ac (aF (0≤z∧z<(n:Int))) (K (.sy (.rptr i sz z.toNat 0)))) (fun i sz' a n _ _=>ac (Nat.beq sz sz') (ac (aF (0≤z∧z<(n:Int))) (K (.sy (.rptr i sz (a+z.toNat) 0))))) (fun _ _ _ _=>false)
 (fun i n _=>ac (aF (0≤z∧z<(n:Int))) (K (.sy (.rptr i sz z.toNat 0)))) (fun _=>false)
noncomputable def ajY (sz:Nat) (v iv:AV) (K:AV→Bool):Bool:=vF v false fun i o n _=>oB iv fun _ z=>xT n z (fun k=>fN (Nat.add o (Nat.mul k sz)) fun o=>K (.ptr i o)) 0
noncomputable def ai1 (sz:Nat) (v iv:AV) (K:AV→Bool):Bool:=br (eG v) (ajX sz v iv K) (br (eG iv) (ajY sz v iv K) (ai2 sz v iv K))
theorem oT {t e sz n c i:Nat} {k:IntKind} {b o:Nat} (ht:P.underlying t=some (.slice e)) (hs:cJ P e=some sz) (hi:i<n) (w:World):(Instr.indexAt t (.slice (some ⟨b,o,none⟩) n c) (.int k (i:Int))).run P w= .ok (.pointer (some ⟨b,o+i*sz,none⟩)) w:=by
 simp[Instr.indexAt,asIntOf,run_underlying ht,Go.Eng.run_sizeOf hs,hi,dl]
theorem afo {sz:Nat} {v iv:AV} {K:AV→Bool} {x y:Value} {t e:TypeId} (ht:P.underlying t=some (.slice e)) (hs:cJ P e=some sz) (hv:den E ρ v=some x) (hi:den E ρ iv=some y) (hk:ai1 sz v iv K=true):
  ∃u z,den E ρ u=some z∧K u=true∧∀w,(Instr.indexAt t x y).run P w= .ok z w:=by
 rcases bk hk with⟨-,g⟩|⟨-,g⟩
 ·replace g:=iQ hi g
  obtain⟨kd,z,rfl,g⟩:=g
  replace g:=eV g
  obtain⟨s,rfl,g⟩:=g
  cases s<;>first|(cases g;done)|skip
  case imm h sz' α l enc=>
   obtain⟨g1,g2⟩:=aq g
   have g1:=ako g1
   subst g1
   obtain⟨⟨z0,zl⟩,g3⟩:=ae g2
   obtain⟨n,rfl⟩:=Int.eq_ofNat_of_zero_le z0
   have hlt:n<l.length:=by omega
   obtain⟨h1,rfl⟩:=hC (show iO E (.imm h sz α l enc)=some x from hv)
   obtain⟨ao,cap,rfl,c1,c2,c3,ha,hl,ho,hr⟩:=Am h1
   ·
    have g4:=au g3 l[n]
    rcases iM g4 with⟨q,g5⟩|⟨q,_⟩
    ·have hx:l[n]?=some l[n]:=List.getElem?_eq_getElem hlt
     have hao:=ha (by omega)
     refine⟨.sy (.pim _ _ _),_,GQ (ρ:=ρ) ⟨ho _ (List.getElem_mem hlt),?_⟩,g5,fun w=> ?_⟩
     ·simpa[ajy,aiA] using hr n _ hx
     ·show(Instr.indexAt t (.slice ao l.length cap) (.int (dv kd) (n:Int))).run P w=_
      rw[hao,oT ht hs hlt]
      rfl
    ·exact absurd (by simp[hlt]) q
  case prow i n=>
   obtain⟨⟨z0,zl⟩,g3⟩:=ae g
   obtain⟨m,rfl⟩:=Int.eq_ofNat_of_zero_le z0
   have hlt:m<n:=by omega
   simp only[den,bx]at hv
   split at hv
   case h_2=>cases hv
   rename_i f hf
   rcases dY hv with⟨_,q,rfl⟩|⟨c,_,rfl⟩
   ·omega
   ·exact⟨_,.pointer (some ⟨f.b,m*sz+0,none⟩),by simp only[den,bx,hf];rfl,g3,fun w=>by rw[oT ht hs hlt,Nat.zero_add,Nat.add_zero]⟩
  case psub i sz' a n o oc=>
   obtain⟨g1,g2⟩:=aq g
   have g1:=ako g1
   subst g1
   obtain⟨⟨z0,zl⟩,g3⟩:=ae g2
   obtain⟨m,rfl⟩:=Int.eq_ofNat_of_zero_le z0
   have hlt:m<n:=by omega
   simp only[den,bx]at hv
   split at hv
   case h_2=>cases hv
   rename_i f hf
   rcases iZ hv with⟨_,q,_,rfl⟩|⟨c,_,rfl,hc,_⟩
   ·omega
   ·have hne:¬c=a:=by omega
    rw[if_neg hne]
    refine⟨_,.pointer (some ⟨f.b,(a+m)*sz+0,none⟩),by simp only[den,bx,hf];rfl,g3,fun w=> ?_⟩
    rw[oT ht hs hlt,Nat.add_mul,Nat.add_zero]
  case pfix i n cc=>
   obtain⟨⟨z0,zl⟩,g3⟩:=ae g
   obtain⟨m,rfl⟩:=Int.eq_ofNat_of_zero_le z0
   have hlt:m<n:=by omega
   simp only[den,bx]at hv
   split at hv
   case h_2=>cases hv
   rename_i f hf
   rcases sq hv with⟨_,q,_,rfl⟩|⟨c,_,rfl⟩
   ·omega
   ·exact⟨_,.pointer (some ⟨f.b,m*sz+0,none⟩),by simp only[den,bx,hf];rfl,g3,fun w=>by rw[oT ht hs hlt,Nat.zero_add,Nat.add_zero]⟩
 ·rcases bk g with⟨-,g⟩|⟨-,g⟩
  ·rcases jX g with⟨_,k1⟩|⟨j,o,n,c,rfl,k1⟩
   ·cases k1
   obtain⟨kd,z,rfl,k2⟩:=iQ hi k1
   obtain⟨q,rfl,hq,k3⟩:=tG k2
   rw[bW]at k3
   simp only[den]at hv
   split at hv
   ·rename_i f hf
    cases hv
    have hq:q<n:=by omega
    exact⟨_,.pointer (some ⟨f.b,o+q*sz,none⟩),by simp only[den,hf];rfl,k3,fun w=>oT ht hs hq w⟩
   ·cases hv
  ·exact afp ht hs hv hi g
end
section
variable {P:Program} {E:Env} {ρ:Ren} {G:GS} {F:List bo} {M:T} {nx:Nat} {w:World}
noncomputable def XB (agg:Bool) (n:Nat) (cs:List PL) (o:Nat) (K:AV→Bool):Bool:=br agg (BM (yN cs o) n fun l=>K (.agg (sQ l))) (dh (dV cs o) fun p=>K (FX p))
theorem Qe {agg:Bool} {n:Nat} {cs:List PL} {o b base:Nat} {K:AV→Bool} {t:TypeId} (hk:XB agg n cs o K=true) (hp:∀p∈cs,OkP E.M p) (hc:∀j v,(cs.map bQ)[j]?=some v→w.cell? ⟨b,base+j,none⟩=some v)
  (hag:kg P t=some agg) (hs:cJ P t=some n):∃u z,den E ρ u=some z∧K u=true∧(Instr.loadAt t (.pointer (some ⟨b,base+o,none⟩))).run P w= .ok z w:=by
 rcases bk hk with⟨rfl,g⟩|⟨rfl,g⟩
 ·obtain⟨g1,hle⟩:=yd g
  rw[vy]at g1 hle
  have hl:∀p∈(cs.drop o).take n,OkP E.M p:=fun p q=>hp p (List.mem_of_mem_drop (List.mem_of_mem_take q))
  refine⟨.agg (sQ ((cs.drop o).take n)),.agg (((cs.drop o).take n).map bQ).toArray,by simp only[den,Rq hl],g1,?_⟩
  have hlen:(((cs.drop o).take n).map bQ).length=n:=by simp only[akm,aky];omega
  have:=Go.Eng.run_loadCells (P:=P) (w:=w) b (base+o) (((cs.drop o).take n).map bQ) 0 #[] (fun j v hv=>by
   rw[Nat.zero_add,Nat.add_assoc]
   refine hc (o+j) v ?_
   rw[List.map_take,List.map_drop]at hv
   have hj:j<n:=by
    have:=(List.getElem?_eq_some_iff.1 hv).1
    rw[aky]at this;omega
   rw[akA hj,List.getElem?_drop]at hv
   exact hv)
  rw[hlen]at this
  simp[Instr.loadAt,Instr.sureAddr,loadVar,Go.Eng.run_isAgg hag,Go.Eng.run_sizeOf hs,loadCells,this]
 ·obtain⟨p,h1,g1⟩:=bF g
  rw[eF]at h1
  have hm:=akp h1
  have:=hc o (bQ p) (by rw[akD,h1];rfl)
  exact⟨FX p,bQ p,VB (hp p hm),g1,by simp[Instr.loadAt,Instr.sureAddr,loadVar,run_isAgg hag,load,Sem.run,this]⟩
noncomputable def iG (M:T) (i:Nat) (K:Nat→Nat→(α:Type)→List α→(α→List PL)→Bool):Bool:=dh (M.get i) fun ob=>AObj.casesOn ob (fun _ _ _ _=>false) (fun _ _=>false) (fun _ _ _ _=>false) false K (fun _ _ _ _ _ _ _=>false)
theorem eO {M:T} {i:Nat} {K:Nat→Nat→(α:Type)→List α→(α→List PL)→Bool} (h:iG M i K=true):∃Ty sz α l enc,M.get i=some (.prow Ty sz α l enc)∧K Ty sz α l enc=true:=by
 obtain⟨ob,h1,h2⟩:=bF h
 cases ob<;>first|exact⟨_,_,_,_,_,h1,h2⟩|cases h2
theorem fK {e:eD} {c Ty sz:Nat} {α:Type} {l:List α} {enc:α→List PL} (h:e.cap=c+1):cG e (.prow Ty sz α l enc)=true:=by
 unfold cG;rw[h];rfl
structure RowAt (E:Env) (w:World) (e:eD) (Ty sz:Nat) (ps:List PL) (n c:Nat) (arr:Array Value):Prop where
 heap:w.heap[e.b]?=some (.cells arr Ty (0,0))
 ok:∀p∈ps,OkP E.M p
 len:ps.length=n*sz
 size:arr.size=c*sz
 take:arr.toList.take (n*sz)=ps.map bQ
 le:n≤c
 max:c≤maxLen
theorem im {α:Type} {enc:α→List PL} {sz:Nat}:∀{l:List α},(∀x∈l,(enc x).length=sz)→(l.flatMap enc).length=l.length*sz
 |[],_=>by simp
 |x::l,h=>by
  rw[List.flatMap_cons,akk,h x (by simp),im fun y hy=>h y (by simp[hy]),List.length_cons,Nat.add_mul]
  omega
theorem Sim.prow (h:Sim E ρ G F M nx w) {i Ty sz:Nat} {α:Type} {l:List α} {enc:α→List PL} (hi:M.get i=some (.prow Ty sz α l enc)):
  ∃e,ρ i=some e∧0<sz∧((e.cap=0∧l=[])∨∃c arr,e.cap=c+1∧(∀x∈l,(enc x).length=sz)∧RowAt E w e Ty sz (l.flatMap enc) l.length c arr):=by
 obtain⟨e,h1,⟨q,ob,h2,arr,xs,rfl,h4,h5,h6,h7,h8,h9,h10⟩|⟨q,h3,h4⟩⟩:=h.objP hi
 ·have hc:e.cap≠0:=by
   intro hc
   simp[cG,hc]at q
  obtain⟨c,hc⟩:=Nat.exists_eq_succ_of_ne_zero hc
  obtain⟨p1,rfl⟩:=KZ h6
  rw[hc]at h7 h9 h10
  exact⟨e,h1,h4,.inr ⟨c,arr,hc,h5,h2,p1,im h5,by simpa using h7,h8,by simpa using h9,by simpa using h10⟩⟩
 ·refine⟨e,h1,h4,.inl ⟨?_,h3⟩⟩
  simp[cG]at q
  exact q
theorem RowAt.cell {e:eD} {Ty sz n c:Nat} {ps:List PL} {arr:Array Value} (r:RowAt E w e Ty sz ps n c arr) {j:Nat} {v:Value} (hv:(ps.map bQ)[j]?=some v):w.cell? ⟨e.b,j,none⟩=some v:=by
 rw[←r.take]at hv
 have hlt:j<n*sz:=by
  have:=(List.getElem?_eq_some_iff.1 hv).1
  rw[aky]at this;omega
 rw[akA hlt]at hv
 simp only[World.cell?,r.heap]
 simpa using hv
theorem AM {α:Type} {enc:α→List PL} {sz:Nat} {l:List α} {q:Nat} {x:α} (hl:∀x∈l,(enc x).length=sz) (hx:l[q]?=some x) {j:Nat} {p:PL} (hp:(enc x)[j]?=some p):(l.flatMap enc)[q*sz+j]?=some p:=by
 have:=DS (els:=l.map enc) (sz:=sz) (q:=q) (r:=j) (el:=enc x) (v:=p) (fun e he=>by
  obtain⟨y,hy,rfl⟩:=List.mem_map.1 he
  exact hl y hy) (by rw[akD,hx];rfl) hp
 rwa[←List.flatMap_def]at this
noncomputable def ldS (agg:Bool) (n:Nat) (v:AV) (M:T) (K:AV→Bool):Bool:=mE v fun s=>SY.casesOn s (fun _ _=>false) (fun _=>false) (fun _=>false) (fun _ _ _ _ _=>false) (fun _ _ cs=>XB agg n cs 0 K) (fun _ _=>false) (fun _ _ _ _ _ _=>false)
 (fun i sz q o=>iG M i fun _ sz' _ l enc=>ac (Nat.beq sz sz') (ac (aF (q<l.length)) (ah fun x=>br (aF (l[q]?=some x)) (XB agg n (enc x) o K) true))) (fun _ _ _=>false) (fun _=>false)
theorem aiY (h:Sim E ρ G F M nx w) {agg:Bool} {n:Nat} {v:AV} {K:AV→Bool} {x:Value} (hv:den E ρ v=some x) (hk:ldS agg n v M K=true) {t:TypeId} (hag:kg P t=some agg) (hs:cJ P t=some n):∃u z,den E ρ u=some z∧K u=true∧(Instr.loadAt t x).run P w= .ok z w:=by
 replace hk:=eV hk
 obtain⟨s,rfl,g⟩:=hk
 cases s<;>first|(cases g;done)|skip
 case pim b o cs=>
  obtain⟨⟨h1,h2⟩,rfl⟩:=IR (show bx E ρ (.pim b o cs)=some x from hv)
  exact Qe (b:=b) (base:=o) (o:=0) g h1 (fun j v hv=>h.cellM (h2 j v hv)) hag hs
 case rptr i sz q o=>
  obtain⟨e,he,rfl⟩:=wI (show bx E ρ (.rptr i sz q o)=some x from hv)
  obtain⟨Ty,sz',α,l,enc,hi,g1⟩:=eO g
  obtain⟨g2,g3⟩:=aq g1
  have g2:=ako g2
  subst g2
  obtain⟨hlt,g4⟩:=ae g3
  have hx:l[q]?=some l[q]:=List.getElem?_eq_getElem hlt
  obtain⟨e',q1,hsz,⟨_,q2⟩|⟨c,arr,q2,q3,r⟩⟩:=h.prow hi
  ·subst q2;simp at hlt
  rw[he]at q1;cases q1
  rcases iM (au g4 l[q]) with⟨_,g5⟩|⟨q,_⟩
  ·exact Qe (b:=e.b) (base:=q*sz) (o:=o) g5 (fun p hp=>r.ok p (List.mem_flatMap.2 ⟨_,List.getElem_mem hlt,hp⟩)) (fun j v hv=>by
    rw[akD]at hv
    rcases hp:(enc l[q])[j]? with _|p
    ·rw[hp]at hv;cases hv
    ·rw[hp]at hv
     have:=r.cell (j:=q*sz+j) (v:=v) (by rw[akD,AM q3 hx hp];exact hv)
     exact this) hag hs
  ·exact absurd hx q
noncomputable def VZ (agg:Bool) (n:Nat) (v:AV) (M:T) (K:AV→Bool):Bool:=br (eG v) (ldS agg n v M K) (br agg (aiX n v M K) (aiZ v M K))
theorem Rs (h:Sim E ρ G F M nx w) {agg:Bool} {n:Nat} {v:AV} {K:AV→Bool} {x:Value} (hv:den E ρ v=some x) (hk:VZ agg n v M K=true) {t:TypeId} (hag:kg P t=some agg) (hs:cJ P t=some n):∃u z,den E ρ u=some z∧K u=true∧(Instr.loadAt t x).run P w= .ok z w:=by
 rcases bk hk with⟨-,g⟩|⟨-,g⟩
 ·exact aiY h hv g hag hs
 ·rcases bk g with⟨rfl,g⟩|⟨rfl,g⟩
  ·exact afk h hv g hag hs
  ·exact afl h hv g hag
noncomputable def stS (n:Nat) (v x:AV) (M:T) (K:T→Bool):Bool:=mE v fun s=>SY.casesOn s (fun _ _=>false) (fun _=>false) (fun _=>false) (fun _ _ _ _ _=>false) (fun _ _ _=>false) (fun _ _=>false) (fun _ _ _ _ _ _=>false)
 (fun i sz q o=>iG M i fun Ty sz' α l enc=>ac (Nat.beq sz sz') (ac (Nat.beq (dN (cn x)) n) (ac (aF (q<l.length)) (Xo (cn x) fun ps=>ah fun y=>br (aF (l[q]?=some y)) (ax fun y'=>ac (aF (o+ps.length≤sz∧enc y'=(enc y).take o++ps++(enc y).drop (o+ps.length)))
  (T.set bI M i (some (.prow Ty sz α (l.set q y') enc)) K)) true)))) (fun _ _ _=>false) (fun _=>false)
noncomputable def stY (n:Nat) (v x:AV) (M:T) (K:T→Bool):Bool:=br (eG v) (stS n v x M K) (stX n v x M K)
theorem Vs {α:Type} {enc:α→List PL} {sz:Nat} {l:List α} {q o:Nat} {y y':α} {ps:List PL} (hl:∀x∈l,(enc x).length=sz) (hx:l[q]?=some y) (ho:o+ps.length≤sz) (he:enc y'=(enc y).take o++ps++(enc y).drop (o+ps.length)):
  (l.set q y').flatMap enc=(l.flatMap enc).take (q*sz+o)++ps++(l.flatMap enc).drop (q*sz+o+ps.length):=by
 have hmem:∀e∈l.map enc,e.length=sz:=fun e he=>by
  obtain⟨y,hy,rfl⟩:=List.mem_map.1 he
  exact hl y hy
 have hy:=hl y (akp hx)
 have:=SK (els:=l.map enc) (sz:=sz) (q:=q) (r:=o) (el:=enc y) (vs:=ps) hmem (by rw[akD,hx];rfl) (by omega)
 rw[List.flatMap_def,List.flatMap_def,←this,List.map_set]
 congr 1
 have hq:=(List.getElem?_eq_some_iff.1 hx).1
 rw[List.set_eq_take_append_cons_drop,if_pos (by simpa using hq),he]
 simp
theorem ah7 (hE:fu E) (h:Sim E ρ G F M nx w) {n:Nat} {v x:AV} {K:T→Bool} {p y:Value} (hv:den E ρ v=some p) (hx:den E ρ x=some y) (hk:stY n v x M K=true) {t:TypeId} (hs:cJ P t=some n):
  ∃M' w',Sim E ρ G F M' nx w'∧K M'=true∧(Instr.storeAt t p y).run P w= .ok () w':=by
 rcases bk hk with⟨-,g⟩|⟨-,g⟩
 ·replace g:=eV g
  obtain⟨s,rfl,g⟩:=g
  cases s<;>first|(cases g;done)|skip
  case rptr i sz q o=>
   obtain⟨e,he,rfl⟩:=wI (show bx E ρ (.rptr i sz q o)=some p from hv)
   obtain⟨Ty,sz',α,l,enc,hi,g1⟩:=eO g
   obtain⟨g2,g3⟩:=aq g1
   have g2:=ako g2
   subst g2
   obtain⟨g4,g5⟩:=aq g3
   obtain⟨hlt,g6⟩:=ae g5
   have hcx:=pw hE hx
   have hcl:=cL hcx
   have hn':(cn x).length=n:=by rw[←cF];exact ako g4
   obtain⟨ps,p1,p2,g7,p3⟩:=Lw hcx g6
   have hlx:l[q]?=some l[q]:=List.getElem?_eq_getElem hlt
   rcases iM (au g7 l[q]) with⟨_,g8⟩|⟨q,_⟩
   case inr=>exact absurd hlx q
   obtain⟨y',g9⟩:=bJ g8
   obtain⟨⟨ho,henc⟩,g10⟩:=ae g9
   obtain⟨M',hK,hg1,hg2⟩:=T.set_ok _ _ _ _ _ g10
   obtain⟨e',q1,hsz,⟨_,q2⟩|⟨c,arr,q2,q3,r⟩⟩:=h.prow hi
   ·subst q2;simp at hlt
   rw[he]at q1;cases q1
   have hlen:q*sz+o+y.cells.toList.length≤l.length*sz:=by
    rw[p2,akm]
    have:(q+1)*sz≤l.length*sz:=Nat.mul_le_mul_right _ (by omega)
    rw[Nat.add_mul,Nat.one_mul]at this
    omega
   have hle:l.length*sz≤arr.size:=by rw[r.size];exact Nat.mul_le_mul_right _ r.le
   obtain⟨w',hr,w1,w2,w3,w4,w5,w6⟩:=zJ (P:=P) (q*sz+o) y.cells.toList 0 w arr r.heap (by omega) (by
    rw[p2,List.all_map]
    exact List.all_eq_true.2 fun u hu=>GW (p1 u hu))
   rw[Nat.add_zero]at w1
   have hB:cG e (.prow Ty sz α l enc)=true:=fK q2
   have hsp:=wm y.cells.toList arr (q*sz+o) (by omega)
   have hfm:=Vs q3 hlx ho henc
   refine⟨M',w',h.turn (o':=.prow Ty sz α (l.set q y') enc) (ob':=.cells (fZ arr (q*sz+o) y.cells.toList) Ty (0,0)) hi he w2 w3 w4 (fun b _ hb=>w6 b hb) w1 ⟨fZ arr (q*sz+o) y.cells.toList,((l.set q y').flatMap enc).map bQ,rfl,hsz,?_,vz ?_,?_,?_,?_,?_⟩ hg1 hg2 hB (fK q2),hK,?_⟩
   ·intro x hx
    rcases List.mem_or_eq_of_mem_set hx with hx|rfl
    ·exact q3 x hx
    ·rw[henc]
     have:=q3 _ (akp hlx)
     simp only[akk,aky,akG]
     omega
   ·intro p hp
    rw[hfm]at hp
    simp only[akx]at hp
    rcases hp with(hp|hp)|hp
    ·exact r.ok p (List.mem_of_mem_take hp)
    ·exact p1 p hp
    ·exact r.ok p (List.mem_of_mem_drop hp)
   ·rw[rm,r.size,q2];simp
   ·rw[List.length_set,hsp,hfm,akw,akw,List.map_take,List.map_drop,p2,akm]
    have hlen':q*sz+o+(ps.map bQ).length≤l.length*sz:=by rw[←p2];exact hlen
    rw[akm]at hlen'
    have:=FY (arr:=arr.toList) (xs:=(l.flatMap enc).map bQ) (ys:=ps.map bQ) (o:=q*sz+o) (L:=l.length*sz) r.take (by rw[akm];exact hlen') (by rw[Array.length_toList];exact hle)
    rw[akm]at this
    exact this
   ·rw[List.length_set,q2];simpa using r.le
   ·rw[q2];simpa using r.max
   ·have hsz2:y.cells.size=n:=by rw[←Array.length_toList,hcl,hn']
    simp[Instr.storeAt,Instr.sureAddr,storeVar,Go.Eng.run_sizeOf hs,hsz2,hr]
 ·exact ah8 hE h hv hx g hs
end
section
variable {P:Program} {E:Env} {ρ:Ren} {G:GS} {F:List bo} {M:T} {nx:Nat} {w:World}
def HU (ao:Option Addr) (sz a b m:Nat):Value:=.slice (if m=a then ao else ao.map (·.add (a*sz))) (b - a) (m - a)
def Rz (h:Value) (sz a b:Nat):Value:=match h with|.slice ao _ cap=>HU ao sz a b cap|v=>v
def aj3 (h:Value) (sz a b m:Nat):Value:=match h with|.slice ao _ _=>HU ao sz a b m|v=>v
theorem Zr {M:oD} {ao:Option Addr} {n cap sz a b m:Nat} {α:Type} {l:List α} {enc:α→List PL} (h:OkP M (.imm (.slice ao n cap) sz α l enc)) (h1:a≤b) (h2:b≤l.length) (h3:b≤m) (h4:m≤cap):
  OkP M (.imm (HU ao sz a b m) sz α ((l.drop a).take (b - a)) enc):=by
 obtain⟨ao',cap',hh,c1,c2,c3,ha,hl,ho,hr⟩:=Am h
 injection hh with e1 e2 e3
 subst e1;subst e2;subst e3
 have hlen:((l.drop a).take (b - a)).length=b - a:=by rw[aky,akG];omega
 refine .imm (if m=a then ao else ao.map (·.add (a*sz))) (m - a) (by rw[hlen];rfl) (by rw[hlen];omega) (by omega) c3 (fun q=> ?_) (fun x hx=>hl x (List.mem_of_mem_drop (List.mem_of_mem_take hx))) (fun x hx=>ho x (List.mem_of_mem_drop (List.mem_of_mem_take hx))) (fun i x hx=> ?_)
 ·rw[hlen]at q
  rw[if_neg (by omega),ha (by omega)]
  simp[dl,blk,wv]
 ·have hi:i<b - a:=by
   have:=(List.getElem?_eq_some_iff.1 hx).1
   omega
  rw[akA hi,List.getElem?_drop]at hx
  have:=hr (a+i) x hx
  rw[if_neg (by omega),ha (by omega)]
  rw[ha (by omega)]at this
  simp only[Option.map_some,dl,blk,wv]at this ⊢
  rw[Nat.add_mul,←Nat.add_assoc]at this
  exact this
noncomputable def uS (d:Int) (o:Option AV) (K:Int→Bool):Bool:=Option.casesOn o (K d) fun v=>oB v fun _ z=>K z
theorem jT {d:Int} {o:Option AV} {xo:Option Value} {K:Int→Bool} (hd:vA E ρ o xo) (h:uS d o K=true):∃z,K z=true∧((o=none∧xo=none∧z=d)∨∃k,xo=some (.int (dv k) z)):=by
 rcases hd with⟨rfl,rfl⟩|⟨v,y,rfl,rfl,hv⟩
 ·exact⟨d,h,.inl ⟨rfl,rfl,rfl⟩⟩
 ·obtain⟨k,z,rfl,g⟩:=iQ (K:=fun _ z=>K z) hv h
  exact⟨z,g,.inr ⟨k,rfl⟩⟩
noncomputable def ajQ (sz:Nat) (v:AV) (lo hi mx:Option AV) (M:T) (K:AV→Bool):Bool:=mE v fun s=>SY.casesOn s (fun _ _=>false) (fun _=>false) (fun _=>false)
 (fun h sz' α l enc=>ac (Nat.beq sz sz') (uS 0 lo fun a=>uS (l.length:Int) hi fun b=>Option.casesOn mx
  (ac (aF (0≤a∧a≤b∧b≤(l.length:Int))) (K (.sy (.imm (Rz h sz a.toNat b.toNat) sz α ((l.drop a.toNat).take (b.toNat - a.toNat)) enc))))
  (fun _=>ac (mj hi) (uS 0 mx fun m=>ac (aF (0≤a∧a≤b∧b≤m∧m≤(l.length:Int))) (K (.sy (.imm (aj3 h sz a.toNat b.toNat m.toNat) sz α ((l.drop a.toNat).take (b.toNat - a.toNat)) enc)))))))
 (fun _ _ _=>false)
 (fun i n=>iG M i fun _ sz' _ l _=>ac (Nat.beq sz sz') (uS 0 lo fun a=>uS (n:Int) hi fun b=>Option.casesOn mx
  (ac (aF (n=l.length∧0≤a∧a≤b∧b≤(n:Int))) (K (.sy (.psub i sz a.toNat (b.toNat - a.toNat) 0 none))))
  (fun _=>ac (mj hi) (uS 0 mx fun m=>ac (aF (n=l.length∧a=0∧b=(n:Int)∧m=(n:Int))) (K (.sy (.pfix i n n)))))))
 (fun i sz0 a n o oc=>iG M i fun _ sz' _ _ _=>ac (Nat.beq sz sz') (ac (Nat.beq sz sz0) (uS 0 lo fun x=>uS (n:Int) hi fun y=>Option.casesOn mx (ac (aF (0≤x∧x≤y∧y≤(n:Int))) (Option.casesOn oc (ah fun o:Nat=>K (.sy (.psub i sz (a+x.toNat) (y.toNat - x.toNat) o none))) (fun c=>K (.sy (.psub i sz (a+x.toNat) (y.toNat - x.toNat) (if c=a then o else a*sz) (some c)))))) (fun _=>false)))) (fun _ _ _ _=>false) (fun _ _ _=>false) (fun _=>false)
noncomputable def aif (sz:Nat) (v:AV) (lo hi mx:Option AV) (M:T) (K:AV→Bool):Bool:=br (eG v) (ajQ sz v lo hi mx M K) (aig sz v lo hi mx M K)
theorem eQ {o:Option AV} {xo:Option Value} {z d:Int} {n dn:Nat} (hz:z=(n:Int)) (hd:d=(dn:Int)) (h:(o=none∧xo=none∧z=d)∨∃k,xo=some (.int (dv k) z)):(xo=none∧n=dn)∨∃k,xo=some (.int k (.ofNat n)):=by
 rcases h with⟨_,h1,h2⟩|⟨k,h1⟩
 ·exact .inl ⟨h1,by omega⟩
 ·exact .inr ⟨dv k,by rw[h1,hz];rfl⟩
theorem aew (h:Sim E ρ G F M nx w) {sz:Nat} {v:AV} {lo hi mx:Option AV} {K:AV→Bool} {x:Value} {xl xh xm:Option Value} {t e:TypeId} (ht:P.underlying t=some (.slice e)) (hs:cJ P e=some sz) (hv:den E ρ v=some x)
  (hlo:vA E ρ lo xl) (hhi:vA E ρ hi xh) (hmx:vA E ρ mx xm) (hk:aif sz v lo hi mx M K=true):∃u z,den E ρ u=some z∧K u=true∧(Instr.sliceAt t x xl xh xm).run P w= .ok z w:=by
 rcases bk hk with⟨-,g⟩|⟨-,g⟩
 case inr=>exact aex h ht hs hv hlo hhi hmx g
 have hrun:∀(ao:Option Addr) (n c l hh m:Nat),(Instr.sliceBounds true n c xl xh xm).run P w= .ok (l,hh,m) w→(Instr.sliceAt t (.slice ao n c) xl xh xm).run P w= .ok (.slice (if m=l then ao else ao.map (·.add (l*sz))) (hh - l) (m - l)) w:=by
  intro ao n c l hh m hb
  simp[Instr.sliceAt,Instr.slice,run_underlying ht,hb,Go.Eng.run_sizeOf hs]
 have hno:mx=none→xm=none:=fun q=>by
  rcases hmx with⟨_,h2⟩|⟨_,_,h2,_⟩
  ·exact h2
  ·rw[q]at h2;cases h2
 have hsome:mj hi=true→xh≠none:=fun q=>by
  rcases hhi with⟨p,_⟩|⟨_,_,_,p,_⟩
  ·rw[p]at q;cases q
  ·rw[p];simp
 replace g:=eV g
 obtain⟨s,rfl,g⟩:=g
 cases s<;>first|(cases g;done)|skip
 case imm hh sz' α l enc=>
  obtain⟨g1,g2⟩:=aq g
  have g1:=ako g1
  subst g1
  obtain⟨a,g3,ha⟩:=jT hlo g2
  obtain⟨b,g4,hb⟩:=jT hhi g3
  obtain⟨h1,rfl⟩:=hC (show iO E (.imm hh sz α l enc)=some x from hv)
  obtain⟨ao,cap,rfl,c1,c2,_⟩:=Am h1
  cases mx with
  |none=>
   have hxm:=hno rfl
   subst hxm
   obtain⟨⟨b1,b2,b3⟩,g5⟩:=ae g4
   obtain⟨a,rfl⟩:=Int.eq_ofNat_of_zero_le b1
   obtain⟨b,rfl⟩:=Int.eq_ofNat_of_zero_le (show 0≤b by omega)
   have hbd:=dQ (P:=P) (isS:=true) (len:=l.length) (cap:=cap) (eQ rfl (show(0:Int)=((0:Nat):Int) from rfl) ha) (eQ rfl rfl hb) (.inl ⟨rfl,rfl⟩) (fun q=>absurd rfl q) (by omega) (by omega) (akz cap) w
   exact⟨.sy (.imm (HU ao sz a b cap) sz α ((l.drop a).take (b - a)) enc),HU ao sz a b cap,qC (Zr h1 (by omega) (by omega) (by omega) (akz cap)),g5,hrun ao l.length cap a b cap hbd⟩
  |some mv=>
   obtain⟨q1,g5⟩:=aq (b:=mj hi) g4
   obtain⟨m,g6,hm⟩:=jT hmx g5
   obtain⟨⟨b1,b2,b3,b4⟩,g7⟩:=ae g6
   obtain⟨a,rfl⟩:=Int.eq_ofNat_of_zero_le b1
   obtain⟨b,rfl⟩:=Int.eq_ofNat_of_zero_le (show 0≤b by omega)
   obtain⟨m,rfl⟩:=Int.eq_ofNat_of_zero_le (show 0≤m by omega)
   have hm':∃k,xm=some (.int k (.ofNat m)):=by
    rcases hm with⟨q,_⟩|⟨k,q⟩
    ·cases q
    ·exact⟨dv k,q⟩
   have hbd:=dQ (P:=P) (isS:=true) (len:=l.length) (cap:=cap) (eQ rfl (show(0:Int)=((0:Nat):Int) from rfl) ha) (eQ rfl rfl hb) (.inr hm') (fun _=>hsome q1) (by omega) (by omega) (by omega) w
   exact⟨.sy (.imm (HU ao sz a b m) sz α ((l.drop a).take (b - a)) enc),HU ao sz a b m,qC (Zr h1 (by omega) (by omega) (by omega) (by omega)),g7,hrun ao l.length cap a b m hbd⟩
 case psub i sz0 d n o oc=>
  obtain⟨Ty,sz',α,l,enc,hi',g1⟩:=eO g
  obtain⟨g2,g3⟩:=aq g1
  have g2:=ako g2
  subst g2
  obtain⟨g5,g6⟩:=aq g3
  have g5:=ako g5
  subst g5
  obtain⟨a,g7,ha⟩:=jT hlo g6
  obtain⟨b,g4,hb⟩:=jT hhi g7
  simp only[den,bx]at hv
  obtain⟨f,q1,hsz,hrow⟩:=h.prow hi'
  rw[q1]at hv
  cases mx with
  |some mv=>cases g4
  |none=>
   have hxm:=hno rfl
   subst hxm
   obtain⟨⟨b1,b2,b3⟩,g9⟩:=ae g4
   obtain⟨a,rfl⟩:=Int.eq_ofNat_of_zero_le b1
   obtain⟨b,rfl⟩:=Int.eq_ofNat_of_zero_le (show 0≤b by omega)
   rcases iZ hv with⟨q2,rfl,rfl,rfl⟩|⟨c,q2,rfl,hc,hq⟩
   ·have ea:a=0:=by omega
    have eb:b=0:=by omega
    subst ea;subst eb
    have hbd:=dQ (P:=P) (isS:=true) (len:=0) (cap:=0) (eQ rfl (show(0:Int)=((0:Nat):Int) from rfl) ha) (eQ rfl rfl hb) (.inl ⟨rfl,rfl⟩) (fun q=>absurd rfl q) (by omega) (by omega) (akz 0) w
    cases oc with
    |none=>
     refine⟨_,_,?_,au g9 0,hrun none 0 0 0 0 0 hbd⟩
     simp[den,bx,q1,sT,q2]
    |some c=>
     refine⟨_,_,?_,g9,hrun none 0 0 0 0 0 hbd⟩
     simp[den,bx,q1,sT,q2]
   ·have hbd:=dQ (P:=P) (isS:=true) (len:=n) (cap:=c - d) (eQ rfl (show(0:Int)=((0:Nat):Int) from rfl) ha) (eQ rfl rfl hb) (.inl ⟨rfl,rfl⟩) (fun q=>absurd rfl q) (by omega) (by omega) (by omega) w
    have e1:(a:Int).toNat=a:=Int.toNat_natCast a
    have e2:(b:Int).toNat=b:=Int.toNat_natCast b
    have key:∀oc':Option Nat,(∀q,oc'=some q→q=c)→den E ρ (.sy (.psub i sz (d+(a:Int).toNat) ((b:Int).toNat - (a:Int).toNat) (if c=d then o else d*sz) oc'))=some (.slice (if c - d=a then some ⟨f.b,if c=d then o else d*sz,none⟩ else (some ⟨f.b,if c=d then o else d*sz,none⟩:Option Addr).map (·.add (a*sz))) (b - a) (c - d - a)):=fun oc' hoc=>by
     simp only[den,bx,q1,sT,q2]
     rw[if_pos ⟨by simp;omega,hoc⟩]
     by_cases q:c=d+a
     ·rw[if_pos (by omega),if_pos (show c - d=a by omega),e1,e2,Nat.sub_sub]
     ·rw[if_neg (by omega),if_neg (show¬c - d=a by omega),e1,e2,Nat.sub_sub]
      have hne:¬c=d:=by omega
      simp[hne,dl,Nat.add_mul]
    cases oc with
    |none=>exact⟨_,_,key none (fun q e=>by cases e),au g9 _,hrun _ n (c - d) a b (c - d) hbd⟩
    |some c0=>
     obtain rfl:=hq c0 rfl
     exact⟨_,_,key (some c0) (fun q e=>by cases e;rfl),g9,hrun _ n (c0 - d) a b (c0 - d) hbd⟩
 case prow i n=>
  obtain⟨Ty,sz',α,l,enc,hi',g1⟩:=eO g
  obtain⟨g2,g3⟩:=aq g1
  have g2:=ako g2
  subst g2
  obtain⟨a,g3,ha⟩:=jT hlo g3
  obtain⟨b,g4,hb⟩:=jT hhi g3
  simp only[den,bx]at hv
  obtain⟨f,q1,hsz,hrow⟩:=h.prow hi'
  rw[q1]at hv
  cases mx with
  |none=>
   have hxm:=hno rfl
   subst hxm
   obtain⟨⟨b0,b1,b2,b3⟩,g5⟩:=ae g4
   obtain⟨a,rfl⟩:=Int.eq_ofNat_of_zero_le b1
   obtain⟨b,rfl⟩:=Int.eq_ofNat_of_zero_le (show 0≤b by omega)
   rcases hrow with⟨q2,q3⟩|⟨c,arr,q2,q3,r⟩
   ·rcases dY hv with⟨_,rfl,rfl⟩|⟨c,q4,_⟩
    ·have ea:a=0:=by omega
     have eb:b=0:=by omega
     subst ea;subst eb
     have hbd:=dQ (P:=P) (isS:=true) (len:=0) (cap:=0) (eQ rfl (show(0:Int)=((0:Nat):Int) from rfl) ha) (eQ rfl rfl hb) (.inl ⟨rfl,rfl⟩) (fun q=>absurd rfl q) (by omega) (by omega) (akz 0) w
     refine⟨_,_,?_,g5,hrun none 0 0 0 0 0 hbd⟩
     simp[den,bx,q1,sT,q2]
    ·omega
   ·rcases dY hv with⟨q4,_⟩|⟨c',q4,rfl⟩
    ·omega
    ·have:c'=c:=by omega
     subst this
     have hle:=r.le
     have hbd:=dQ (P:=P) (isS:=true) (len:=n) (cap:=c') (eQ rfl (show(0:Int)=((0:Nat):Int) from rfl) ha) (eQ rfl rfl hb) (.inl ⟨rfl,rfl⟩) (fun q=>absurd rfl q) (by omega) (by omega) (akz c') w
     refine⟨_,_,?_,g5,hrun _ n c' a b c' hbd⟩
     simp only[den,bx,q1,sT,q2]
     rw[if_pos ⟨by omega,fun q e=>by cases e⟩]
     by_cases q:c'=a
     ·simp[q]
     ·simp[q,dl]
  |some mv=>
   obtain⟨p1,g5⟩:=aq (b:=mj hi) g4
   obtain⟨m,g6,hm⟩:=jT hmx g5
   obtain⟨⟨b0,b1,b2,b3⟩,g7⟩:=ae g6
   subst b1;subst b2;subst b3
   have hm':∃k,xm=some (.int k (.ofNat n)):=by
    rcases hm with⟨q,_⟩|⟨k,q⟩
    ·cases q
    ·exact⟨dv k,q⟩
   rcases hrow with⟨q2,q3⟩|⟨c,arr,q2,q3,r⟩
   ·rcases dY hv with⟨_,rfl,rfl⟩|⟨c,q4,_⟩
    ·have hbd:=dQ (P:=P) (isS:=true) (len:=0) (cap:=0) (eQ (n:=0) rfl (show(0:Int)=((0:Nat):Int) from rfl) ha) (eQ rfl rfl hb) (.inr hm') (fun _=>hsome p1) (by omega) (by omega) (akz 0) w
     refine⟨_,_,?_,g7,hrun none 0 0 0 0 0 hbd⟩
     simp[den,bx,q1,LW,q2]
    ·omega
   ·rcases dY hv with⟨q4,_⟩|⟨c',q4,rfl⟩
    ·omega
    ·have:c'=c:=by omega
     subst this
     have hle:=r.le
     have hbd:=dQ (P:=P) (isS:=true) (len:=n) (cap:=c') (eQ (n:=0) rfl (show(0:Int)=((0:Nat):Int) from rfl) ha) (eQ rfl rfl hb) (.inr hm') (fun _=>hsome p1) (by omega) (by omega) (by omega) w
     refine⟨_,_,?_,g7,hrun _ n c' 0 n n hbd⟩
     simp only[den,bx,q1,LW,q2]
     by_cases q:n=0
     ·simp[q]
     ·simp[q,dl]
def sP (h:Value):Prop:=∃n c,h= .slice none n c
noncomputable def aie (v:AV) (lo hi:Option AV) (K:AV→Bool):Bool:=Et v fun l=>uS 0 lo fun a=>uS (l.length:Int) hi fun b=>ac (aF (0≤a∧a≤b∧b≤(l.length:Int))) (K (.sy (.str ((l.drop a.toNat).take (b.toNat - a.toNat)))))
theorem aev {v:AV} {lo hi:Option AV} {K:AV→Bool} {x:Value} {xl xh:Option Value} {t:TypeId} (ht:P.underlying t=some .string) (hv:den E ρ v=some x)
  (hlo:vA E ρ lo xl) (hhi:vA E ρ hi xh) (hk:aie v lo hi K=true):∃u z,den E ρ u=some z∧K u=true∧∀w,(Instr.sliceAt t x xl xh none).run P w= .ok z w:=by
 obtain⟨l,rfl,g1⟩:=mG hv hk
 obtain⟨a,g3,ha⟩:=jT hlo g1
 obtain⟨b,g4,hb⟩:=jT hhi g3
 obtain⟨⟨b1,b2,b3⟩,g5⟩:=ae g4
 obtain⟨a,rfl⟩:=Int.eq_ofNat_of_zero_le b1
 obtain⟨b,rfl⟩:=Int.eq_ofNat_of_zero_le (show 0≤b by omega)
 refine⟨_,_,rfl,g5,fun w=> ?_⟩
 have hsz:ByteArray.size ⟨l.toArray⟩=l.length:=by simp[ByteArray.size]
 have hbd:=dQ (P:=P) (isS:=false) (len:=l.length) (cap:=l.length) (eQ rfl (show(0:Int)=((0:Nat):Int) from rfl) ha) (eQ rfl rfl hb) (.inl ⟨rfl,rfl⟩) (fun q=>absurd rfl q) (by omega) (by omega) (akz _) w
 have hx:ByteArray.extract ⟨l.toArray⟩ a b=⟨((l.drop a).take (b - a)).toArray⟩:=by
  apply ByteArray.ext
  rw[ByteArray.data_extract]
  apply Array.ext'
  simp[List.extract]
 simp[Instr.sliceAt,Instr.slice,run_underlying ht,hsz,hbd,hx,S]
noncomputable def aj0 (ne:Bool) (kd:Nat) (v:AV) (K:AV→Bool):Bool:=ac (Nat.beq kd 2) (mE v fun s=>SY.casesOn s (fun _ _=>false) (fun _=>false) (fun _=>false)
 (fun h _ _ l _=>br (aF (sP h→l=[])) (Bool.rec (K (.sy (.bool (sP h)))) (K (.sy (.bool (¬sP h)))) ne) true) (fun _ _ _=>false) (fun _ n=>ah fun p:Prop=>br (aF (p→n=0)) (Bool.rec (K (.sy (.bool p))) (K (.sy (.bool (¬p)))) ne) true) (fun _ _ _ _ _ _=>false) (fun _ _ _ _=>false) (fun _ _ _=>false) (fun _=>false))
noncomputable def ai5 (ne:Bool) (kd:Nat) (v:AV) (K:AV→Bool):Bool:=br (eG v) (aj0 ne kd v K) (ai6 ne kd v K)
theorem VI (p:Prop):aF (¬p)= !aF p:=by
 by_cases hp:p
 ·rw[prB_true.2 hp,prB_false.2 (fun q=>q hp)];rfl
 ·rw[prB_false.2 hp,prB_true.2 hp];rfl
theorem afs {ne:Bool} {kd:Nat} {v:AV} {K:AV→Bool} {x:Value} {t:TypeId} {y:Value} (hn:Qr P t kd=some y) (h1:den E ρ v=some x) (h:ai5 ne kd v K=true) (p:Operand) (c:Value):
  ∃u z,den E ρ u=some z∧K u=true∧∀w,((do eqGuard (bif ne then .neq else .eql) t p (.const c) x y;binOp (bif ne then .neq else .eql) t x y):Sem Value).run P w= .ok z w:=by
 rcases bk h with⟨-,g⟩|⟨-,g⟩
 case inr=>exact afu hn h1 g p c
 obtain⟨g1,g2⟩:=aq g
 have g1:=ako g1
 subst g1
 have hty:∃e,P.underlying t=some (.slice e)∧y= .slice none 0 0:=by
  unfold Qr at hn
  split at hn<;>first|(cases hn;done)|skip
  all_goals(rename_i q;first|(cases hn;exact⟨_,by assumption,rfl⟩)|skip)
  all_goals simp_all
 obtain⟨e,hu,rfl⟩:=hty
 have hr:∀(ao:Option Addr) (n cc:Nat) (w:World),((do eqGuard (bif ne then .neq else .eql) t p (.const c) (.slice ao n cc) (.slice none 0 0);binOp (bif ne then .neq else .eql) t (.slice ao n cc) (.slice none 0 0)):Sem Value).run P w= .ok (.bool (bif ne then !ao.isNone else ao.isNone)) w:=by
  intro ao n cc w
  have ho:∀x y:Value,Op.equal t x y=Op.equalIn (9999+1) t x y:=fun _ _=>rfl
  cases ne<;>simp[eqGuard,binOp,ho,DX hu]
 replace g2:=eV g2
 clear g h
 obtain⟨s,rfl,g⟩:=g2
 cases s<;>first|(cases g;done)|skip
 case imm hh sz α l enc=>
  obtain⟨h1,rfl⟩:=hC (show iO E (.imm hh sz α l enc)=some x from h1)
  obtain⟨ao,cap,rfl,_,_,_,ha,_⟩:=Am h1
  have hl0:sP (.slice ao l.length cap)→l=[]:=fun⟨_,_,q⟩=>by
   injection q with q
   subst q
   rcases Nat.eq_zero_or_pos l.length with z|z
   ·exact List.eq_nil_of_length_eq_zero z
   ·exact absurd (ha z) (by simp)
  have g:(Bool.rec (K (.sy (.bool (sP (.slice ao l.length cap))))) (K (.sy (.bool (¬sP (.slice ao l.length cap))))) ne:Bool)=true:=by
   have g':br (aF (sP (.slice ao l.length cap)→l=[])) (Bool.rec (K (.sy (.bool (sP (.slice ao l.length cap))))) (K (.sy (.bool (¬sP (.slice ao l.length cap))))) ne) true=true:=g
   rwa[prB_true.2 hl0]at g'
  have hnil:aF (sP (.slice ao l.length cap))=ao.isNone:=by
   cases ao with
   |none=>exact prB_true.2 ⟨_,_,rfl⟩
   |some a=>exact prB_false.2 (fun⟨_,_,q⟩=>by injection q with q;cases q)
  cases ne with
  |false=>exact⟨.sy (.bool (sP (.slice ao l.length cap))),_,rfl,g,fun w=>by rw[hnil];exact hr ao _ _ w⟩
  |true=>exact⟨.sy (.bool (¬sP (.slice ao l.length cap))),_,rfl,g,fun w=>by rw[VI,hnil];exact hr ao _ _ w⟩
 case prow i n=>
  simp only[den,bx]at h1
  split at h1
  case h_2=>cases h1
  have key:∃ao n' c',x= .slice ao n' c'∧(ao.isNone=true→n=0):=by
   rcases dY h1 with⟨_,rfl,rfl⟩|⟨c,_,rfl⟩
   ·exact⟨_,_,_,rfl,fun _=>rfl⟩
   ·exact⟨_,_,_,rfl,fun q=>by cases q⟩
  obtain⟨ao,n',c',rfl,hn0⟩:=key
  rcases iM (au g (ao.isNone=true)) with⟨_,g⟩|⟨q,_⟩
  ·cases ne with
   |false=>exact⟨.sy (.bool (ao.isNone=true)),_,rfl,g,fun w=>by rw[zM];exact hr ao _ _ w⟩
   |true=>exact⟨.sy (.bool (¬ao.isNone=true)),_,rfl,g,fun w=>by rw[VI,zM];exact hr ao _ _ w⟩
  ·exact absurd hn0 q
theorem Sim.freeze (h:Sim E ρ G F M nx w) {i:Nat} {o:AObj} {e:eD} {M':T} (hi:M.get i=some o) (he:ρ i=some e) (hB:cG e o=true) (h1:M'.get i=none) (h2:∀m,m≠i→M'.get m=M.get m):
  ∃ob E',GT ρ E E'∧E'.at_=E.at_∧E'.M e.b=some ob∧ORel E ρ e o ob∧Sim E' ρ G F M' nx w:=by
 obtain⟨c,hh,ho,hinj⟩:=h.ex
 obtain⟨f,a1,⟨_,ob,a2,a3⟩|⟨q,_⟩⟩:=ho i o hi
 case inr=>rw[he]at a1;cases a1;rw[hB]at q;cases q
 rw[he]at a1;cases a1
 obtain⟨A,B,rfl⟩:=List.append_of_mem a2
 have hh':Holds {G with M:=E.M} w ([(e.b,ob)]::(A++B)::F):=hh.perm (by
  simp only[akq,List.cons_append,aks,List.append_assoc]
  exact List.perm_middle.symm)
 obtain⟨t1,t2,t3⟩:=hh'.toG
 refine⟨ob,⟨E.at_,(GS.add {G with M:=E.M} [(e.b,ob)]).M⟩,⟨fun _ _ _=>rfl,t1.mem⟩,rfl,t3 (e.b,ob) (by simp),a3,⟨A++B,t2,fun k o2 hk=> ?_,fun k l e' f' o1 o2 hk hl he' hf' hb1 hb2 hb=> ?_⟩,MLe.trans h.mem t1.mem,h.fresh⟩
 ·have hki:k≠i:=fun q=>by subst q;rw[h1]at hk;cases hk
  rw[h2 k hki]at hk
  obtain⟨f,b1,⟨b0,ob2,b2,b3⟩|b4⟩:=ho k o2 hk
  ·refine⟨f,b1,.inl ⟨b0,ob2,?_,ORel.env (E:=E) (E':=⟨E.at_,(GS.add {G with M:=E.M} [(e.b,ob)]).M⟩) ⟨fun _ _ _=>rfl,t1.mem⟩ b3⟩⟩
   simp only[akx,List.mem_cons]at b2 ⊢
   rcases b2 with b2|b2|b2
   ·exact .inl b2
   ·exfalso
    injection b2 with b2 _
    exact hki (hinj k i f e _ _ hk hi b1 he b0 hB b2)
   ·exact .inr b2
  ·exact⟨f,b1,.inr b4⟩
 ·have hki:k≠i:=fun q=>by subst q;rw[h1]at hk;cases hk
  have hli:l≠i:=fun q=>by subst q;rw[h1]at hl;cases hl
  rw[h2 k hki]at hk
  rw[h2 l hli]at hl
  exact hinj k l e' f' _ _ hk hl he' hf' hb1 hb2 hb
theorem aix {E':Env} {e:eD} {Ty sz c m:Nat} {α:Type} {l:List α} {enc:α→List PL} {arr:Array Value} (hm:MLe E.M E'.M) (hM:E'.M e.b=some (.cells arr Ty (0,0))) (hsz:0<sz) (hl:∀x∈l,(enc x).length=sz) (r:RowAt E w e Ty sz (l.flatMap enc) l.length c arr) (h1:l.length≤m) (h2:m≤c):
  OkP E'.M (.imm (.slice (some ⟨e.b,0,none⟩) l.length m) sz α l enc):=by
 refine .imm (some ⟨e.b,0,none⟩) m rfl h1 (Nat.le_trans h2 r.max) hsz (fun _=>rfl) hl (fun x hx p hp=>(r.ok p (List.mem_flatMap.2 ⟨x,hx,hp⟩)).mono hm) (fun i x hx j v hv=> ?_)
 rw[akD]at hv
 rcases hp:(enc x)[j]? with _|p
 ·rw[hp]at hv;cases hv
 rw[hp]at hv
 have hf:=AM hl hx hp
 have:((l.flatMap enc).map bQ)[i*sz+j]?=some v:=by rw[akD,hf];exact hv
 rw[←r.take]at this
 have hlt:i*sz+j<l.length*sz:=by
  have:=(List.getElem?_eq_some_iff.1 this).1
  rw[aky]at this;omega
 rw[akA hlt]at this
 simp only[blk,wv,Nat.zero_add,mf,hM]
 simpa using this
noncomputable def ab4 (i n:Nat) (M:T) (K:AV→T→Bool):Bool:=iG M i fun _ sz α l enc=>ac (aF (n=l.length)) (T.set bI M i none fun M'=>ah fun h:Value=>K (.sy (.imm h sz α l enc)) M')
noncomputable def Yb (v:AV) (M:T) (K:AV→T→Bool):Bool:=br (eG v) (mE v fun s=>SY.casesOn s (fun _ _=>K v M) (fun _=>K v M) (fun _=>K v M) (fun _ _ _ _ _=>K v M) (fun _ _ _=>false) (fun i n=>ab4 i n M K) (fun _ _ _ _ _ _=>false) (fun _ _ _ _=>false) (fun i n m=>ac (aF (n=m)) (ab4 i n M K)) (fun _=>false))
 (toP v fun _=>K v M)
theorem abp {v:AV} {x:Value} {K:PL→Bool} (hd:den E ρ v=some x) (h:toP v K=true):den E (fun _=>none) v=some x:=by
 cases v<;>first|(cases h;done)|exact hd|skip
 case sy s=>
  cases s<;>first|(cases h;done)|exact hd
theorem Wk (h:Sim E ρ G F M nx w) {i n m:Nat} {x:Value} {K:AV→T→Bool} (hd:bx E ρ (.prow i n)=some x∨(n=m∧bx E ρ (.pfix i n m)=some x)) (hkk:ab4 i n M K=true):
  ∃E' M' v,GT ρ E E'∧E'.at_=E.at_∧Sim E' ρ G F M' nx w∧den E' (fun _=>none) v=some x∧K v M'=true:=by
 obtain⟨Ty,sz,α,l,enc,hi,g1⟩:=eO hkk
 obtain⟨hn,g2⟩:=ae g1
 obtain⟨M',g3,s1,s2⟩:=T.set_ok _ _ _ _ _ g2
 obtain⟨e,q1,hsz,hrow⟩:=h.prow hi
 have hform:(e.cap=0∧n=0∧x= .slice none 0 0)∨∃c mm,e.cap=c+1∧x= .slice (some ⟨e.b,0,none⟩) n mm∧(mm=c∨mm=n):=by
  rcases hd with hd|⟨rfl,hd⟩
  ·simp only[bx,q1]at hd
   rcases dY hd with q|⟨c,q2,q3⟩
   ·exact .inl q
   ·exact .inr ⟨c,c,q2,q3,.inl rfl⟩
  ·simp only[bx,q1]at hd
   rcases sq hd with⟨q,q2,_,q3⟩|⟨c,q2,q3⟩
   ·exact .inl ⟨q,q2,q3⟩
   ·exact .inr ⟨c,n,q2,q3,.inr rfl⟩
 rcases hrow with⟨q2,q3⟩|⟨c,arr,q2,q3,r⟩
 ·rcases hform with⟨_,_,rfl⟩|⟨c,_,q4,_⟩
  ·subst q3
   refine⟨E,M',_,⟨fun _ _ _=>rfl,MLe.refl _⟩,rfl,?_,?_,au g3 (.slice none 0 0)⟩
   ·obtain⟨cc,hh,ho,hinj⟩:=h.ex
    refine⟨⟨cc,hh,fun k o2 hk=> ?_,fun k l e' f' o1 o2 hk hl=> ?_⟩,h.mem,h.fresh⟩
    ·have hki:k≠i:=fun q=>by subst q;rw[s1]at hk;cases hk
     rw[s2 k hki]at hk
     exact ho k o2 hk
    ·have hki:k≠i:=fun q=>by subst q;rw[s1]at hk;cases hk
     have hli:l≠i:=fun q=>by subst q;rw[s1]at hl;cases hl
     rw[s2 k hki]at hk
     rw[s2 l hli]at hl
     exact hinj k l e' f' o1 o2 hk hl
   ·show iO E _=_
    exact qC (.imm none 0 rfl (by simp) (by decide) hsz (fun q=>by simp at q) (fun x hx=>by simp at hx) (fun x hx=>by simp at hx) (fun i x hx=>by simp at hx))
  ·omega
 ·rcases hform with⟨q4,_⟩|⟨c',mm,q4,rfl,q5⟩
  ·omega
  ·have:c'=c:=by omega
   subst this
   have hB:cG e (.prow Ty sz α l enc)=true:=fK q2
   obtain⟨ob,E',f1,f2,f3,f4,f5⟩:=h.freeze hi q1 hB s1 s2
   have hob:ob= .cells arr Ty (0,0):=by
    obtain⟨G',_,hh,hM⟩:=f5.holds
    have:=hh.mem e.b ob (by rw[hM];exact f3)
    rw[r.heap]at this
    exact(akE this).symm
   subst hob
   subst hn
   refine⟨E',M',_,f1,f2,f5,?_,au g3 (.slice (some ⟨e.b,0,none⟩) l.length mm)⟩
   show iO E' _=_
   have hle:=r.le
   exact qC (aix f1.mem f3 hsz q3 r (by rcases q5 with rfl|rfl<;>omega) (by rcases q5 with rfl|rfl<;>omega))
theorem Wl (h:Sim E ρ G F M nx w) {v:AV} {x:Value} {K:AV→T→Bool} (hd:den E ρ v=some x) (hk:Yb v M K=true):
  ∃E' M' u,GT ρ E E'∧E'.at_=E.at_∧Sim E' ρ G F M' nx w∧den E' (fun _=>none) u=some x∧K u M'=true:=by
 rcases bk hk with⟨-,g⟩|⟨-,g⟩
 ·replace g:=eV g
  obtain⟨s,rfl,g⟩:=g
  cases s<;>first|(cases g;done)|skip
  case int=>exact⟨E,M,.sy (.int _ _),⟨fun _ _ _=>rfl,MLe.refl _⟩,rfl,h,hd,g⟩
  case bool=>exact⟨E,M,.sy (.bool _),⟨fun _ _ _=>rfl,MLe.refl _⟩,rfl,h,hd,g⟩
  case str=>exact⟨E,M,.sy (.str _),⟨fun _ _ _=>rfl,MLe.refl _⟩,rfl,h,hd,g⟩
  case imm=>exact⟨E,M,.sy (.imm _ _ _ _ _),⟨fun _ _ _=>rfl,MLe.refl _⟩,rfl,h,hd,g⟩
  case prow i n=>exact Wk (m:=0) h (.inl hd) g
  case pfix i n m=>
   obtain⟨g1,g2⟩:=ae g
   exact Wk (m:=m) h (.inr ⟨g1,hd⟩) g2
 ·have:=abp hd g
  obtain⟨p,_,_,g⟩:=Za (K:=fun _=>K v M) hd g
  exact⟨E,M,_,⟨fun _ _ _=>rfl,MLe.refl _⟩,rfl,h,this,g⟩
end
section
variable {P:Program} {E:Env} {ρ:Ren} {G:GS} {F:List bo} {M:T} {nx:Nat} {w:World}
structure YA (E:Env) (w:World) (x:Value) (sz m:Nat) (ps:List PL):Prop where
 form:∃ao c,x= .slice ao m c∧(0<m→∃b o,ao=some ⟨b,o,none⟩∧∀j u,(ps.map bQ)[j]?=some u→w.cell? ⟨b,o+j,none⟩=some u)
 len:ps.length=m*sz
 ok:∀p∈ps,OkP E.M p
noncomputable def Xs (sz:Nat) (v:AV) (M:T) (K:(α:Type)→List α→(α→List PL)→Bool):Bool:=mE v fun s=>SY.casesOn s (fun _ _=>false) (fun _=>false) (fun _=>false)
 (fun _ sz' α l enc=>ac (Nat.beq sz sz') (K α l enc)) (fun _ _ _=>false)
 (fun i n=>iG M i fun _ sz' α l enc=>ac (Nat.beq sz sz') (ac (aF (n=l.length)) (K α l enc)))
 (fun i sz0 a n _ _=>iG M i fun _ sz' α l enc=>ac (Nat.beq sz sz') (ac (Nat.beq sz sz0) (ac (aF (a+n≤l.length)) (K α ((l.drop a).take n) enc))))
 (fun _ _ _ _=>false)
 (fun i n _=>iG M i fun _ sz' α l enc=>ac (Nat.beq sz sz') (ac (aF (n=l.length)) (K α l enc))) (fun _=>false)
theorem RowAt.cells {e:eD} {Ty sz n c:Nat} {ps:List PL} {arr:Array Value} (r:RowAt E w e Ty sz ps n c arr) (a:Nat):∀j v,((ps.drop a).map bQ)[j]?=some v→w.cell? ⟨e.b,a+j,none⟩=some v:=fun j v hv=>by
 rw[List.map_drop,List.getElem?_drop]at hv
 exact r.cell hv
theorem vn {α:Type} {enc:α→List PL} {sz:Nat}:∀{l:List α} (a:Nat),(∀x∈l,(enc x).length=sz)→(l.drop a).flatMap enc=(l.flatMap enc).drop (a*sz)
 |l,0,_=>by simp
 |[],a+1,_=>by simp
 |x::l,a+1,h=>by
  rw[List.drop_succ_cons,vn a fun y hy=>h y (by simp[hy]),List.flatMap_cons,List.drop_append,List.drop_eq_nil_of_le (as:=enc x) (by rw[h x (by simp),Nat.add_mul];omega),h x (by simp)]
  rw[show(a+1)*sz - sz=a*sz by rw[Nat.add_mul];omega]
  simp
theorem DT {α:Type} {enc:α→List PL} {sz:Nat}:∀{l:List α} (a:Nat),(∀x∈l,(enc x).length=sz)→(l.take a).flatMap enc=(l.flatMap enc).take (a*sz)
 |l,0,_=>by simp
 |[],a+1,_=>by simp
 |x::l,a+1,h=>by
  rw[List.take_succ_cons,List.flatMap_cons,DT a fun y hy=>h y (by simp[hy]),List.flatMap_cons,List.take_append,List.take_of_length_le (l:=enc x) (by rw[h x (by simp),Nat.add_mul];omega),h x (by simp)]
  rw[show(a+1)*sz - sz=a*sz by rw[Nat.add_mul];omega]
theorem ER (h:Sim E ρ G F M nx w) {sz:Nat} {v:AV} {K:(α:Type)→List α→(α→List PL)→Bool} {x:Value} (hv:den E ρ v=some x) (hk:Xs sz v M K=true):
  ∃α l enc,K α l enc=true∧(∀x∈l,(enc x).length=sz)∧0<sz∧YA E w x sz l.length (l.flatMap enc):=by
 replace hk:=eV hk
 obtain⟨s,rfl,g⟩:=hk
 cases s<;>first|(cases g;done)|skip
 case imm hh sz' α l enc=>
  obtain⟨g1,g2⟩:=aq g
  have g1:=ako g1
  subst g1
  obtain⟨h1,rfl⟩:=hC (show iO E (.imm hh sz α l enc)=some x from hv)
  obtain⟨ao,cap,rfl,c1,c2,c3,ha,hl,ho,hr⟩:=Am h1
  refine⟨α,l,enc,g2,hl,c3,⟨ao,cap,rfl,fun q=>⟨_,_,ha q,fun j u hu=> ?_⟩⟩,im hl,fun p hp=> ?_⟩
  ·rw[akD]at hu
   rcases hp:(l.flatMap enc)[j]? with _|p
   ·rw[hp]at hu;cases hu
   rw[hp]at hu
   have hj:=(List.getElem?_eq_some_iff.1 hp).1
   rw[im hl]at hj
   have hq:j / sz<l.length:=Nat.div_lt_of_lt_mul (by rw[Nat.mul_comm];exact hj)
   have hx:l[j / sz]?=some l[j / sz]:=List.getElem?_eq_getElem hq
   have hm:=Nat.mod_lt j c3
   have hp2:(enc l[j / sz])[j % sz]?=some ((enc l[j / sz])[j % sz]'(by rw[hl _ (List.getElem_mem hq)];exact hm)):=List.getElem?_eq_getElem _
   have h3:=AM hl hx hp2
   have e0:j / sz*sz+j % sz=j:=by rw[Nat.mul_comm];exact Nat.div_add_mod j sz
   rw[e0,hp]at h3
   have h4:=hr (j / sz) _ hx (j % sz) u (by rw[akD,hp2,←akE h3];exact hu)
   rw[Nat.add_assoc,e0]at h4
   exact h.cellM h4
  ·obtain⟨y,hy,hp⟩:=List.mem_flatMap.1 hp
   exact ho y hy p hp
 case prow i n=>
  obtain⟨Ty,sz',α,l,enc,hi',g1⟩:=eO g
  obtain⟨g2,g3⟩:=aq g1
  have g2:=ako g2
  subst g2
  obtain⟨rfl,g4⟩:=ae g3
  obtain⟨f,q1,hsz,hrow⟩:=h.prow hi'
  simp only[den,bx,q1]at hv
  rcases hrow with⟨q2,rfl⟩|⟨c,arr,q2,q3,r⟩
  ·rcases dY hv with⟨_,_,rfl⟩|⟨c,q4,_⟩
   ·exact⟨α,[],enc,g4,by simp,hsz,⟨none,0,rfl,fun q=>by simp at q⟩,by simp,by simp⟩
   ·omega
  ·rcases dY hv with⟨q4,_⟩|⟨c',q4,rfl⟩
   ·omega
   ·exact⟨α,l,enc,g4,q3,hsz,⟨_,c',rfl,fun _=>⟨f.b,0,rfl,fun j u hu=>by rw[Nat.zero_add];exact r.cell hu⟩⟩,r.len,r.ok⟩
 case pfix i n cc=>
  obtain⟨Ty,sz',α,l,enc,hi',g1⟩:=eO g
  obtain⟨g2,g3⟩:=aq g1
  have g2:=ako g2
  subst g2
  obtain⟨rfl,g4⟩:=ae g3
  obtain⟨f,q1,hsz,hrow⟩:=h.prow hi'
  simp only[den,bx,q1]at hv
  rcases hrow with⟨q2,rfl⟩|⟨c,arr,q2,q3,r⟩
  ·rcases sq hv with⟨_,_,_,rfl⟩|⟨c,q4,_⟩
   ·exact⟨α,[],enc,g4,by simp,hsz,⟨none,0,rfl,fun q=>by simp at q⟩,by simp,by simp⟩
   ·omega
  ·rcases sq hv with⟨q4,_⟩|⟨c',q4,rfl⟩
   ·omega
   ·exact⟨α,l,enc,g4,q3,hsz,⟨_,cc,rfl,fun _=>⟨f.b,0,rfl,fun j u hu=>by rw[Nat.zero_add];exact r.cell hu⟩⟩,r.len,r.ok⟩
 case psub i sz0 a n o oc=>
  obtain⟨Ty,sz',α,l,enc,hi',g1⟩:=eO g
  obtain⟨g2,g3⟩:=aq g1
  have g2:=ako g2
  subst g2
  obtain⟨g5,g6⟩:=aq g3
  have g5:=ako g5
  subst g5
  obtain⟨hle,g4⟩:=ae g6
  obtain⟨f,q1,hsz,hrow⟩:=h.prow hi'
  simp only[den,bx,q1]at hv
  have hlen:((l.drop a).take n).length=n:=by rw[aky,akG];omega
  have hsub:∀x∈(l.drop a).take n,x∈l:=fun x hx=>List.mem_of_mem_drop (List.mem_of_mem_take hx)
  rcases hrow with⟨q2,rfl⟩|⟨c,arr,q2,q3,r⟩
  ·simp at hle
   obtain⟨rfl,rfl⟩:a=0∧n=0:=by omega
   rcases iZ hv with⟨_,_,_,rfl⟩|⟨c,q4,_⟩
   ·exact⟨α,_,enc,g4,by simp,hsz,⟨none,0,rfl,fun q=>by simp at q⟩,by simp,by simp⟩
   ·omega
  ·rcases iZ hv with⟨q4,_⟩|⟨c',q4,rfl,_⟩
   ·omega
   ·have:=r.le
    have e1:((l.drop a).take n).flatMap enc=((l.flatMap enc).drop (a*sz)).take (n*sz):=by
     rw[DT (sz:=sz) n fun x hx=>q3 x (List.mem_of_mem_drop hx),vn a q3]
    refine⟨α,_,enc,g4,fun x hx=>q3 x (hsub x hx),hsz,⟨_,c' - a,by rw[hlen],fun hn=>⟨f.b,a*sz,?_,fun j u hu=> ?_⟩⟩,im fun x hx=>q3 x (hsub x hx),fun p hp=> ?_⟩
    ·rw[hlen]at hn
     rw[if_neg (by omega)]
    ·refine r.cells (a*sz) j u ?_
     rw[e1,List.map_take]at hu
     have hj:=(List.getElem?_eq_some_iff.1 hu).1
     rw[aky]at hj
     rw[akA (by omega)]at hu
     exact hu
    ·obtain⟨y,hy,hp⟩:=List.mem_flatMap.1 hp
     exact r.ok p (List.mem_flatMap.2 ⟨y,hsub y hy,hp⟩)
noncomputable def Pu (els:List (List AV)):(List (List PL)→Bool)→Bool:=List.rec (fun K=>K []) (fun v _ ih K=>Xo v fun p=>ih fun ps=>K (p::ps)) els
theorem GY {sz:Nat}:∀{els:List (List AV)} {xs:List Value} {K:List (List PL)→Bool},aO E ρ els.flatten=some xs→(∀l∈els,l.length=sz)→Pu els K=true→∃pss,K pss=true∧xs=pss.flatten.map bQ∧(∀p∈pss.flatten,OkP E.M p)∧(∀l∈pss,l.length=sz)∧pss.length=els.length
 |[],xs,K,hd,_,h=>by
  simp[aO]at hd
  subst hd
  exact⟨[],h,rfl,by simp,by simp,rfl⟩
 |v::els,xs,K,hd,hl,h=>by
  obtain⟨xs1,xs2,h1,h2,rfl⟩:=eJ (l:=v) (m:=els.flatten) (by simpa using hd)
  obtain⟨ps,p1,rfl,g,p3⟩:=Lw (K:=fun p=>Pu els fun ps=>K (p::ps)) h1 h
  obtain⟨pss,g1,rfl,q2,q3,q4⟩:=GY h2 (fun l hl'=>hl l (by simp[hl'])) g
  refine⟨ps::pss,g1,by simp,fun p hp=> ?_,fun l hl'=> ?_,by simp[q4]⟩
  ·simp only[akq,akx]at hp
   exact hp.elim (p1 p) (q2 p)
  ·rcases List.mem_cons.1 hl' with rfl|hl'
   ·rw[p3];exact hl v (by simp)
   ·exact q3 l hl'
noncomputable def ah9 (sz:Nat) (v:AV) (M:T) (K:List (List PL)→(Bool→Bool→Bool)→Bool):Bool:=br (eG v) (Xs sz v M fun _ l enc=>K (l.map enc) fun x y=>br (aF (l=[])) x y) (Yo sz v M fun els=>Pu els fun pss=>K pss fun x y=>List.casesOn pss x fun _ _=>y)
theorem aem (h:Sim E ρ G F M nx w) {sz:Nat} (hsz:0<sz) {v:AV} {K:List (List PL)→(Bool→Bool→Bool)→Bool} {x:Value} (hv:den E ρ v=some x) (hk:ah9 sz v M K=true):
  ∃R empt,K R empt=true∧YA E w x sz R.length R.flatten∧(∀l∈R,l.length=sz)∧∀a b,empt a b=true→(R=[]∧a=true)∨(R≠[]∧b=true):=by
 rcases bk hk with⟨-,g⟩|⟨-,g⟩
 ·obtain⟨α,l,enc,g1,g2,g3,g4⟩:=ER h hv g
  refine⟨_,_,g1,?_,fun e he=> ?_,fun a b q=> ?_⟩
  ·rw[akm,←List.flatMap_def];exact g4
  ·obtain⟨y,hy,rfl⟩:=List.mem_map.1 he
   exact g2 y hy
  ·rcases iM q with⟨q1,q2⟩|⟨q1,q2⟩
   ·exact .inl ⟨by rw[q1];rfl,q2⟩
   ·exact .inr ⟨fun q3=>q1 (List.map_eq_nil_iff.1 q3),q2⟩
 ·obtain⟨els,xs,ao,n,c,g1,g2,rfl,g4,g5,g6,g7⟩:=Mi h hv g
  obtain⟨pss,p1,rfl,p3,p4,p5⟩:=GY g2 g5 g1
  refine⟨_,_,p1,⟨⟨ao,c,by rw[p5,g4],fun q=>g7 (by omega)⟩,eI p4,p3⟩,p4,fun a b q=> ?_⟩
  cases pss with
  |nil=>exact .inl ⟨rfl,q⟩
  |cons p ps=>exact .inr ⟨by simp,q⟩
def PLr (p q:PL):Prop:=p=q∨(∃k z,p= .sint k z∧q= .int k z)∨(∃(sz:Nat) (α:Type) (enc:α→List PL),0<sz∧p= .imm (.slice none 0 0) sz α [] enc∧q= .nilS)
def Xx:List PL→List PL→Prop
 |[],[]=>True
 |p::a,q::b=>PLr p q∧Xx a b
 |_,_=>False
def bz:List (List PL)→List (List PL)→Prop
 |[],[]=>True
 |p::a,q::b=>Xx p q∧bz a b
 |_,_=>False
theorem Nt:∀(a:List PL),Xx a a
 |[]=>trivial
 |p::a=>⟨.inl rfl,Nt a⟩
theorem cR:∀(a:List (List PL)),bz a a
 |[]=>trivial
 |p::a=>⟨Nt p,cR a⟩
theorem af3 {p q:PL} (h:PLr p q):bQ p=bQ q∧∀M,OkP M q→OkP M p:=by
 rcases h with rfl|⟨k,z,rfl,rfl⟩|⟨sz,α,enc,h1,rfl,rfl⟩
 ·exact⟨rfl,fun _ h=>h⟩
 ·exact⟨rfl,fun _ _=>.sint k z⟩
 ·exact⟨rfl,fun _ _=>.imm none 0 rfl (by simp) (by decide) h1 (fun q=>by simp at q) (fun x hx=>by simp at hx) (fun x hx=>by simp at hx) (fun i x hx=>by simp at hx)⟩
theorem PW:∀{a b:List PL},Xx a b→a.map bQ=b.map bQ∧a.length=b.length∧∀M,(∀q∈b,OkP M q)→∀p∈a,OkP M p
 |[],[],_=>⟨rfl,rfl,fun M _ p hp=>by simp at hp⟩
 |p::a,q::b,h=>by
  obtain⟨h1,h2⟩:=h
  obtain⟨g1,g2⟩:=af3 h1
  obtain⟨g3,g4,g5⟩:=PW h2
  refine⟨by simp[g1,g3],by simp[g4],fun M hb x hx=> ?_⟩
  rcases List.mem_cons.1 hx with rfl|hx
  ·exact g2 M (hb q (by simp))
  ·exact g5 M (fun y hy=>hb y (by simp[hy])) x hx
 |[],_::_,h=>h.elim
 |_::_,[],h=>h.elim
theorem Ns:∀{a b:List (List PL)},bz a b→a.flatten.map bQ=b.flatten.map bQ∧a.length=b.length∧(∀sz,(∀x∈b,x.length=sz)→∀x∈a,x.length=sz)∧∀M,(∀q∈b.flatten,OkP M q)→∀p∈a.flatten,OkP M p
 |[],[],_=>⟨rfl,rfl,fun _ _ x hx=>by simp at hx,fun M _ p hp=>by simp at hp⟩
 |p::a,q::b,h=>by
  obtain⟨h1,h2⟩:=h
  obtain⟨g1,g2,g3⟩:=PW h1
  obtain⟨g4,g5,g6,g7⟩:=Ns h2
  refine⟨by simp only[akq,akw,g1,g4],by simp[g5],fun sz hb x hx=> ?_,fun M hb x hx=> ?_⟩
  ·rcases List.mem_cons.1 hx with rfl|hx
   ·rw[g2];exact hb q (by simp)
   ·exact g6 sz (fun y hy=>hb y (by simp[hy])) x hx
  ·rw[akq]at hx hb
   rcases akx.1 hx with hx|hx
   ·exact g3 M (fun y hy=>hb y (akx.2 (.inl hy))) x hx
   ·exact g7 M (fun y hy=>hb y (akx.2 (.inr hy))) x hx
 |[],_::_,h=>h.elim
 |_::_,[],h=>h.elim
noncomputable def aC (bytes a:Nat):Prop:=a≤9223372036854775807∧a*bytes≤140737488355328
noncomputable def Qs (Ty sz:Nat) (α:Type) (l:List α) (enc:α→List PL) (M:T) (nx:Nat) (K:AV→T→Nat→Bool):Bool:=T.set bI M nx (some (.prow Ty sz α l enc)) fun M'=>fN (Nat.succ nx) fun q=>K (.sy (.prow nx l.length)) M' q
noncomputable def aj7 (Ty sz bytes:Nat) (v1:AV) (R:List (List PL)) (empt:Bool→Bool→Bool) (M:T) (nx:Nat) (K:AV→T→Nat→Bool):Bool:=mE v1 fun s=>SY.casesOn s (fun _ _=>false) (fun _=>false) (fun _=>false)
 (fun h sz' α l enc=>ac (Nat.beq sz sz') (ac (aF (∃ao,h= .slice ao l.length l.length)) (empt (K v1 M nx) (ax fun m:List α=>ac (aF (bz (m.map enc) R)) (ac (aF (aC bytes (l.length+m.length))) (Qs Ty sz α (l++m) enc M nx K))))))
 (fun _ _ _=>false)
 (fun i n=>iG M i fun Ty' sz' α l enc=>ac (Nat.beq Ty Ty') (ac (Nat.beq sz sz') (ac (aF (n=l.length)) (empt (K v1 M nx) (ax fun m:List α=>ac (aF (bz (m.map enc) R)) (ac (aF (aC bytes (l.length+m.length))) (T.set bI M i none fun M1=>Qs Ty sz α (l++m) enc M1 nx K)))))))
 (fun i sz0 a n _ _=>iG M i fun Ty' sz' α l enc=>ac (Nat.beq Ty Ty') (ac (Nat.beq sz sz') (ac (Nat.beq sz sz0) (ac (aF (a+n=l.length)) (empt (K v1 M nx) (ax fun m:List α=>ac (aF (bz (m.map enc) R)) (ac (aF (aC bytes (l.length+m.length))) (T.set bI M i none fun M1=>ah fun L:List α=>ah fun d:Nat=>ah fun o:Nat=>ah fun c:Nat=>br (aF (d≤L.length∧L.length≤l.length+m.length∧L.drop d=l.drop a++m)) (T.set bI M1 nx (some (.prow Ty sz α L enc)) fun M'=>fN (Nat.succ nx) fun q=>K (.sy (.psub nx sz d (L.length - d) o (some c))) M' q) true)))))))) (fun _ _ _ _=>false)
 (fun _ _ _=>false) (fun _=>false)
noncomputable def akf (Ty sz bytes:Nat) (v1 v2:AV) (M:T) (nx:Nat) (K:AV→T→Nat→Bool):Bool:=
 br (eG v1) (ah9 sz v2 M fun R empt=>aj7 Ty sz bytes v1 R empt M nx K)
  (vF v1 (Xs sz v2 M fun α l enc=>br (aF (l=[])) (K .nilS M nx) (ac (aF (aC bytes l.length)) (Qs Ty sz α l enc M nx K))) (fun _ _ n c=>ac (Nat.beq n 0) (ACap.casesOn c (fun k=>ac (Nat.beq k 0) (Xs sz v2 M fun α l enc=>br (aF (l=[])) (K v1 M nx) (ac (aF (aC bytes l.length)) (Qs Ty sz α l enc M nx K)))) (fun _=>false))))
noncomputable def ajE (Ty sz bytes:Nat) (v1 v2:AV) (M:T) (nx:Nat) (K:AV→T→Nat→Bool):Bool:=br (Jh v1 v2) (akf Ty sz bytes v1 v2 M nx K) (ajF Ty sz bytes v1 v2 M nx K)
theorem af0 (hE:fu E) (h:Sim E ρ G F M nx w) {t ty Ty sz bytes:Nat} (ht:P.underlying t=some (.slice Ty)) (he:su P Ty sz bytes=true) {v1 v2:AV} {K:AV→T→Nat→Bool} {x1 x2:Value} (h1:den E ρ v1=some x1) (h2:den E ρ v2=some x2)
  (hk:ajE Ty sz bytes v1 v2 M nx K=true):∃v M' nx' ρ' w' x,ρ.Le ρ'∧Sim E ρ' G F M' nx' w'∧K v M' nx'=true∧den E ρ' v=some x∧(Builtin.append_ #[t,t] ty #[x1,x2]).run P w= .ok x w':=by
 rcases bk hk with⟨-,g⟩|⟨-,g⟩
 case inr=>exact af1 hE h ht he h1 h2 g
 obtain⟨inf,z,i1,i2,i3,i4,i5,i6⟩:=tm he
 have hs:cJ P Ty=some sz:=by simp[cJ,i1,i3]
 have hm63:maxLen=9223372036854775807:=rfl
 have h0:=h.fresh nx (akz _)
 clear hk
 -- a new row of terms
 have fin:∀{i:Nat} {old:Option Nat} {M0:T} {v':Value} {w':World} {base:Nat} {α:Type} {l:List α} {enc:α→List PL},(∀b,old=some b→∃e o,M.get i=some o∧ρ i=some e∧e.b=b∧cG e o=true)→w.grownBy w' old→w'.ownsRow base Ty sz v' l.length ((l.flatMap enc).map bQ)→0<l.length→
   (v'.ownBlock=old∨v'.ownBlock=some w.heap.size∨w.heap.size≤base)→(∀p∈l.flatMap enc,OkP E.M p)→(∀x∈l,(enc x).length=sz)→(∀m,m≠nx→m≠i→M0.get m=M.get m)→(i≠nx→M0.get i=none)→Qs Ty sz α l enc M0 nx K=true→
   (Builtin.append_ #[t,t] ty #[x1,x2]).run P w= .ok v' w'→∃v M' nx' ρ' w' x,ρ.Le ρ'∧Sim E ρ' G F M' nx' w'∧K v M' nx'=true∧den E ρ' v=some x∧(Builtin.append_ #[t,t] ty #[x1,x2]).run P w= .ok x w':=by
  intro i old M0 v' w' base α l enc g1 g2 g3 g4 g5 g6 g7 g10 g11 g12 g13
  obtain⟨M',k1,s1,s2⟩:=T.set_ok _ _ _ _ _ g12
  rw[bW]at k1
  obtain⟨b,cap,cur,rfl,r1,r2,r3,r4,r5,r6,r7⟩:=LH g3 g4
  have hb':old=some b∨w.heap.size≤b:=by
   rcases g5 with e|e|e
   ·exact .inl (by rw[←e];rfl)
   ·simp[Value.ownBlock]at e;exact .inr (by omega)
   ·exact .inr (by omega)
  refine⟨.sy (.prow nx l.length),M',nx+1,ρ.set nx ⟨b,cap+1⟩,w',_,Ren.le_set _ h0,h.regrow (i:=i) (o':=.prow Ty sz α l enc) (ob':=.cells cur Ty (0,0)) h0 (Nat.le_succ _) (Nat.lt_succ_self _) g1 g2 r2 hb' ⟨cur,_,rfl,i6,g7,vz g6,by simpa using r5,r6,by simpa using r3,by simpa using r4⟩ s1 (fun m q1 q2=>by rw[s2 m q1,g10 m q1 q2]) (fun q=>by rw[s2 i q,g11 q]) (fK rfl),k1,?_,g13⟩
  simp only[den,bx,Ren.set_self,AI]
 have Yn:∀{i:Nat} {old:Option Nat} {M0:T} {v' xr:Value} {w':World} {base:Nat} {α:Type} {L:List α} {enc:α→List PL} {d o':Nat},(∀b,old=some b→∃e o,M.get i=some o∧ρ i=some e∧e.b=b∧cG e o=true)→w.grownBy w' old→w'.ownsRow base Ty sz v' L.length ((L.flatMap enc).map bQ)→0<L.length→
   (v'.ownBlock=old∨v'.ownBlock=some w.heap.size∨w.heap.size≤base)→(∀p∈L.flatMap enc,OkP E.M p)→(∀x∈L,(enc x).length=sz)→(∀m,m≠nx→m≠i→M0.get m=M.get m)→(i≠nx→M0.get i=none)→
   (∀cc:Nat,(T.set bI M0 nx (some (.prow Ty sz α L enc)) fun M'=>fN (Nat.succ nx) fun q=>K (.sy (.psub nx sz d (L.length - d) o' (some cc))) M' q)=true)→d≤L.length→(∀b cap,v'= .slice (some ⟨b,0,none⟩) L.length cap→xr= .slice (some ⟨b,if cap=d then o' else d*sz,none⟩) (L.length - d) (cap - d))→
   (Builtin.append_ #[t,t] ty #[x1,x2]).run P w= .ok xr w'→∃v M' nx' ρ' w' x,ρ.Le ρ'∧Sim E ρ' G F M' nx' w'∧K v M' nx'=true∧den E ρ' v=some x∧(Builtin.append_ #[t,t] ty #[x1,x2]).run P w= .ok x w':=by
  intro i old M0 v' xr w' base α L enc d o' g1 g2 g3 g4 g5 g6 g7 g10 g11 g12 gd gx g13
  obtain⟨b,cap,cur,rfl,r1,r2,r3,r4,r5,r6,r7⟩:=LH g3 g4
  obtain⟨M',k1,s1,s2⟩:=T.set_ok _ _ _ _ _ (g12 cap)
  rw[bW]at k1
  have hb':old=some b∨w.heap.size≤b:=by
   rcases g5 with e|e|e
   ·exact .inl (by rw[←e];rfl)
   ·simp[Value.ownBlock]at e;exact .inr (by omega)
   ·exact .inr (by omega)
  refine⟨.sy (.psub nx sz d (L.length - d) o' (some cap)),M',nx+1,ρ.set nx ⟨b,cap+1⟩,w',_,Ren.le_set _ h0,h.regrow (i:=i) (o':=.prow Ty sz α L enc) (ob':=.cells cur Ty (0,0)) h0 (Nat.le_succ _) (Nat.lt_succ_self _) g1 g2 r2 hb' ⟨cur,_,rfl,i6,g7,vz g6,by simpa using r5,r6,by simpa using r3,by simpa using r4⟩ s1 (fun m q1 q2=>by rw[s2 m q1,g10 m q1 q2]) (fun q=>by rw[s2 i q,g11 q]) (fK rfl),k1,?_,g13⟩
  simp only[den,bx,Ren.set_self,sT]
  rw[if_pos ⟨by omega,fun q e=>by cases e;rfl⟩,gx b cap rfl]
 have news_ok:∀{R:List (List PL)} {m:Nat},YA E w x2 sz R.length R.flatten→R≠[]→∃b o c,x2= .slice (some ⟨b,o,none⟩) R.length c∧(∀j u,(R.flatten.map bQ)[j]?=some u→w.cell? (Addr.add ⟨b,o,none⟩ j)=some u)∧(∀u∈R.flatten.map bQ,Value.oneCell' u=true)∧(R.flatten.map bQ).length=R.length*sz:=by
  intro R m hS hne
  obtain⟨ao,c,hx,hc⟩:=hS.form
  obtain⟨b,o,rfl,hcc⟩:=hc (List.length_pos_iff.2 hne)
  refine⟨b,o,c,hx,fun j u hu=>by rw[dl];exact hcc j u hu,fun u hu=> ?_,by rw[akm];exact hS.len⟩
  obtain⟨p,hp,rfl⟩:=List.mem_map.1 hu
  exact GW (hS.ok p hp)
 replace g:=bk g
 rcases g with⟨-,g⟩|⟨-,g⟩
 ·obtain⟨R,empt,g1,hS,hR,hE'⟩:=aem h i6 h2 g
  replace g1:=eV g1
  clear g
  obtain⟨s,rfl,g⟩:=g1
  have flatR:∀{α:Type} {m:List α} {enc:α→List PL},bz (m.map enc) R→R.flatten.map bQ=(m.flatMap enc).map bQ∧R.length=m.length∧(∀x∈m,(enc x).length=sz)∧∀p∈m.flatMap enc,OkP E.M p:=by
   intro α m enc q
   obtain⟨q1,q2,q3,q4⟩:=Ns q
   rw[←List.flatMap_def]at q1 q4
   exact⟨q1.symm,by rw[←q2,akm],fun x hx=>q3 sz hR _ (List.mem_map.2 ⟨x,hx,rfl⟩),q4 E.M hS.ok⟩
  have none_ok:R=[]→∀{ao n c},x1= .slice ao n c→n≤c→(Builtin.append_ #[t,t] ty #[x1,x2]).run P w= .ok x1 w:=by
   intro q ao n c hx hle
   obtain⟨ao2,c2,hx2,_⟩:=hS.form
   subst q
   rw[hx,hx2]
   exact ft t ty Ty ht hs ao n c hle ao2 c2
  cases s<;>first|(cases g;done)|skip
  case imm hh sz' α l enc=>
   obtain⟨g1,g2⟩:=aq g
   have g1:=ako g1
   subst g1
   obtain⟨⟨ao,rfl⟩,g3⟩:=ae g2
   obtain⟨hok,rfl⟩:=hC (show iO E (.imm (.slice ao l.length l.length) sz α l enc)=some x1 from h1)
   rcases hE' _ _ g3 with⟨q,g4⟩|⟨q,g4⟩
   ·exact⟨_,M,nx,ρ,w,_,Ren.Le.refl _,h,g4,h1,none_ok q rfl (akz _)⟩
   ·obtain⟨m,g5⟩:=bJ g4
    obtain⟨hm,g6⟩:=ae g5
    obtain⟨⟨l1,l2⟩,g7⟩:=ae g6
    obtain⟨f1,f2,f3,f4⟩:=flatR hm
    obtain⟨b,o,c,rfl,n1,n2,n3⟩:=news_ok (m:=0) hS q
    have hpos:=List.length_pos_iff.2 q
    obtain⟨ao',cap',hh,_,_,_,ha,hl,ho,hr⟩:=Am hok
    injection hh with e1 e2 e3
    subst e1
    have hSl:=ER h (v:=.sy (.imm (.slice ao l.length l.length) sz α l enc)) (sz:=sz) (K:=fun α' l' enc'=>aF ((⟨α',(l',enc')⟩:(β:Type)×(List β×(β→List PL)))=⟨α,(l,enc)⟩)) h1 (by
     show ac (Nat.beq sz sz) _=true
     exact aG (Nat.beq_refl sz) (prB_true.2 rfl))
    obtain⟨α',l',enc',e,hl',_,hS1⟩:=hSl
    have e:=prB_true.1 e
    cases e
    obtain⟨v',w',r1,r2,r3⟩:∃v' w',(Builtin.append_ #[t,t] ty #[.slice ao l.length l.length,.slice (some ⟨b,o,none⟩) R.length c]).run P w= .ok v' w'∧w'.ownsRow w.heap.size Ty sz v' (l.length+R.length) (((l.flatMap enc).map bQ)++R.flatten.map bQ)∧w.grownBy w' none:=by
     rcases Nat.eq_zero_or_pos l.length with q0|q0
     ·have hl0:l=[]:=List.eq_nil_of_length_eq_zero q0
      subst hl0
      cases ao with
      |none=>
       obtain⟨v',w',r1,r2,r3,_,r5⟩:=run_append_own_at (P:=P) w w.heap.size t ty Ty inf z sz bytes ht i1 i2 i3 i5 i4 i6 (.slice none 0 0) 0 [] (World.ownsRow_nil w _ Ty sz) ⟨b,o,none⟩ R.length c _ n3 n1 n2 (by omega) (by rw[f2,Nat.zero_add];simpa using l2) (akz _)
       exact⟨v',w',r1,by simpa using r2,r3⟩
      |some a=>
       obtain⟨v',w',r1,r2,r3⟩:=run_append_arg_grows (P:=P) w t ty Ty inf z sz bytes ht i1 i2 i3 i5 i4 i6 a 0 0 [] (by simp) (fun j u hu=>by simp at hu) ⟨b,o,none⟩ R.length c _ n3 n1 (by omega) (by rw[f2,hm63];simpa using l1) (by rw[f2];simpa using l2)
       exact⟨v',w',r1,by simpa using r2,r3⟩
     ·have hao:=ha q0
      rw[hao]
      obtain⟨ao2,c2,hx2,hc2⟩:=hS1.form
      injection hx2 with e1 e2 e3
      obtain⟨b1,o1,e4,hc3⟩:=hc2 q0
      rw[←e1,hao]at e4
      injection e4 with e4
      obtain⟨v',w',r1,r2,r3⟩:=run_append_arg_grows (P:=P) w t ty Ty inf z sz bytes ht i1 i2 i3 i5 i4 i6 ⟨blk ao,wv ao,none⟩ l.length l.length ((l.flatMap enc).map bQ) (by rw[akm,im hl]) (fun j u hu=>by rw[e4,dl];exact hc3 j u hu) ⟨b,o,none⟩ R.length c _ n3 n1 (by omega) (by omega) (by rw[f2];exact l2)
      exact⟨v',w',r1,r2,r3⟩
    refine fin (i:=nx) (old:=none) (M0:=M) (base:=w.heap.size) (l:=l++m) (enc:=enc) (fun b q=>by cases q) r3 ?_ (by rw[akk];omega) (.inr (.inr (akz _))) ?_ (fun x hx=> ?_) (fun _ _ _=>rfl) (fun q=>absurd rfl q) g7 r1
    ·rw[akk,List.flatMap_append,akw,←f1,←f2];exact r2
    ·intro p hp
     rw[List.flatMap_append]at hp
     rcases akx.1 hp with hp|hp
     ·exact hS1.ok p hp
     ·exact f4 p hp
    ·rcases akx.1 hx with hx|hx
     ·exact hl x hx
     ·exact f3 x hx
  case psub i sz0 a n oo oc=>
   obtain⟨Ty',sz',α,l,enc,hi',g1⟩:=eO g
   obtain⟨g2,g3⟩:=aq g1
   have g2:=ako g2
   subst g2
   obtain⟨g4,g5⟩:=aq g3
   have g4:=ako g4
   subst g4
   obtain⟨g6,g7⟩:=aq g5
   have g6:=ako g6
   subst g6
   obtain⟨hal,g8⟩:=ae g7
   obtain⟨f,q1,hsz,hrow⟩:=h.prow hi'
   have h1':=h1
   simp only[den,bx,q1]at h1
   rcases hE' _ _ g8 with⟨q,g9⟩|⟨q,g9⟩
   ·rcases iZ h1 with⟨_,e0,_,hx⟩|⟨c,qc,hx,hle,_⟩
    ·exact⟨_,M,nx,ρ,w,_,Ren.Le.refl _,h,g9,h1',none_ok q hx (akz _)⟩
    ·exact⟨_,M,nx,ρ,w,_,Ren.Le.refl _,h,g9,h1',none_ok q hx (by omega)⟩
   ·obtain⟨m,g10⟩:=bJ g9
    obtain⟨hm,g11⟩:=ae g10
    obtain⟨⟨l1,l2⟩,g12⟩:=ae g11
    obtain⟨f1,f2,f3,f4⟩:=flatR hm
    obtain⟨b,o,c,hx2,n1,n2,n3⟩:=news_ok (m:=0) hS q
    have hpos:=List.length_pos_iff.2 q
    obtain⟨M1,k1,s1,s2⟩:=T.set_ok _ _ _ _ _ g12
    have hinx:i≠nx:=fun q=>by rw[q,h0]at q1;cases q1
    have kk:∀(L:List α) (d o':Nat),d≤L.length→L.length≤l.length+m.length→L.drop d=l.drop a++m→∀cc:Nat,(T.set bI M1 nx (some (.prow Ty sz α L enc)) fun M'=>fN (Nat.succ nx) fun q=>K (.sy (.psub nx sz d (L.length - d) o' (some cc))) M' q)=true:=fun L d o' e1 e2 e3 cc=>by
     have:=au (au (au (au k1 L) d) o') cc
     rcases iM this with⟨_,g⟩|⟨hn,_⟩
     ·exact g
     ·exact absurd ⟨e1,e2,e3⟩ hn
    rcases hrow with⟨q2,q3⟩|⟨c',arr,q2,q3,r⟩
    ·rcases iZ h1 with⟨_,e0,ea,hx⟩|⟨c,qc,_⟩
     case inr=>omega
     subst q3
     obtain⟨v',w',r1,r2,r3,_,r5⟩:=run_append_own_at (P:=P) w w.heap.size t ty Ty inf z sz bytes ht i1 i2 i3 i5 i4 i6 (.slice none 0 0) 0 [] (World.ownsRow_nil w _ Ty sz) ⟨b,o,none⟩ R.length c _ n3 n1 n2 (by omega) (by rw[f2,Nat.zero_add];simpa using l2) (akz _)
     refine Yn (i:=i) (old:=none) (M0:=M1) (base:=w.heap.size) (L:=[]++m) (enc:=enc) (d:=0) (o':=0) (v':=v') (xr:=v') (fun b q=>by cases q) r3 ?_ (by simp;omega) (.inr (.inr (akz _))) (fun p hp=>f4 p (by simpa using hp)) (fun x hx=>f3 x (by simpa using hx)) (fun m' _ q=>s2 m' q) (fun _=>s1) (kk _ 0 0 (Nat.zero_le _) (by simp) (by simp)) (Nat.zero_le _) (fun b cap hv=>hv.trans (by simp)) (by rw[hx,hx2];exact r1)
     rw[aks,←f1,←f2]
     simpa using r2
    ·rcases iZ h1 with⟨qc,_⟩|⟨cc,qc,hx,hle,_⟩
     ·omega
     obtain rfl:cc=c':=by omega
     have hB:cG f (.prow Ty sz α l enc)=true:=fK q2
     by_cases room:n+R.length≤cc - a
     ·have hne:¬cc=a:=by omega
      rw[if_neg hne]at hx
      obtain⟨v',w',r1,r2,r3,_,r5⟩:=run_append_own_at (P:=P) w 0 t ty Ty inf z sz bytes ht i1 i2 i3 i5 i4 i6 (.slice (some ⟨f.b,0,none⟩) l.length cc) l.length ((l.flatMap enc).map bQ)
       ⟨by rw[akm];exact r.len,.inr ⟨f.b,cc,arr,rfl,Nat.zero_le _,r.heap,r.le,r.max,r.size,r.take⟩⟩ ⟨b,o,none⟩ R.length c _ n3 n1 n2 (by omega) (by rw[f2];exact l2) (Nat.zero_le _)
      have hin:∀j,j<(R.flatten.map bQ).length→l.length*sz+j<arr.size:=fun j hj=>by
       rw[n3]at hj
       rw[r.size]
       have:(l.length+R.length)*sz≤cc*sz:=Nat.mul_le_mul_right _ (by omega)
       rw[Nat.add_mul]at this
       omega
      have hcell:∀j,j<(R.flatten.map bQ).length→(w.cell? ⟨f.b,l.length*sz+j,none⟩).isSome=true∧w.frozen? ⟨f.b,l.length*sz+j,none⟩=false:=fun j hj=>by
       have:=hin j hj
       constructor
       ·unfold World.cell?;rw[r.heap];simp[this]
       ·unfold World.frozen?;rw[r.heap];simp
      have A:=run_append_room_cells (P:=P) (w:=w) t ty Ty inf ht i1 f.b 0 l.length cc ⟨b,o,none⟩ R.length c (R.flatten.map bQ) (by rw[n3,i3]) n1 n2 (by omega) (fun j hj=>by rw[i3,Nat.zero_add];exact(hcell j hj).1) (fun j hj=>by rw[i3,Nat.zero_add];exact(hcell j hj).2)
      have eo:a*sz+n*sz=l.length*sz:=by rw[←Nat.add_mul,hal]
      have B:=run_append_room_cells (P:=P) (w:=w) t ty Ty inf ht i1 f.b (a*sz) n (cc - a) ⟨b,o,none⟩ R.length c (R.flatten.map bQ) (by rw[n3,i3]) n1 n2 (by omega) (fun j hj=>by rw[i3,eo];exact(hcell j hj).1) (fun j hj=>by rw[i3,eo];exact(hcell j hj).2)
      rw[r1]at A
      injection A with A1 A2
      subst A1
      rw[i3,Nat.zero_add]at A2
      rw[i3,eo,←A2]at B
      refine Yn (i:=i) (old:=some f.b) (M0:=M1) (base:=0) (L:=l++m) (enc:=enc) (d:=a) (o':=0) (fun b q=>⟨f,_,hi',q1,akE q,hB⟩) r3 ?_ (by rw[akk];omega) (r5.imp id .inl) ?_ (fun x hx=> ?_) (fun m' _ q=>s2 m' q) (fun _=>s1) (kk _ a 0 (by rw[akk];omega) (by rw[akk];omega) (List.drop_append_of_le_length (by omega))) (by rw[akk];omega) (fun b' cap hv=> ?_) (by rw[hx,hx2];exact B)
      ·rw[akk,List.flatMap_append,akw,←f1,←f2];exact r2
      ·intro p hp
       rw[List.flatMap_append]at hp
       rcases akx.1 hp with hp|hp
       ·exact r.ok p hp
       ·exact f4 p hp
      ·rcases akx.1 hx with hx|hx
       ·exact q3 x hx
       ·exact f3 x hx
      ·injection hv with hv1 hv2 hv3
       injection hv1 with hv1
       injection hv1 with hv1
       subst hv1;subst hv3
       rw[if_neg hne,akk,←f2,show l.length+R.length - a=n+R.length by omega]
     ·have hsub:∀x∈l.drop a,x∈l:=fun x hx=>List.mem_of_mem_drop hx
      have hld:(l.drop a).length=n:=by rw[akG];omega
      obtain⟨v',w',r1,r2,r3⟩:=run_append_arg_grows (P:=P) w t ty Ty inf z sz bytes ht i1 i2 i3 i5 i4 i6 ⟨f.b,if cc=a then oo else a*sz,none⟩ n (cc - a) (((l.drop a).flatMap enc).map bQ) (by rw[akm,im (fun x hx=>q3 x (hsub x hx)),hld]) (fun j u hu=>by
       by_cases ha:cc=a
       ·have:l.drop a=[]:=List.eq_nil_of_length_eq_zero (by omega)
        rw[this]at hu
        simp at hu
       ·rw[if_neg ha,dl]
        rw[vn a q3]at hu
        exact r.cells (a*sz) j u hu) ⟨b,o,none⟩ R.length c _ n3 n1 (by omega) (by rw[f2,hm63];omega) (by rw[f2];exact Nat.le_trans (Nat.mul_le_mul_right _ (by omega)) l2)
      refine Yn (i:=i) (old:=none) (M0:=M1) (base:=w.heap.size) (L:=l.drop a++m) (enc:=enc) (d:=0) (o':=0) (v':=v') (xr:=v') (fun b q=>by cases q) r3 ?_ (by rw[akk];omega) (.inr (.inr (akz _))) ?_ (fun x hx=> ?_) (fun m' _ q=>s2 m' q) (fun _=>s1) (kk _ 0 0 (Nat.zero_le _) (by rw[akk];omega) (by simp)) (Nat.zero_le _) (fun b cap hv=>hv.trans (by simp)) (by rw[hx,hx2];exact r1)
      ·rw[akk,List.flatMap_append,akw,←f1,←f2,hld];exact r2
      ·intro p hp
       rw[List.flatMap_append]at hp
       rcases akx.1 hp with hp|hp
       ·obtain⟨y,hy,hp⟩:=List.mem_flatMap.1 hp
        exact r.ok p (List.mem_flatMap.2 ⟨y,hsub y hy,hp⟩)
       ·exact f4 p hp
      ·rcases akx.1 hx with hx|hx
       ·exact q3 x (hsub x hx)
       ·exact f3 x hx
  case prow i n=>
   obtain⟨Ty',sz',α,l,enc,hi',g1⟩:=eO g
   obtain⟨g2,g3⟩:=aq g1
   have g2:=ako g2
   subst g2
   obtain⟨g4,g5⟩:=aq g3
   have g4:=ako g4
   subst g4
   obtain⟨rfl,g6⟩:=ae g5
   obtain⟨f,q1,hsz,hrow⟩:=h.prow hi'
   have h1':=h1
   simp only[den,bx,q1]at h1
   rcases hE' _ _ g6 with⟨q,g4⟩|⟨q,g4⟩
   ·rcases dY h1 with⟨_,e0,hx⟩|⟨c,qc,hx⟩
    ·exact⟨_,M,nx,ρ,w,_,Ren.Le.refl _,h,g4,h1',none_ok q hx (akz _)⟩
    ·rcases hrow with⟨q2,_⟩|⟨c',arr,q2,q3,r⟩
     ·omega
     ·have:=r.le
      exact⟨_,M,nx,ρ,w,_,Ren.Le.refl _,h,g4,h1',none_ok q hx (by omega)⟩
   ·obtain⟨m,g5⟩:=bJ g4
    obtain⟨hm,g6⟩:=ae g5
    obtain⟨⟨l1,l2⟩,g7⟩:=ae g6
    obtain⟨f1,f2,f3,f4⟩:=flatR hm
    obtain⟨b,o,c,hx2,n1,n2,n3⟩:=news_ok (m:=0) hS q
    have hpos:=List.length_pos_iff.2 q
    obtain⟨M1,k1,s1,s2⟩:=T.set_ok _ _ _ _ _ g7
    have hinx:i≠nx:=fun q=>by rw[q,h0]at q1;cases q1
    rcases hrow with⟨q2,q3⟩|⟨c',arr,q2,q3,r⟩
    ·rcases dY h1 with⟨_,e0,hx⟩|⟨c,qc,_⟩
     case inr=>omega
     subst q3
     obtain⟨v',w',r1,r2,r3,_,r5⟩:=run_append_own_at (P:=P) w w.heap.size t ty Ty inf z sz bytes ht i1 i2 i3 i5 i4 i6 (.slice none 0 0) 0 [] (World.ownsRow_nil w _ Ty sz) ⟨b,o,none⟩ R.length c _ n3 n1 n2 (by omega) (by rw[f2,Nat.zero_add];simpa using l2) (akz _)
     refine fin (i:=i) (old:=none) (M0:=M1) (base:=w.heap.size) (l:=[]++m) (enc:=enc) (fun b q=>by cases q) r3 ?_ (by simp;omega) (.inr (.inr (akz _))) (fun p hp=>f4 p (by simpa using hp)) (fun x hx=>f3 x (by simpa using hx)) (fun m' _ q=>s2 m' q) (fun _=>s1) k1 (by rw[hx,hx2];exact r1)
     rw[aks,←f1,←f2]
     simpa using r2
    ·rcases dY h1 with⟨qc,_⟩|⟨cc,qc,hx⟩
     ·omega
     obtain rfl:cc=c':=by omega
     have hB:cG f (.prow Ty sz α l enc)=true:=fK q2
     obtain⟨v',w',r1,r2,r3,_,r5⟩:=run_append_own_at (P:=P) w 0 t ty Ty inf z sz bytes ht i1 i2 i3 i5 i4 i6 (.slice (some ⟨f.b,0,none⟩) l.length cc) l.length ((l.flatMap enc).map bQ)
      ⟨by rw[akm];exact r.len,.inr ⟨f.b,cc,arr,rfl,Nat.zero_le _,r.heap,r.le,r.max,r.size,r.take⟩⟩ ⟨b,o,none⟩ R.length c _ n3 n1 n2 (by omega) (by rw[f2];exact l2) (Nat.zero_le _)
     refine fin (i:=i) (old:=some f.b) (M0:=M1) (base:=0) (l:=l++m) (enc:=enc) (fun b q=>⟨f,_,hi',q1,akE q,hB⟩) r3 ?_ (by rw[akk];omega) (r5.imp id .inl) ?_ (fun x hx=> ?_) (fun m' _ q=>s2 m' q) (fun _=>s1) k1 (by rw[hx,hx2];exact r1)
     ·rw[akk,List.flatMap_append,akw,←f1,←f2];exact r2
     ·intro p hp
      rw[List.flatMap_append]at hp
      rcases akx.1 hp with hp|hp
      ·exact r.ok p hp
      ·exact f4 p hp
     ·rcases akx.1 hx with hx|hx
      ·exact q3 x hx
      ·exact f3 x hx
 ·rcases jX g with⟨rfl,g⟩|⟨i,o,n,c,rfl,g⟩
  case inr=>
   obtain⟨g1,g2⟩:=aq g
   have g1:=ako g1
   subst g1
   cases c
   case rest=>cases g2
   rename_i k
   obtain⟨g3,g4⟩:=aq g2
   have g3:=ako g3
   subst g3
   have h1':=h1
   simp only[den]at h1'
   split at h1'
   case h_2=>cases h1'
   rename_i e he'
   simp only[dr,akC]at h1'
   subst h1'
   obtain⟨α,l,enc,g1,g2,g3,hS⟩:=ER h h2 g4
   obtain⟨ao,c,hx2,hc⟩:=hS.form
   rcases iM g1 with⟨q,g4⟩|⟨q,g4⟩
   ·subst q
    refine⟨_,M,nx,ρ,w,_,Ren.Le.refl _,h,g4,h1,?_⟩
    rw[hx2]
    exact ft t ty Ty ht hs _ 0 0 (akz _) ao c
   ·obtain⟨⟨l1,l2⟩,g7⟩:=ae g4
    have hpos:=List.length_pos_iff.2 q
    obtain⟨b,o2,rfl,hcc⟩:=hc hpos
    obtain⟨v',w',r1,r2,r3⟩:=run_append_arg_grows (P:=P) w t ty Ty inf z sz bytes ht i1 i2 i3 i5 i4 i6 ⟨e.b,o,none⟩ 0 0 [] (by simp) (fun j u hu=>by simp at hu) ⟨b,o2,none⟩ l.length c ((l.flatMap enc).map bQ) (by rw[akm];exact hS.len) (fun j u hu=>by rw[dl];exact hcc j u hu) (by omega) (by rw[Nat.zero_add,hm63];simpa using l1) (by rw[Nat.zero_add];exact l2)
    refine fin (i:=nx) (old:=none) (M0:=M) (base:=w.heap.size) (l:=l) (enc:=enc) (fun b q=>by cases q) r3 (by simpa using r2) hpos (.inr (.inr (akz _))) hS.ok g2 (fun _ _ _=>rfl) (fun q=>absurd rfl q) g7 (by rw[hx2];exact r1)
  cases h1
  obtain⟨α,l,enc,g1,g2,g3,hS⟩:=ER h h2 g
  obtain⟨ao,c,hx2,hc⟩:=hS.form
  rcases iM g1 with⟨q,g4⟩|⟨q,g4⟩
  ·subst q
   refine⟨.nilS,M,nx,ρ,w,.slice none 0 0,Ren.Le.refl _,h,g4,rfl,?_⟩
   rw[hx2]
   exact ft t ty Ty ht hs none 0 0 (akz _) ao c
  ·obtain⟨⟨l1,l2⟩,g7⟩:=ae g4
   have hpos:=List.length_pos_iff.2 q
   obtain⟨b,o,rfl,hcc⟩:=hc hpos
   obtain⟨v',w',r1,r2,r3,_,r5⟩:=run_append_own_at (P:=P) w w.heap.size t ty Ty inf z sz bytes ht i1 i2 i3 i5 i4 i6 (.slice none 0 0) 0 [] (World.ownsRow_nil w _ Ty sz) ⟨b,o,none⟩ l.length c ((l.flatMap enc).map bQ) (by rw[akm];exact hS.len) (fun j u hu=>by rw[dl];exact hcc j u hu)
    (fun u hu=>by
     obtain⟨p,hp,rfl⟩:=List.mem_map.1 hu
     exact GW (hS.ok p hp)) (by omega) (by rw[Nat.zero_add];exact l2) (akz _)
   refine fin (i:=nx) (old:=none) (M0:=M) (base:=w.heap.size) (l:=l) (enc:=enc) (fun b q=>by cases q) r3 (by simpa using r2) hpos (.inr (.inr (akz _))) hS.ok g2 (fun _ _ _=>rfl) (fun q=>absurd rfl q) g7 (by rw[hx2];exact r1)
noncomputable def aiM (Ty sz bytes:Nat) (z:List AV) (vl vc:AV) (M:T) (nx:Nat) (K:AV→T→Nat→Bool):Bool:=br (eG vc) (jc vl fun _ l=>mE vc fun s=>SY.casesOn s (fun _ c=>ac (aF (l=0∧0≤c∧c≤9223372036854775807∧(bytes:Int)*c≤140737488355328)) (ac (Nat.blt 0 sz) (T.set bI M nx (some (.prow Ty sz Unit [] (fun _=>[]))) fun M'=>fN (Nat.succ nx) fun q=>K (.sy (.prow nx 0)) M' q))) (fun _=>false) (fun _=>false) (fun _ _ _ _ _=>false) (fun _ _ _=>false) (fun _ _=>false) (fun _ _ _ _ _ _=>false) (fun _ _ _ _=>false) (fun _ _ _=>false) (fun _=>false)) (aiN Ty sz bytes z vl vc M nx K)
theorem aeS (h:Sim E ρ G F M nx w) {t Ty sz bytes:Nat} (ht:P.underlying t=some (.slice Ty)) (he:su P Ty sz bytes=true) {z:List AV} {zs:Array Value} (hz:rl P Ty=some zs) (hzd:aO E ρ z=some zs.toList) {vl vc:AV} {xl xc:Value} (hl:den E ρ vl=some xl) (hc:den E ρ vc=some xc)
  {K:AV→T→Nat→Bool} (hk:aiM Ty sz bytes z vl vc M nx K=true):∃v M' nx' ρ' w' x,ρ.Le ρ'∧Sim E ρ' G F M' nx' w'∧K v M' nx'=true∧den E ρ' v=some x∧(Instr.makeSlice t xl xc).run P w= .ok x w':=by
 rcases bk hk with⟨-,g⟩|⟨-,g⟩
 case inr=>exact aeT h ht he hz hzd hl hc g
 obtain⟨k1,l,rfl,g1⟩:=iR g
 replace g1:=eV g1
 clear g hk
 obtain⟨s,rfl,g⟩:=g1
 cases s<;>first|(cases g;done)|skip
 case int k2 c=>
  obtain⟨⟨rfl,c0,c1,c2⟩,g2⟩:=ae g
  obtain⟨g3,g4⟩:=aq g2
  rw[akF]at g3
  obtain⟨M',g5,s1,s2⟩:=T.set_ok _ _ _ _ _ g4
  rw[bW]at g5
  cases hl;cases hc
  obtain⟨inf,z0,i1,i2,i3,i4,i5,i6⟩:=tm he
  have h0:=h.fresh nx (akz _)
  have hr:=Go.run_make (P:=P) w t Ty inf z0 ht i1 i2 (dv k1) (dv k2) 0 c (Int.le_refl 0) c0 (by rw[i5];omega) c1
  refine⟨_,M',nx+1,_,_,_,Ren.le_set (ρ:=ρ) ⟨w.heap.size,c.toNat+1⟩ h0,h.alloc (cap:=c.toNat+1) (o:=.prow Ty sz Unit [] (fun _=>[])) (ob:=.cells (madeCells z0.cells (c.toNat*inf.size)) Ty (0,0)) h0 (Nat.le_succ _) (Nat.lt_succ_self _) ⟨_,[],rfl,g3,fun x hx=>(by simp at hx),by simp[tn],?_,by simp,by simp,?_⟩ s1 s2 (fK rfl),g5,?_,hr⟩
  ·rw[Go.size_madeCells,i3];simp
  ·simp only[Nat.add_sub_cancel,maxLen];omega
  ·simp[den,bx,Ren.set_self,AI]
end
def so:AV→Value→Bool
 |.int k z,.int k' z'=>decide (dv k=k')&&decide (z=z')
 |.bool a,.bool b=>decide (a=b)
 |.str l,.string s=>decide (s=⟨(l.map UInt8.ofNat).toArray⟩)
 |.nilP,.pointer none=>true
 |.nilS,.slice none 0 0=>true
 |.nilM,.map none=>true
 |.nilF,.nilFunc=>true
 |.nilI,.nilIface=>true
 |_,_=>false
def LU:List AV→List Value→Bool
 |[],[]=>true
 |v::l,x::m=>so v x&&LU l m
 |_,_=>false
def isV:AV→Value→Bool
 |.agg l,.agg a=>LU l a.toList
 |v,x=>so v x
theorem yH {E:Env} {ρ:Ren} {v:AV} {x:Value} (h:so v x=true):den E ρ v=some x:=by
 unfold so at h
 split at h<;>first|(cases h;done)|rfl|skip
 ·simp only[akB,decide_eq_true_eq]at h
  rw[←h.1,←h.2];rfl
 ·rw[decide_eq_true_eq]at h
  rw[h];rfl
 ·rw[decide_eq_true_eq]at h
  rw[h];rfl
theorem Fo {E:Env} {ρ:Ren}:∀{l:List AV} {m:List Value},LU l m=true→aO E ρ l=some m
 |[],[],_=>rfl
 |[],_::_,h=>by cases h
 |_::_,[],h=>by cases h
 |v::l,x::m,h=>by
  simp only[LU,akB]at h
  exact mo (yH h.1) (Fo h.2)
theorem ai7 {E:Env} {ρ:Ren} {v:AV} {x:Value} (h:isV v x=true):den E ρ v=some x:=by
 unfold isV at h
 split at h
 ·simp only[den,Fo h]
 ·exact yH h
inductive XP|t (n:Nat)|c (v:AV)|f (n:Nat)
noncomputable def nb (v:AV) (K:AV→Bool):Bool:=AV.casesOn v false (fun k z=>K (.int k z)) (fun b=>K (.bool b)) (fun l=>K (.str l)) (fun i o=>K (.ptr i o)) (fun i o n c=>K (.sl i o n c)) (fun i=>K (.map i)) (K .nilP) (K .nilS) (K .nilM) (K .nilF) (K .nilI) (fun t v=>K (.iface t v)) (fun f c=>K (.fn f c)) (fun i=>K (.yl i)) (fun l=>K (.agg l)) (fun l=>K (.tup l)) (fun i=>K (.any i)) (fun s=>K (.sy s))
theorem ac9 {v:AV} {K:AV→Bool} (h:nb v K=true):v≠ .bad∧K v=true:=by
 cases v<;>first|exact⟨by simp,h⟩|cases h
noncomputable def ev (S:SL) (p:XP) (K:AV→Bool):Bool:=XP.casesOn p (fun n=>nb (bH n S) K) (fun v=>K v) (fun f=>K (.fn f []))
noncomputable def KV (S:SL) (ps:List XP):(List AV→Bool)→Bool:=List.rec (fun K=>K []) (fun p _ ih K=>ev S p fun v=>ih fun r=>K (v::r)) ps
noncomputable def Wo (S:SL) (p:Option XP) (K:Option AV→Bool):Bool:=Option.casesOn p (K none) fun p=>ev S p fun v=>K (some v)
def cb:XP→Operand→Bool
 |.t n,.tmp m=>Nat.beq n m
 |.c v,.const x=>so v x
 |.f n,.func m=>Nat.beq n m
 |_,_=>false
def rp:List XP→List Operand→Bool
 |[],[]=>true
 |p::ps,o::os=>cb p o&&rp ps os
 |_,_=>false
def wu:Option XP→Option Operand→Bool
 |none,none=>true
 |some p,some o=>cb p o
 |_,_=>false
structure SR (E:Env) (ρ:Ren) (N:Nat) (S:SL) (a:Act):Prop where
 size:a.tmps.size=N
 defs:a.defers=[]
 at_:∀t,bH t S= .bad∨∃x,den E ρ (bH t S)=some x∧a.tmps.getD t undef=x
section
variable {P:Program} {E:Env} {ρ ρ':Ren} {N:Nat} {S:SL} {a:Act}
theorem SR.mono (s:SR E ρ N S a) (hl:ρ.Le ρ'):SR E ρ' N S a:=⟨s.size,s.defs,fun t=>(s.at_ t).imp id fun⟨x,h1,h2⟩=>⟨x,gA hl _ _ h1,h2⟩⟩
theorem bU (s:SR E ρ N S a) {p:XP} {o:Operand} {K:AV→Bool} (ho:cb p o=true) (h:ev S p K=true):∃v x,den E ρ v=some x∧a.eval o=x∧K v=true:=by
 cases p with
 |t n=>
  cases o<;>simp only[cb]at ho<;>first|(cases ho;done)|skip
  have:=ako ho
  subst this
  obtain⟨h1,h2⟩:=ac9 h
  obtain⟨x,h3,h4⟩:=(s.at_ n).resolve_left h1
  exact⟨_,x,h3,h4,h2⟩
 |c v=>
  cases o<;>simp only[cb]at ho<;>first|(cases ho;done)|skip
  exact⟨v,_,yH ho,rfl,h⟩
 |f n=>
  cases o<;>simp only[cb]at ho<;>first|(cases ho;done)|skip
  have:=ako ho
  subst this
  exact⟨.fn n [],.func (.func n) #[] #[],by simp[den,aO],rfl,h⟩
theorem yL (s:SR E ρ N S a):∀{ps:List XP} {os:List Operand} {K:List AV→Bool},rp ps os=true→KV S ps K=true→∃vs,aO E ρ vs=some (os.map a.eval)∧K vs=true∧vs.length=os.length
 |[],[],K,_,h=>⟨[],rfl,h,rfl⟩
 |[],_::_,K,ho,_=>by cases ho
 |_::_,[],K,ho,_=>by cases ho
 |p::ps,o::os,K,ho,h=>by
  simp only[rp,akB]at ho
  have h':ev S p (fun v=>KV S ps fun r=>K (v::r))=true:=h
  obtain⟨v,x,h1,h2,h3⟩:=bU s ho.1 h'
  obtain⟨vs,h4,h5,h6⟩:=yL s ho.2 h3
  exact⟨v::vs,mo (by rw[h1,h2]) h4,h5,by simp[h6]⟩
theorem DW (s:SR E ρ N S a) {p:Option XP} {o:Option Operand} {K:Option AV→Bool} (ho:wu p o=true) (h:Wo S p K=true):∃v,vA E ρ v (o.map a.eval)∧K v=true:=by
 cases p with
 |none=>
  cases o<;>simp only[wu]at ho<;>first|(cases ho;done)|skip
  exact⟨none,.inl ⟨rfl,rfl⟩,h⟩
 |some p=>
  cases o<;>simp only[wu]at ho<;>first|(cases ho;done)|skip
  rename_i o
  obtain⟨v,x,h1,h2,h3⟩:=bU (p:=p) s ho h
  exact⟨some v,.inr ⟨v,x,rfl,by simp[h2],h1⟩,h3⟩
noncomputable def air (d:Option Nat) (v:AV) (S:SL):SL:=Option.casesOn d S fun d=>.cons d v S
theorem SR.put (s:SR E ρ N S a) {d:Option Nat} {v:AV} {z:Value} (hd:∀t,d=some t→t<N) (hv:v= .bad∨den E ρ v=some z):SR E ρ N (air d v S) (a.put d z):=by
 cases d with
 |none=>exact s
 |some d=>
  have hlt:=hd d rfl
  refine⟨by simpa[Act.put] using s.size,s.defs,fun t=> ?_⟩
  show bH t (.cons d v S)= .bad∨∃x,den E ρ (bH t (.cons d v S))=some x∧_
  by_cases e:d=t
  ·subst e
   rw[fL]
   refine hv.imp id fun h=>⟨z,h,?_⟩
   simp[Act.put,Array.getD,s.size,hlt]
  ·rw[jV _ _ e]
   refine(s.at_ t).imp id fun⟨x,h1,h2⟩=>⟨x,h1,?_⟩
   rw[←h2]
   exact Go.Eng.getD_put (fun q=>e q.symm)
end
def tg (P:Program) (t e:Nat):Bool:=match P.underlying t with|some (.slice e')=>Nat.beq e' e|_=>false
def Py (P:Program) (t n e:Nat):Bool:=match P.underlying t with|some (.array n' e')=>Nat.beq n' n&&Nat.beq e' e|_=>false
def wE (P:Program) (t k e:Nat):Bool:=match P.underlying t with|some (.map k' e')=>Nat.beq k' k&&Nat.beq e' e|_=>false
def Kq (P:Program) (t:Nat):Bool:=match P.underlying t with|some .string=>true|_=>false
def Px (P:Program) (t k:Nat):Bool:=match P.underlying t with|some (.int k')=>decide (k'=dv k)|_=>false
def sw (P:Program) (t:Nat):Nat:=match P.underlying t with|some (.slice e)=>e|some (.array _ e)=>e|some (.map _ e)=>e|_=>0
def Kp (P:Program) (t:Nat):Nat:=match P.underlying t with|some (.map k _)=>k|_=>0
theorem ny {P:Program} {t e:Nat} (h:tg P t e=true):P.underlying t=some (.slice e):=by
 unfold tg at h
 split at h
 ·rename_i h1;rw[h1,ako h]
 ·cases h
theorem Ry {P:Program} {t n e:Nat} (h:Py P t n e=true):P.underlying t=some (.array n e):=by
 unfold Py at h
 split at h
 ·rename_i h1
  simp only[akB]at h
  rw[h1,ako h.1,ako h.2]
 ·cases h
theorem qA {P:Program} {t k e:Nat} (h:wE P t k e=true):P.underlying t=some (.map k e):=by
 unfold wE at h
 split at h
 ·rename_i h1
  simp only[akB]at h
  rw[h1,ako h.1,ako h.2]
 ·cases h
theorem HS {P:Program} {t:Nat} (h:Kq P t=true):P.underlying t=some .string:=by
 unfold Kq at h
 split at h
 ·assumption
 ·cases h
theorem Rw {P:Program} {t k:Nat} (h:Px P t k=true):P.underlying t=some (.int (dv k)):=by
 unfold Px at h
 split at h
 ·rename_i h1
  rw[decide_eq_true_eq]at h
  rw[h1,h]
 ·cases h
def yb (P:Program) (T:Nat) (z:List AV):Bool:=match rl P T with|some zs=>LU z zs.toList|none=>false
theorem wk {P:Program} {T:Nat} {z:List AV} {E:Env} {ρ:Ren} (h:yb P T z=true):∃zs,rl P T=some zs∧aO E ρ z=some zs.toList:=by
 unfold yb at h
 split at h
 ·rename_i zs h1
  exact⟨zs,h1,Fo h⟩
 ·cases h
def Lp (P:Program) (Ty sz len:Nat) (z:List AV):Bool:=match EM P Ty sz len with|some zs=>LU z zs|none=>false
theorem WQ {P:Program} {Ty sz len:Nat} {z:List AV} {E:Env} {ρ:Ren} (h:Lp P Ty sz len z=true):∃zs,EM P Ty sz len=some zs∧aO E ρ z=some zs:=by
 unfold Lp at h
 split at h
 ·rename_i zs h1
  exact⟨zs,h1,Fo h⟩
 ·cases h
def aax (P:Program) (e:Nat) (v:AV):Bool:=match (P.info? e).bind (·.zero) with|some z=>isV v z|none=>false
theorem ado {P:Program} {e:Nat} {v:AV} {E:Env} {ρ:Ren} (h:aax P e v=true):∃z,(∀w,(zeroValue e:Sem Value).run P w= .ok z w)∧den E ρ v=some z:=by
 unfold aax at h
 split at h
 ·rename_i z h1
  refine⟨z,fun w=> ?_,ai7 h⟩
  rcases hi:P.info? e with _|i
  ·simp[hi]at h1
  ·simp only[hi,Option.bind_some]at h1
   simp[zeroValue,typeInfo,hi,h1]
 ·cases h
inductive XO
 |bad|mv (x:XP)|pick (c x y:XP)|bin (f o:Nat) (x y:XP)|eqs (ne:Bool) (d:Nat) (et:ET) (x y:XP)|isn (ne:Bool) (kd:Nat) (x:XP)|un (f:Nat) (x:XP)|cnv (k:Nat) (x:XP)
 |fa (off:Nat) (x:XP)|nck (x:XP)|ixa (n sz:Nat) (x i:XP)|ixs (sz:Nat) (x i:XP)|fld (agg:Bool) (off n:Nat) (x:XP)|len (f:Nat) (x:XP)|mx (b:Bool) (x y:XP)|ext (i:Nat) (x:XP)|six (x i:XP)
 |bld (z:List AV) (ps:List (Nat×Nat)) (xs:List XP)
 |ld (agg:Bool) (n:Nat) (x:XP)|mlen (x:XP)|sls (sz:Nat) (x:XP) (lo hi mx:Option XP)|lk (d:Nat) (et:ET) (zv:AV) (comma:Bool) (m k:XP)|ent (it:XP)
 |st (n:Nat) (x y:XP)|al (T:Nat) (z:List AV)|box (T:Nat) (x:XP)|bsl (Ty sz len:Nat) (z:List AV) (ps:List (Nat×Nat)) (xs:List XP)|mks (Ty sz bytes:Nat) (z:List AV) (l c:XP)|mkm
 |mu (d:Nat) (et:ET) (m k v:XP)|rng (m:XP)|nxt (it:XP)|app (Ty sz bytes:Nat) (x y:XP)|del (d:Nat) (et:ET) (m k:XP)|mkf (f:Nat) (xs:List XP)|ixv (agg:Bool) (n sz:Nat) (x i:XP)|slt (x:XP) (lo hi:Option XP)|cnw (k:Nat) (x:XP)|clr (Ty:Nat) (z:List AV) (x:XP)
noncomputable def Xq (ps:List (Nat×Nat)):List AV→Bool:=List.rec (fun vs=>List.casesOn vs true fun _ _=>false) (fun p _ ih vs=>List.casesOn vs false fun v r=>Bool.and (Nat.beq (dN (cn v)) p.2) (ih r)) ps
theorem Lx {E:Env} {ρ:Ren} (hE:fu E):∀{ps:List (Nat×Nat)} {vs:List AV} {ys:List Value},Xq ps vs=true→aO E ρ vs=some ys→∀(k:Nat) (p:Nat×Nat) (y:Value),ps[k]?=some p→ys[k]?=some y→y.cells.size=p.2
 |[],vs,ys,h,hd=>by intro k p y hp;simp at hp
 |q::ps,[],ys,h,hd=>by cases h
 |q::ps,v::vs,ys,h,hd=>by
  obtain⟨x,xs,h1,h2,rfl⟩:=cA hd
  obtain⟨h3,h4⟩:=vE (a:=Nat.beq (dN (cn v)) q.2) (b:=Xq ps vs) h
  intro k p y hp hy
  cases k with
  |zero=>
   simp at hp hy
   subst hp;subst hy
   have:=cL (pw hE h1)
   have h3:=ako h3
   rw[cF]at h3
   rw[←h3,←this]
   simp
  |succ k=>exact Lx hE h4 h2 k p y (by simpa using hp) (by simpa using hy)
noncomputable def opP (x:XO) (S:SL) (K:AV→Bool):Bool:=match x with
 |.mv x=>ev S x K
 |.pick c x y=>ev S c fun c=>Yv c fun b=>br b (ev S x K) (ev S y K)
 |.bin f o x y=>ev S x fun u=>ev S y fun v=>Nat.rec (arY o u v K) (fun f _=>Nat.rec (acz o u v K) (fun f _=>Nat.rec (shX (Nat.beq o 1) u v K) (fun f _=>Nat.rec (acr o u v K) (fun f _=>Nat.rec (Xv u v K) (fun _ _=>abu (Nat.beq o 1) u v K) f) f) f) f) f
 |.eqs ne d et x y=>ev S x fun u=>ev S y fun v=>ss d et u v fun b=>fB (Bool.rec b (Bool.not b) ne) fun r=>K (.bool r)
 |.isn ne kd x=>ev S x fun u=>ai5 ne kd u K
 |.un f x=>ev S x fun u=>Nat.rec (aiD u K) (fun f _=>Nat.rec (aiF u K) (fun _ _=>ajn u K) f) f
 |.cnv k x=>ev S x fun u=>ajp k u K
 |.fa off x=>ev S x fun u=>faY off u K
 |.nck x=>ev S x fun u=>aiH u K
 |.ixa n sz x i=>ev S x fun u=>ev S i fun v=>ai3 n sz u v K
 |.ixs sz x i=>ev S x fun u=>ev S i fun v=>ai1 sz u v K
 |.fld agg off n x=>ev S x fun u=>ajb agg off n u K
 |.len f x=>ev S x fun u=>Nat.rec (ac5 u K) (fun _ _=>aiV u K) f
 |.mx b x y=>ev S x fun u=>ev S y fun v=>mxY b u v K
 |.ext i x=>ev S x fun u=>aje i u K
 |.six x i=>ev S x fun u=>ev S i fun v=>aih u v K
 |.bld z ps xs=>KV S xs fun vs=>ac (Xq ps vs) (ajz z ((ps.map (·.1)).zip vs) K)
 |.mkf f xs=>KV S xs fun vs=>K (.fn f vs)
 |.ixv agg n sz x i=>ev S x fun u=>ev S i fun v=>ai0 agg n sz u v K
 |.cnw k x=>ev S x fun u=>ajo k u K
 |.slt x lo hi=>ev S x fun u=>Wo S lo fun l=>Wo S hi fun h=>aie u l h K
 |_=>false
noncomputable def VN (x:XO) (S:SL) (M:T) (K:AV→Bool):Bool:=match x with
 |.ld agg n x=>ev S x fun u=>VZ agg n u M K
 |.mlen x=>ev S x fun u=>ada u M K
 |.sls sz x lo hi mx=>ev S x fun u=>Wo S lo fun l=>Wo S hi fun h=>Wo S mx fun m=>aif sz u l h m M K
 |.lk d et zv comma m k=>ev S m fun u=>ev S k fun v=>lkX d et zv comma u v M K
 |.ent it=>ev S it fun u=>ajk u M K
 |_=>false
noncomputable def opE (x:XO) (S:SL) (M:T) (nx:Nat) (K:AV→T→Nat→Bool):Bool:=match x with
 |.st n x y=>ev S x fun u=>ev S y fun v=>stY n u v M fun M'=>K .bad M' nx
 |.al T z=>ac (Nat.blt 0 (dN z)) (XD T z M nx K)
 |.box T x=>ev S x fun u=>ajx T u M nx K
 |.bsl Ty sz len z ps xs=>KV S xs fun vs=>ac (Xq ps vs) (ajw Ty sz len z ((ps.map (·.1)).zip vs) M nx K)
 |.mks Ty sz bytes z l c=>ev S l fun u=>ev S c fun v=>aiM Ty sz bytes z u v M nx K
 |.mkm=>aiO M nx K
 |.mu d et m k v=>ev S m fun m=>ev S k fun k=>ev S v fun v=>muX d et m k v M fun M'=>K .bad M' nx
 |.rng m=>ev S m fun u=>aio u M nx K
 |.nxt it=>ev S it fun u=>aiC u M fun v M'=>K v M' nx
 |.app Ty sz bytes x y=>ev S x fun u=>ev S y fun v=>ajE Ty sz bytes u v M nx K
 |.del d et m k=>ev S m fun u=>ev S k fun v=>ajl d et u v M fun M'=>K (.tup []) M' nx
 |.clr Ty z x=>ev S x fun u=>vF u false fun i o n _=>ac (Nat.beq n 1) (ac (Nat.blt 0 (dN z)) (stX (dN z) (.ptr i o) (.agg z) M fun M'=>K (.tup []) M' nx))
 |_=>false
def acA:Nat→Nat→BinOp
 |0,o=>lr o
 |1,o=>IX o
 |2,o=>bif Nat.beq o 1 then .shr else .shl
 |3,o=>lq o
 |4,_=>.add
 |_,o=>bif Nat.beq o 1 then .neq else .eql
def ajI:List (Nat×Nat)→List (Nat×Operand)→List XP→Bool
 |[],[],[]=>true
 |_::ps,q::qs,x::xs=>cb x q.2&&ajI ps qs xs
 |_,_,_=>false
def Es (P:Program) (x:XO) (o:Op):Bool:=match x with
 |.bad=>true
 |.mv x=>match o with|.move y|.assign y=>cb x y|_=>false
 |.pick c x y=>match o with|.pick c' x' y'=>cb c c'&&cb x x'&&cb y y'|_=>false
 |.bin f k x y=>match o with|.binOp b _ x' y' _=>decide (b=acA f k)&&cb x x'&&cb y y'|_=>false
 |.eqs ne d et x y=>match o with|.binOp b t x' y' _=>decide (b=bif ne then .neq else .eql)&&Nat.ble d 10000&&di P d et t&& !P.eqGuardType P.depth t&&cb x x'&&cb y y'|_=>false
 |.isn ne kd x=>match o with|.binOp b t x' (.const c) _=>decide (b=bif ne then .neq else .eql)&&(match Qr P t kd with|some z=>(so .nilP c&&so .nilP z)||(so .nilS c&&so .nilS z)||(so .nilM c&&so .nilM z)||(so .nilF c&&so .nilF z)||(so .nilI c&&so .nilI z)|none=>false)&&cb x x'|_=>false
 |.un f x=>match o with|.unOp u _ x'=>cb x x'&&decide (u=match f with|0=>.not|1=>.neg|_=>.xor)|_=>false
 |.cnv k x=>match o with|.convert s t x'=>cb x x'&&(P.underlying s).isSome&&Px P t k|_=>false
 |.fa off x=>match o with|.fieldAddr s x' f=>cb x x'&&decide (DV P s f=some off)|_=>false
 |.nck x=>match o with|.nilCheck x'=>cb x x'|_=>false
 |.ixa n sz x i=>match o with|.indexAddr t x' i'=>cb x x'&&cb i i'&&Py P t n (sw P t)&&decide (cJ P (sw P t)=some sz)|_=>false
 |.ixs sz x i=>match o with|.indexAddr t x' i'=>cb x x'&&cb i i'&&tg P t (sw P t)&&decide (cJ P (sw P t)=some sz)|_=>false
 |.fld agg off n x=>match o with|.field t x' f=>cb x x'&&(match P.underlying t with|some (.struct fs)=>(match fs[f]? with|some g=>Nat.beq g.offset off&&decide (kg P g.type=some agg)&&decide (cJ P g.type=some n)|none=>false)|_=>false)|_=>false
 |.len f x=>match o with|.call c=>(match c.callee,c.args.toList,c.argTypes.toList with|.builtin .len,[x'],[t]=>cb x x'&&(match f with|0=>Kq P t|_=>tg P t (sw P t))|_,_,_=>false)|_=>false
 |.mlen x=>match o with|.call c=>(match c.callee,c.args.toList,c.argTypes.toList with|.builtin .len,[x'],[t]=>cb x x'&&wE P t (Kp P t) (sw P t)|_,_,_=>false)|_=>false
 |.mx b x y=>match o with|.call c=>(match c.callee,c.args.toList with|.builtin f,[x',y']=>cb x x'&&cb y y'&&decide (f=bif b then .max else .min)|_,_=>false)|_=>false
 |.app Ty sz bytes x y=>match o with|.call c=>(match c.callee,c.args.toList,c.argTypes.toList with|.builtin .append,[x',y'],[t,u]=>cb x x'&&cb y y'&&Nat.beq t u&&tg P t Ty&&su P Ty sz bytes|_,_,_=>false)|_=>false
 |.del d et m k=>match o with|.call c=>(match c.callee,c.args.toList,c.argTypes.toList with|.builtin .delete,[x',y'],[t,_]=>cb m x'&&cb k y'&&Nat.ble d 10000&&wE P t (Kp P t) (sw P t)&&di P d et (Kp P t)|_,_,_=>false)|_=>false
 |.ext i x=>match o with|.extract x' j=>cb x x'&&Nat.beq i j|_=>false
 |.six x i=>match o with|.index t x' i'=>cb x x'&&cb i i'&&Kq P t|_=>false
 |.bld z ps xs=>match o with|.build t qs=>KP P t&&yb P t z&&Fh P t (qs.toList.map (·.1)) ps&&rp xs (qs.toList.map (·.2))|_=>false
 |.cnw k x=>match o with|.convert s t x'=>cb x x'&&(P.underlying s).isSome&&Px P t k|_=>false
 |.slt x lo hi=>match o with|.slice t x' lo' hi' none=>cb x x'&&wu lo lo'&&wu hi hi'&&Kq P t|_=>false
 |.ixv agg n sz x i=>match o with|.index t x' i'=>cb x x'&&cb i i'&&Py P t n (sw P t)&&decide (kg P (sw P t)=some agg)&&decide (cJ P (sw P t)=some sz)|_=>false
 |.clr Ty z x=>match o with|.call c=>(match c.callee,c.args.toList,c.argTypes.toList with|.builtin .clear,[x'],[t]=>cb x x'&&tg P t Ty&&yb P Ty z&&decide (cJ P Ty=some z.length)|_,_,_=>false)|_=>false
 |.mkf f xs=>match o with|.makeFunc (.func f') first caps=>Nat.beq f' f&&first.isEmpty&&rp xs caps.toList|_=>false
 |.ld agg n x=>match o with|.load t x'=>cb x x'&&decide (kg P t=some agg)&&decide (cJ P t=some n)|_=>false
 |.sls sz x lo hi mx=>match o with|.slice t x' lo' hi' mx'=>cb x x'&&wu lo lo'&&wu hi hi'&&wu mx mx'&&tg P t (sw P t)&&decide (cJ P (sw P t)=some sz)|_=>false
 |.lk d et zv comma m k=>match o with|.lookup t m' k' c=>cb m m'&&cb k k'&&decide (c=comma)&&Nat.ble d 10000&&wE P t (Kp P t) (sw P t)&&di P d et (Kp P t)&&aax P (sw P t) zv|_=>false
 |.ent it=>match o with|.entry x'=>cb it x'|_=>false
 |.st n x y=>match o with|.store t x' y'=>cb x x'&&cb y y'&&decide (cJ P t=some n)|_=>false
 |.al T z=>match o with|.alloc t=>Nat.beq t T&&yb P t z|_=>false
 |.box T x=>match o with|.box t x'=>cb x x'&&Nat.beq t T|_=>false
 |.bsl Ty sz len z ps xs=>match o with|.buildSlice t n qs=>Nat.beq n len&&tg P t Ty&&Lp P Ty sz len z&&Fh P t (qs.toList.map (·.1)) ps&&rp xs (qs.toList.map (·.2))|_=>false
 |.mks Ty sz bytes z l c=>match o with|.makeSlice t l' c'=>cb l l'&&cb c c'&&tg P t Ty&&su P Ty sz bytes&&yb P Ty z|_=>false
 |.mkm=>match o with|.makeMap t none=>wE P t (Kp P t) (sw P t)|_=>false
 |.mu d et m k v=>match o with|.mapUpdate t m' k' v'|.insert t m' k' v'=>cb m m'&&cb k k'&&cb v v'&&Nat.ble d 10000&&wE P t (Kp P t) (sw P t)&&di P d et (Kp P t)|_=>false
 |.rng m=>match o with|.range t m'=>cb m m'&&wE P t (Kp P t) (sw P t)|_=>false
 |.nxt it=>match o with|.next x' s=>cb it x'&& !s|_=>false
section
variable {P:Program} {E:Env} {ρ:Ren} {G:GS} {F:List bo} {M:T} {nx:Nat} {w:World} {N:Nat} {S:SL} {a:Act}
theorem co {m:Sem Value} {z:Value} {w w':World} (h:m.run P w= .ok z w'):((do pure (Next.value (←m))):Sem Next).run P w= .ok (.value z) w':=by
 simp[akv,h]
theorem PT {m:Sem Unit} {w w':World} (h:m.run P w= .ok () w'):((do m;pure Next.skip):Sem Next).run P w= .ok .skip w':=by
 simp[akv,h]
theorem Qf (qs:Array (Nat×Operand)) (f:Operand→Value):(qs.map fun(i,x)=>(i,f x))=(((qs.toList.map (·.1)).zip ((qs.toList.map (·.2)).map f))).toArray:=by
 apply Array.ext'
 simp only[Array.toList_map,List.map_map]
 generalize qs.toList=l
 induction l with
 |nil=>rfl
 |cons p l ih=>simp[ih]
theorem rF {α:Type _} {x:Array α} {l:List α} (h:x.toList=l):x=l.toArray:=by
 subst h;simp
theorem aV {a b:Bool} (h:(a&&b)=true):a=true∧b=true:=by simpa using h
theorem ajA {f k:Nat} {u v:AV} {K:AV→Bool} {x y:Value} (h1:den E ρ u=some x) (h2:den E ρ v=some y)
  (hk:(Nat.rec (arY k u v K) (fun f _=>Nat.rec (acz k u v K) (fun f _=>Nat.rec (shX (Nat.beq k 1) u v K) (fun f _=>Nat.rec (acr k u v K) (fun f _=>Nat.rec (Xv u v K) (fun _ _=>abu (Nat.beq k 1) u v K) f) f) f) f) f:Bool)=true) (t:TypeId) (p q:Operand):
  ∃v z,den E ρ v=some z∧K v=true∧∀w,((do eqGuard (acA f k) t p q x y;binOp (acA f k) t x y):Sem Value).run P w= .ok z w:=by
 match f with
 |0=>exact ajB h1 h2 hk t p q
 |1=>exact afZ h1 h2 hk t p q
 |2=>exact aik h1 h2 hk t p q
 |3=>exact afK h1 h2 hk t p q
 |4=>exact abx h1 h2 hk t p q
 |n+5=>exact aeB h1 h2 hk t p q
set_option maxHeartbeats 1000000 in
theorem aiv (hE:fu E) (s:SR E ρ N S a) {o:Oper} {x:XO} {K:AV→Bool} (hc:Es P x o.op=true) (hk:opP x S K=true):∃v z,den E ρ v=some z∧K v=true∧∀w,(execOp a.eval o).run P w= .ok (.value z) w:=by
 obtain⟨dst,op,ty,pos,af,g⟩:=o
 cases x<;>simp only[Es]at hc<;>simp only[opP]at hk<;>first|(cases hk;done)|skip
 case mv x=>
  split at hc<;>first|(cases hc;done)|skip
  all_goals
   obtain⟨v,z,h1,h2,h3⟩:=bU s hc hk
   exact⟨v,z,h1,h3,fun w=>by simp only[execOp,h2];rfl⟩
 case pick c x y=>
  split at hc<;>first|(cases hc;done)|skip
  obtain⟨hc,c3⟩:=aV hc
  obtain⟨c1,c2⟩:=aV hc
  obtain⟨v,z,h1,h2,h3⟩:=bU s c1 hk
  obtain⟨b,rfl,h4⟩:=MM h1 h3
  rcases bk h4 with⟨rfl,h5⟩|⟨rfl,h5⟩
  ·obtain⟨u,z,g1,g2,g3⟩:=bU s c2 h5
   exact⟨u,z,g1,g3,fun w=>by simp[execOp,h2,g2,asBool]⟩
  ·obtain⟨u,z,g1,g2,g3⟩:=bU s c3 h5
   exact⟨u,z,g1,g3,fun w=>by simp[execOp,h2,g2,asBool]⟩
 case bin f k x y=>
  split at hc<;>first|(cases hc;done)|skip
  rename_i b t x' y' t2
  obtain⟨hc,c3⟩:=aV hc
  obtain⟨c1,c2⟩:=aV hc
  rw[decide_eq_true_eq]at c1
  subst c1
  obtain⟨u,zu,h1,h2,h3⟩:=bU s c2 hk
  obtain⟨v,zv,h4,h5,h6⟩:=bU s c3 h3
  obtain⟨r,z,g1,g2,g3⟩:=ajA (P:=P) h1 h4 h6 t x' y'
  exact⟨r,z,g1,g2,fun w=>by simp only[execOp,h2,h5];exact co (g3 w)⟩
 case eqs ne d et x y=>
  split at hc<;>first|(cases hc;done)|skip
  rename_i b t x' y' t2
  obtain⟨hc,c6⟩:=aV hc
  obtain⟨hc,c5⟩:=aV hc
  obtain⟨hc,c4⟩:=aV hc
  obtain⟨hc,c3⟩:=aV hc
  obtain⟨c1,c2⟩:=aV hc
  rw[decide_eq_true_eq]at c1
  subst c1
  obtain⟨u,zu,h1,h2,h3⟩:=bU s c5 hk
  obtain⟨v,zv,h4,h5,h6⟩:=bU s c6 h3
  obtain⟨r,z,g1,g2,g3⟩:=ajf (P:=P) (Nat.le_of_ble_eq_true c2) c3 (by simpa using c4) h1 h4 h6 x' y'
  exact⟨r,z,g1,g2,fun w=>by simp only[execOp,h2,h5];exact co (g3 w)⟩
 case isn ne kd x=>
  split at hc<;>first|(cases hc;done)|skip
  rename_i b t x' c t2
  obtain⟨hc,c3⟩:=aV hc
  obtain⟨c1,c2⟩:=aV hc
  rw[decide_eq_true_eq]at c1
  subst c1
  split at c2
  case h_2=>cases c2
  rename_i z hz
  obtain⟨u,zu,h1,h2,h3⟩:=bU s c3 hk
  have hcz:c=z:=by
   have key:∀v:AV,(so v c&&so v z)=true→c=z:=fun v h=>by
    obtain⟨p,q⟩:=aV h
    have p':=yH (E:=⟨fun _=>undef,fun _=>none⟩) (ρ:=fun _=>none) p
    have q':=yH (E:=⟨fun _=>undef,fun _=>none⟩) (ρ:=fun _=>none) q
    rw[p']at q'
    exact akE q'
   simp only[Bool.or_eq_true]at c2
   rcases c2 with(((h|h)|h)|h)|h<;>exact key _ h
  subst hcz
  obtain⟨r,y,g1,g2,g3⟩:=afs (P:=P) hz h1 h3 x' c
  exact⟨r,y,g1,g2,fun w=>by simp only[execOp,h2];exact co (g3 w)⟩
 case un f x=>
  split at hc<;>first|(cases hc;done)|skip
  rename_i u t x'
  obtain⟨c1,c2⟩:=aV hc
  rw[decide_eq_true_eq]at c2
  obtain⟨v,zv,h1,h2,h3⟩:=bU s c1 hk
  match f,c2,h3 with
  |0,c2,h3=>
   obtain⟨r,z,g1,g2,g3⟩:=aeJ (P:=P) h1 h3
   exact⟨r,z,g1,g2,fun w=>by simp only[execOp,h2,c2];exact co (g3 w)⟩
  |1,c2,h3=>
   obtain⟨r,z,g1,g2,g3⟩:=aeL (P:=P) h1 h3
   exact⟨r,z,g1,g2,fun w=>by simp only[execOp,h2,c2];exact co (g3 w)⟩
  |n+2,c2,h3=>
   obtain⟨r,z,g1,g2,g3⟩:=afG (P:=P) h1 h3
   exact⟨r,z,g1,g2,fun w=>by simp only[execOp,h2,c2];exact co (g3 w)⟩
 case cnw k x=>
  split at hc<;>first|(cases hc;done)|skip
  obtain⟨hc,c3⟩:=aV hc
  obtain⟨c1,c2⟩:=aV hc
  obtain⟨v,zv,h1,h2,h3⟩:=bU s c1 hk
  obtain⟨r,z,g1,g2,g3⟩:=afH (P:=P) h1 h3 c2 (Rw c3)
  exact⟨r,z,g1,g2,fun w=>by simp only[execOp,h2];exact co (g3 w)⟩
 case cnv k x=>
  split at hc<;>first|(cases hc;done)|skip
  obtain⟨hc,c3⟩:=aV hc
  obtain⟨c1,c2⟩:=aV hc
  obtain⟨v,zv,h1,h2,h3⟩:=bU s c1 hk
  obtain⟨r,z,g1,g2,g3⟩:=afI (P:=P) h1 h3 c2 (Rw c3)
  exact⟨r,z,g1,g2,fun w=>by simp only[execOp,h2];exact co (g3 w)⟩
 case fa off x=>
  split at hc<;>first|(cases hc;done)|skip
  obtain⟨c1,c2⟩:=aV hc
  rw[decide_eq_true_eq]at c2
  obtain⟨v,zv,h1,h2,h3⟩:=bU s c1 hk
  obtain⟨r,z,g1,g2,g3⟩:=ajc (P:=P) c2 h1 h3
  exact⟨r,z,g1,g2,fun w=>by simp only[execOp,h2];exact co (g3 w)⟩
 case nck x=>
  split at hc<;>first|(cases hc;done)|skip
  obtain⟨v,zv,h1,h2,h3⟩:=bU s hc hk
  obtain⟨g1,g2⟩:=aeN (P:=P) h1 h3 (a:=a) h2 (dst:=dst) (ty:=ty) (pos:=pos) (af:=af) (g:=g)
  exact⟨v,zv,h1,g1,g2⟩
 case ixa n sz x i=>
  split at hc<;>first|(cases hc;done)|skip
  obtain⟨hc,c4⟩:=aV hc
  obtain⟨hc,c3⟩:=aV hc
  obtain⟨c1,c2⟩:=aV hc
  rw[decide_eq_true_eq]at c4
  obtain⟨v,zv,h1,h2,h3⟩:=bU s c1 hk
  obtain⟨u,zu,h4,h5,h6⟩:=bU s c2 h3
  obtain⟨r,z,g1,g2,g3⟩:=afq (P:=P) (Ry c3) c4 h1 h4 h6
  exact⟨r,z,g1,g2,fun w=>by simp only[execOp,h2,h5];exact co (g3 w)⟩
 case slt x lo hi=>
  split at hc<;>first|(cases hc;done)|skip
  obtain⟨hc,c4⟩:=aV hc
  obtain⟨hc,c3⟩:=aV hc
  obtain⟨c1,c2⟩:=aV hc
  obtain⟨v,zv,h1,h2,h3⟩:=bU s c1 hk
  obtain⟨l,l1,l2⟩:=DW s c2 h3
  obtain⟨hh,l3,l4⟩:=DW s c3 l2
  obtain⟨u,z,g1,g2,g3⟩:=aev (P:=P) (HS c4) h1 l1 l3 l4
  exact⟨u,z,g1,g2,fun w=>by simp only[execOp,h2];exact co (g3 w)⟩
 case ixv agg n sz x i=>
  split at hc<;>first|(cases hc;done)|skip
  obtain⟨hc,c5⟩:=aV hc
  obtain⟨hc,c4⟩:=aV hc
  obtain⟨hc,c3⟩:=aV hc
  obtain⟨c1,c2⟩:=aV hc
  rw[decide_eq_true_eq]at c4 c5
  obtain⟨v,zv,h1,h2,h3⟩:=bU s c1 hk
  obtain⟨u,zu,h4,h5,h6⟩:=bU s c2 h3
  obtain⟨r,z,g1,g2,g3⟩:=afn (P:=P) (Ry c3) c4 c5 h1 h4 h6
  exact⟨r,z,g1,g2,fun w=>by simp only[execOp,h2,h5];exact co (g3 w)⟩
 case ixs sz x i=>
  split at hc<;>first|(cases hc;done)|skip
  obtain⟨hc,c4⟩:=aV hc
  obtain⟨hc,c3⟩:=aV hc
  obtain⟨c1,c2⟩:=aV hc
  rw[decide_eq_true_eq]at c4
  obtain⟨v,zv,h1,h2,h3⟩:=bU s c1 hk
  obtain⟨u,zu,h4,h5,h6⟩:=bU s c2 h3
  obtain⟨r,z,g1,g2,g3⟩:=afo (P:=P) (ny c3) c4 h1 h4 h6
  exact⟨r,z,g1,g2,fun w=>by simp only[execOp,h2,h5];exact co (g3 w)⟩
 case fld agg off n x=>
  split at hc<;>first|(cases hc;done)|skip
  obtain⟨c1,c2⟩:=aV hc
  split at c2
  case h_2=>cases c2
  rename_i fs hfs
  split at c2
  case h_2=>cases c2
  rename_i f hf
  obtain⟨c2,c4⟩:=aV c2
  obtain⟨c2,c3⟩:=aV c2
  rw[decide_eq_true_eq]at c3 c4
  obtain⟨v,zv,h1,h2,h3⟩:=bU s c1 hk
  obtain⟨r,z,g1,g2,g3⟩:=afw (P:=P) hfs hf (ako c2) c3 c4 h1 h3
  exact⟨r,z,g1,g2,fun w=>by simp only[execOp,h2];exact co (g3 w)⟩
 case len f x=>
  split at hc<;>first|(cases hc;done)|skip
  rename_i c
  obtain⟨callee,args,tas⟩:=c
  split at hc<;>first|(cases hc;done)|skip
  rename_i x' t e1 e2 e3
  simp only at e1 e2 e3
  obtain rfl:=rF e2
  obtain rfl:=rF e3
  subst e1
  obtain⟨c1,c2⟩:=aV hc
  obtain⟨v,zv,h1,h2,h3⟩:=bU s c1 hk
  cases f with
  |zero=>
   obtain⟨r,z,g1,g2,g3⟩:=abr (P:=P) (ty:=ty) (HS c2) h1 h3
   refine⟨r,z,g1,g2,fun w=> ?_⟩
   rw[jS,show[x'].toArray.map a.eval= #[zv] by simp[h2]]
   exact g3 _ w
  |succ f=>
   obtain⟨r,z,g1,g2,g3⟩:=afg (P:=P) (ty:=ty) (ny c2) h1 h3
   refine⟨r,z,g1,g2,fun w=> ?_⟩
   rw[jS,show[x'].toArray.map a.eval= #[zv] by simp[h2]]
   exact g3 _ w
 case mx b x y=>
  split at hc<;>first|(cases hc;done)|skip
  rename_i c
  obtain⟨callee,args,tas⟩:=c
  split at hc<;>first|(cases hc;done)|skip
  rename_i f x' y' e1 e2
  simp only at e1 e2
  obtain rfl:=rF e2
  subst e1
  obtain⟨hc,c3⟩:=aV hc
  obtain⟨c1,c2⟩:=aV hc
  rw[decide_eq_true_eq]at c3
  subst c3
  obtain⟨v,zv,h1,h2,h3⟩:=bU s c1 hk
  obtain⟨u,zu,h4,h5,h6⟩:=bU s c2 h3
  obtain⟨r,z,g1,g2,g3⟩:=aiJ (P:=P) (ta:=tas) (ty:=ty) h1 h4 h6
  refine⟨r,z,g1,g2,fun w=> ?_⟩
  rw[jS,show[x',y'].toArray.map a.eval= #[zv,zu] by simp[h2,h5]]
  exact g3 _ w
 case ext i x=>
  split at hc<;>first|(cases hc;done)|skip
  obtain⟨c1,c2⟩:=aV hc
  have c2:=ako c2
  subst c2
  obtain⟨v,zv,h1,h2,h3⟩:=bU s c1 hk
  obtain⟨r,z,g1,g2,g3⟩:=afC (P:=P) h1 h3
  exact⟨r,z,g1,g2,fun w=>by simp only[execOp,h2];exact co (g3 w)⟩
 case six x i=>
  split at hc<;>first|(cases hc;done)|skip
  obtain⟨hc,c3⟩:=aV hc
  obtain⟨c1,c2⟩:=aV hc
  obtain⟨v,zv,h1,h2,h3⟩:=bU s c1 hk
  obtain⟨u,zu,h4,h5,h6⟩:=bU s c2 h3
  obtain⟨r,z,g1,g2,g3⟩:=aey (P:=P) (HS c3) h1 h4 h6
  exact⟨r,z,g1,g2,fun w=>by simp only[execOp,h2,h5];exact co (g3 w)⟩
 case bld z ps xs=>
  split at hc<;>first|(cases hc;done)|skip
  rename_i t qs
  obtain⟨hc,c4⟩:=aV hc
  obtain⟨hc,c3⟩:=aV hc
  obtain⟨c1,c2⟩:=aV hc
  obtain⟨vs,h1,h2,h3⟩:=yL s c4 hk
  obtain⟨h4,h5⟩:=aq h2
  obtain⟨zs,z1,z2⟩:=wk (E:=E) (ρ:=ρ) c2
  obtain⟨u,x,g1,g2,g3⟩:=afQ hE z1 z2 c1 c3 h1 (by simpa using h3) (Lx hE h4 h1) h5
  exact⟨u,x,g1,g2,fun w=>by simp only[execOp,Qf];exact co (g3 w)⟩
 case mkf f xs=>
  split at hc<;>first|(cases hc;done)|skip
  rename_i f' fs caps
  obtain⟨hc,c3⟩:=aV hc
  obtain⟨c1,c2⟩:=aV hc
  have c1:=ako c1
  subst c1
  have c2:fs= #[]:=by simpa using c2
  subst c2
  obtain⟨vs,h1,h2,h3⟩:=yL s c3 hk
  refine⟨_,_,?_,h2,fun w=>by simp only[execOp];exact co rfl⟩
  have e:(List.map a.eval caps.toList).toArray=Array.map a.eval caps:=Array.ext' (by rw[Array.toList_map])
  simp only[den,h1,e,Array.map_empty]
end
section
variable {P:Program} {E:Env} {ρ:Ren} {G:GS} {F:List bo} {M:T} {nx:Nat} {w:World} {N:Nat} {S:SL} {a:Act}
theorem Zq (h:Sim E ρ G F M nx w) (s:SR E ρ N S a) {o:Oper} {x:XO} {K:AV→Bool} (hc:Es P x o.op=true) (hk:VN x S M K=true):∃v z,den E ρ v=some z∧K v=true∧(execOp a.eval o).run P w= .ok (.value z) w:=by
 obtain⟨dst,op,ty,pos,af,g⟩:=o
 cases x<;>simp only[Es]at hc<;>simp only[VN]at hk<;>first|(cases hk;done)|skip
 case ld agg n x=>
  split at hc<;>first|(cases hc;done)|skip
  obtain⟨hc,c3⟩:=aV hc
  obtain⟨c1,c2⟩:=aV hc
  rw[decide_eq_true_eq]at c2 c3
  obtain⟨v,zv,h1,h2,h3⟩:=bU s c1 hk
  obtain⟨u,z,g1,g2,g3⟩:=Rs (P:=P) h h1 h3 c2 c3
  exact⟨u,z,g1,g2,by simp only[execOp,h2];exact co g3⟩
 case mlen x=>
  split at hc<;>first|(cases hc;done)|skip
  rename_i c
  obtain⟨callee,args,tas⟩:=c
  split at hc<;>first|(cases hc;done)|skip
  rename_i x' t e1 e2 e3
  simp only at e1 e2 e3
  obtain rfl:=rF e2
  obtain rfl:=rF e3
  subst e1
  obtain⟨c1,c2⟩:=aV hc
  obtain⟨v,zv,h1,h2,h3⟩:=bU s c1 hk
  obtain⟨r,z,g1,g2,g3⟩:=abT (P:=P) (ty:=ty) h (qA c2) h1 h3
  refine⟨r,z,g1,g2,?_⟩
  rw[jS,show[x'].toArray.map a.eval= #[zv] by simp[h2]]
  exact g3 _
 case sls sz x lo hi mx=>
  split at hc<;>first|(cases hc;done)|skip
  obtain⟨hc,c6⟩:=aV hc
  obtain⟨hc,c5⟩:=aV hc
  obtain⟨hc,c4⟩:=aV hc
  obtain⟨hc,c3⟩:=aV hc
  obtain⟨c1,c2⟩:=aV hc
  rw[decide_eq_true_eq]at c6
  obtain⟨v,zv,h1,h2,h3⟩:=bU s c1 hk
  obtain⟨l,l1,l2⟩:=DW s c2 h3
  obtain⟨hh,l3,l4⟩:=DW s c3 l2
  obtain⟨m,l5,l6⟩:=DW s c4 l4
  obtain⟨u,z,g1,g2,g3⟩:=aew (P:=P) h (ny c5) c6 h1 l1 l3 l5 l6
  exact⟨u,z,g1,g2,by simp only[execOp,h2];exact co g3⟩
 case lk d et zv comma m k=>
  split at hc<;>first|(cases hc;done)|skip
  obtain⟨hc,c7⟩:=aV hc
  obtain⟨hc,c6⟩:=aV hc
  obtain⟨hc,c5⟩:=aV hc
  obtain⟨hc,c4⟩:=aV hc
  obtain⟨hc,c3⟩:=aV hc
  obtain⟨c1,c2⟩:=aV hc
  rw[decide_eq_true_eq]at c3
  subst c3
  obtain⟨v,z1,h1,h2,h3⟩:=bU s c1 hk
  obtain⟨u,z2,h4,h5,h6⟩:=bU s c2 h3
  obtain⟨zz,z3,z4⟩:=ado (E:=E) (ρ:=ρ) c7
  obtain⟨r,z,g1,g2,g3⟩:=aiT (P:=P) h (Nat.le_of_ble_eq_true c4) (qA c5) c6 z3 z4 h1 h4 h6
  exact⟨r,z,g1,g2,by simp only[execOp,h2,h5];exact co g3⟩
 case ent it=>
  split at hc<;>first|(cases hc;done)|skip
  obtain⟨v,zv,h1,h2,h3⟩:=bU s hc hk
  obtain⟨u,z,g1,g2,g3⟩:=afD (P:=P) h h1 h3
  exact⟨u,z,g1,g2,by simp only[execOp,h2];exact co g3⟩
def akj (P:Program) (E:Env) (ρ':Ren) (o:Oper) (a:Act) (w w':World) (v:AV):Prop:=
 (∃z,den E ρ' v=some z∧(execOp a.eval o).run P w= .ok (.value z) w')∨(v= .bad∧(execOp a.eval o).run P w= .ok .skip w')
theorem aiw (hE:fu E) (h:Sim E ρ G F M nx w) (s:SR E ρ N S a) {o:Oper} {x:XO} {K:AV→T→Nat→Bool} (hc:Es P x o.op=true) (hk:opE x S M nx K=true):
  ∃v M' nx' ρ' w',ρ.Le ρ'∧Sim E ρ' G F M' nx' w'∧K v M' nx'=true∧akj P E ρ' o a w w' v:=by
 obtain⟨dst,op,ty,pos,af,g⟩:=o
 cases x<;>simp only[Es]at hc<;>simp only[opE]at hk<;>first|(cases hk;done)|skip
 case st n x y=>
  split at hc<;>first|(cases hc;done)|skip
  obtain⟨hc,c3⟩:=aV hc
  obtain⟨c1,c2⟩:=aV hc
  rw[decide_eq_true_eq]at c3
  obtain⟨v,z1,h1,h2,h3⟩:=bU s c1 hk
  obtain⟨u,z2,h4,h5,h6⟩:=bU s c2 h3
  obtain⟨M',w',g1,g2,g3⟩:=ah7 (P:=P) hE h h1 h4 h6 c3
  exact⟨.bad,M',nx,ρ,w',Ren.Le.refl _,g1,g2,.inr ⟨rfl,by simp only[execOp,h2,h5];exact PT g3⟩⟩
 case al T z=>
  split at hc<;>first|(cases hc;done)|skip
  obtain⟨c1,c2⟩:=aV hc
  have c1:=ako c1
  subst c1
  obtain⟨zs,z1,z2⟩:=wk (E:=E) (ρ:=ρ) c2
  obtain⟨h1,h2⟩:=aq hk
  rw[akF,cF]at h1
  obtain⟨v,M',nx',ρ',w',z,g1,g2,g3,g4,g5⟩:=acF (P:=P) h z1 z2 (fun e=>by rw[e]at h1;simp at h1) h2
  exact⟨v,M',nx',ρ',w',g1,g2,g3,.inl ⟨z,g4,by simp only[execOp];exact co g5⟩⟩
 case box T x=>
  split at hc<;>first|(cases hc;done)|skip
  obtain⟨c1,c2⟩:=aV hc
  have c2:=ako c2
  subst c2
  obtain⟨u,zu,h1,h2,h3⟩:=bU s c1 hk
  obtain⟨v,M',nx',ρ',w',z,g1,g2,g3,g4,g5⟩:=afP (P:=P) hE h h1 h3
  exact⟨v,M',nx',ρ',w',g1,g2,g3,.inl ⟨z,g4,by simp only[execOp,h2];exact co g5⟩⟩
 case bsl Ty sz len z ps xs=>
  split at hc<;>first|(cases hc;done)|skip
  rename_i t n qs
  obtain⟨hc,c5⟩:=aV hc
  obtain⟨hc,c4⟩:=aV hc
  obtain⟨hc,c3⟩:=aV hc
  obtain⟨c1,c2⟩:=aV hc
  have c1:=ako c1
  subst c1
  obtain⟨vs,h1,h2,h3⟩:=yL s c5 hk
  obtain⟨h4,h5⟩:=aq h2
  obtain⟨zs,z1,z2⟩:=WQ (E:=E) (ρ:=ρ) c3
  obtain⟨v,M',nx',ρ',w',x,g1,g2,g3,g4,g5⟩:=afO (P:=P) hE h (ny c2) z1 z2 c4 h1 (by simpa using h3) (Lx hE h4 h1) h5
  exact⟨v,M',nx',ρ',w',g1,g2,g3,.inl ⟨x,g4,by simp only[execOp,Qf];exact co g5⟩⟩
 case mks Ty sz bytes z l c=>
  split at hc<;>first|(cases hc;done)|skip
  obtain⟨hc,c5⟩:=aV hc
  obtain⟨hc,c4⟩:=aV hc
  obtain⟨hc,c3⟩:=aV hc
  obtain⟨c1,c2⟩:=aV hc
  obtain⟨u,z1,h1,h2,h3⟩:=bU s c1 hk
  obtain⟨v,z2,h4,h5,h6⟩:=bU s c2 h3
  obtain⟨zs,y1,y2⟩:=wk (E:=E) (ρ:=ρ) c5
  obtain⟨v,M',nx',ρ',w',x,g1,g2,g3,g4,g5⟩:=aeS (P:=P) h (ny c3) c4 y1 y2 h1 h4 h6
  exact⟨v,M',nx',ρ',w',g1,g2,g3,.inl ⟨x,g4,by simp only[execOp,h2,h5];exact co g5⟩⟩
 case mkm=>
  split at hc<;>first|(cases hc;done)|skip
  obtain⟨v,M',nx',ρ',w',x,g1,g2,g3,g4,g5⟩:=aeU (P:=P) h hk (qA hc) (hint:=none) (fun v hv=>by cases hv)
  exact⟨v,M',nx',ρ',w',g1,g2,g3,.inl ⟨x,g4,by simp only[execOp,Option.map_none];exact co g5⟩⟩
 case mu d et m k v=>
  split at hc<;>first|(cases hc;done)|skip
  all_goals
   obtain⟨hc,c6⟩:=aV hc
   obtain⟨hc,c5⟩:=aV hc
   obtain⟨hc,c4⟩:=aV hc
   obtain⟨hc,c3⟩:=aV hc
   obtain⟨c1,c2⟩:=aV hc
   obtain⟨u,z1,h1,h2,h3⟩:=bU s c1 hk
   obtain⟨v,z2,h4,h5,h6⟩:=bU s c2 h3
   obtain⟨q,z3,h7,h8,h9⟩:=bU s c3 h6
   obtain⟨M',w',g1,g2,g3⟩:=aiL (P:=P) h (Nat.le_of_ble_eq_true c4) (qA c5) c6 h1 h4 h7 h9
   exact⟨.bad,M',nx,ρ,w',Ren.Le.refl _,g1,g2,.inr ⟨rfl,by simp only[execOp,h2,h5,h8];exact PT g3⟩⟩
 case rng m=>
  split at hc<;>first|(cases hc;done)|skip
  obtain⟨c1,c2⟩:=aV hc
  obtain⟨u,z1,h1,h2,h3⟩:=bU s c1 hk
  obtain⟨v,M',nx',ρ',w',x,g1,g2,g3,g4,g5⟩:=aeD (P:=P) h (qA c2) h1 h3
  exact⟨v,M',nx',ρ',w',g1,g2,g3,.inl ⟨x,g4,by simp only[execOp,h2];exact co g5⟩⟩
 case nxt it=>
  split at hc<;>first|(cases hc;done)|skip
  rename_i x' b
  obtain⟨c1,c2⟩:=aV hc
  have c2:b=false:=by simpa using c2
  subst c2
  obtain⟨u,z1,h1,h2,h3⟩:=bU s c1 hk
  obtain⟨v,M',w',z,g1,g2,g3,g4⟩:=aeI (P:=P) (ty:=ty) h h1 h3
  exact⟨v,M',nx,ρ,w',Ren.Le.refl _,g1,g2,.inl ⟨z,g3,by simp only[execOp,h2];exact co g4⟩⟩
 case clr Ty z x=>
  split at hc<;>first|(cases hc;done)|skip
  rename_i c
  obtain⟨callee,args,tas⟩:=c
  split at hc<;>first|(cases hc;done)|skip
  rename_i x' t e1 e2 e3
  simp only at e1 e2 e3
  obtain rfl:=rF e2
  obtain rfl:=rF e3
  subst e1
  obtain⟨hc,c4⟩:=aV hc
  obtain⟨hc,c3⟩:=aV hc
  obtain⟨c1,c2⟩:=aV hc
  rw[decide_eq_true_eq,←cF]at c4
  obtain⟨u,z1,h1,h2,h3⟩:=bU s c1 hk
  rcases jX h3 with⟨_,h3⟩|⟨i,o,n,cp,rfl,k3⟩
  ·cases h3
  obtain⟨h4,k4⟩:=aq k3
  obtain⟨h5,k5⟩:=aq k4
  have h4:=ako h4
  subst h4
  rw[akF]at h5
  obtain⟨zs,y1,y2⟩:=wk (E:=E) (ρ:=ρ) c3
  have hlz:zs.toList.length=dN z:=by rw[cF];exact cL y2
  have ey:(Value.agg zs).cells=zs:=rfl
  simp only[den]at h1
  split at h1
  case h_2=>cases h1
  rename_i e he
  cases h1
  obtain⟨M',w',g1,g2,_,g4⟩:=VD (P:=P) hE h (v:=.ptr i o) (x:=.agg z) (p:=.pointer (some ⟨e.b,o,none⟩)) (y:=.agg zs) (by simp only[den,he]) (by simp only[den,y2,Array.toArray_toList]) k5 c4
  have g4:=g4 _ rfl
  rw[ey]at g4
  obtain⟨zv,r1,r2⟩:=Hf (P:=P) y1 w
  have hz0:Builtin.zeroCells zs 1=zs:=by
   apply Array.ext
   ·simp[Builtin.zeroCells]
   ·intro j q1 q2
    have q3:j<zs.size:=q2
    simp[Builtin.zeroCells,Nat.mod_eq_of_lt q3,q3]
  refine⟨.tup [],M',nx,ρ,w',Ren.Le.refl _,g1,g2,.inl ⟨.tuple #[],by simp[den,aO],?_⟩⟩
  have hc0:(Builtin.clear_ #[t] ty #[.slice (some ⟨e.b,o,none⟩) 1 (dr e cp)]).run P w= .ok (.tuple #[]) w':=by
   simp only[Builtin.clear_,List.getElem?_toArray,List.getElem?_cons_zero]
   simp[run_underlying (ny c2),akv,r1,Result.andThen,r2,hz0,g4]
  simp only[execOp,resolve,List.map_toArray,List.map_cons,List.map_nil,h2]
  simp[invoke,builtin,hc0]
 case app Ty sz bytes x y=>
  split at hc<;>first|(cases hc;done)|skip
  rename_i c
  obtain⟨callee,args,tas⟩:=c
  split at hc<;>first|(cases hc;done)|skip
  rename_i x' y' t u e1 e2 e3
  simp only at e1 e2 e3
  obtain rfl:=rF e2
  obtain rfl:=rF e3
  subst e1
  obtain⟨hc,c5⟩:=aV hc
  obtain⟨hc,c4⟩:=aV hc
  obtain⟨hc,c3⟩:=aV hc
  obtain⟨c1,c2⟩:=aV hc
  have c3:=ako c3
  subst c3
  obtain⟨u,z1,h1,h2,h3⟩:=bU s c1 hk
  obtain⟨v,z2,h4,h5,h6⟩:=bU s c2 h3
  obtain⟨r,M',nx',ρ',w',x,g1,g2,g3,g4,g5⟩:=af0 (P:=P) (ty:=ty) hE h (ny c4) c5 h1 h4 h6
  refine⟨r,M',nx',ρ',w',g1,g2,g3,.inl ⟨x,g4,?_⟩⟩
  rw[jS,show[x',y'].toArray.map a.eval= #[z1,z2] by simp[h2,h5]]
  simp only[builtin]
  exact co g5
 case del d et m k=>
  split at hc<;>first|(cases hc;done)|skip
  rename_i c
  obtain⟨callee,args,tas⟩:=c
  split at hc<;>first|(cases hc;done)|skip
  rename_i x' y' t t2 e1 e2 e3
  simp only at e1 e2 e3
  obtain rfl:=rF e2
  obtain rfl:=rF e3
  subst e1
  obtain⟨hc,c5⟩:=aV hc
  obtain⟨hc,c4⟩:=aV hc
  obtain⟨hc,c3⟩:=aV hc
  obtain⟨c1,c2⟩:=aV hc
  obtain⟨u,z1,h1,h2,h3⟩:=bU s c1 hk
  obtain⟨v,z2,h4,h5,h6⟩:=bU s c2 h3
  obtain⟨M',w',g1,g2,g3⟩:=afF (P:=P) (t2:=t2) (ty:=ty) h (Nat.le_of_ble_eq_true c3) (qA c4) c5 h1 h4 h6
  refine⟨.tup [],M',nx,ρ,w',Ren.Le.refl _,g1,g2,.inl ⟨.tuple #[],by simp[den,aO],?_⟩⟩
  rw[jS,show[x',y'].toArray.map a.eval= #[z1,z2] by simp[h2,h5]]
  simp only[builtin]
  exact co g3
end
noncomputable def GZ (v:AV):Nat:=AV.casesOn v 0 (fun _ _=>0) (fun _=>0) (fun _=>0) (fun _ _=>0) (fun _ _ _ _=>0) (fun _=>0) 1 2 3 4 5 (fun _ _=>0) (fun _ _=>0) (fun _=>0) (fun _=>0) (fun _=>0) (fun _=>0) (fun _=>0)
noncomputable def eqC (c d:ACap):Bool:=ACap.casesOn c (fun n=>ACap.casesOn d (fun m=>Nat.beq n m) (fun _=>false)) (fun n=>ACap.casesOn d (fun _=>false) (fun m=>Nat.beq n m))
noncomputable def akh (s:SY) (v:AV):Bool:=mE v fun s'=>aF (s=s')
noncomputable def sZ (u v:AV):Bool:=AV.casesOn u false (fun k a=>jc v fun k2 b=>Bool.and (Nat.beq k k2) (vx a b)) (fun a=>WI v fun b=>Bool.rec (Bool.not b) b a) (fun l=>py v fun m=>OL l m) (fun i o=>pA v fun j p=>Bool.and (Nat.beq i j) (Nat.beq o p))
 (fun i o n c=>vF v false fun j p m d=>Bool.and (Nat.beq i j) (Bool.and (Nat.beq o p) (Bool.and (Nat.beq n m) (eqC c d)))) (fun i=>wK v false fun j=>Nat.beq i j) (Nat.beq (GZ v) 1) (Nat.beq (GZ v) 2) (Nat.beq (GZ v) 3) (Nat.beq (GZ v) 4) (Nat.beq (GZ v) 5) (fun _ _=>false) (fun _ _=>false) (fun _=>false) (fun _=>false) (fun _=>false) (fun _=>false) (fun s=>akh s v)
noncomputable def eqS (l m:List AV):Bool:=List.rec (motive:=fun _=>List AV→Bool) (fun m=>List.casesOn m true (fun _ _=>false)) (fun x _ ih m=>List.casesOn m false (fun y r=>Bool.and (sZ x y) (ih r))) l m
noncomputable def Yu (v:AV) (K:Nat→List AV→Bool):Bool:=AV.casesOn v false (fun _ _=>false) (fun _=>false) (fun _=>false) (fun _ _=>false) (fun _ _ _ _=>false) (fun _=>false) false false false false false (fun _ _=>false) (fun g c=>K g c) (fun _=>false) (fun _=>false) (fun _=>false) (fun _=>false) (fun _=>false)
theorem TK {v:AV} {K:Nat→List AV→Bool} (h:Yu v K=true):∃g c,v= .fn g c∧K g c=true:=by
 cases v<;>first|(cases h;done)|exact⟨_,_,rfl,h⟩
noncomputable def eqA (u v:AV):Bool:=AV.casesOn u false (fun _ _=>sZ u v) (fun _=>sZ u v) (fun _=>sZ u v) (fun _ _=>sZ u v) (fun _ _ _ _=>sZ u v) (fun _=>sZ u v) (sZ u v) (sZ u v) (sZ u v) (sZ u v) (sZ u v) (fun _ _=>false) (fun f c=>Yu v fun g d=>Bool.and (Nat.beq f g) (eqS c d)) (fun _=>false) (fun l=>asAgg v fun m=>eqS l m) (fun _=>false) (fun _=>false) (fun _=>sZ u v)
theorem ajh {c d:ACap} (h:eqC c d=true):c=d:=by
 cases c<;>cases d<;>first|(cases h;done)|(have:=ako h;subst this;rfl)
theorem ah6 {v:AV} {n:Nat} (h:Nat.beq (GZ v) n=true):GZ v=n:=ako h
theorem aao {u v:AV} (h:sZ u v=true):u=v:=by
 cases u<;>first|(cases h;done)|skip
 case int k a=>
  obtain⟨k2,b,rfl,h1⟩:=iR h
  obtain⟨h2,h3⟩:=vE h1
  rw[vw,decide_eq_true_eq]at h3
  rw[ako h2,h3]
 case bool a=>
  obtain⟨b,rfl,h1⟩:=Ld h
  cases a<;>cases b<;>first|rfl|cases h1
 case str l=>
  obtain⟨m,rfl,h1⟩:=io h
  rw[yM,decide_eq_true_eq]at h1
  rw[h1]
 case ptr i o=>
  obtain⟨j,p,rfl,h1⟩:=iq h
  obtain⟨h2,h3⟩:=vE h1
  rw[ako h2,ako h3]
 case sl i o n c=>
  rcases jX h with⟨_,h1⟩|⟨j,p,m,d,rfl,h1⟩
  ·cases h1
  ·obtain⟨h2,h3⟩:=vE h1
   obtain⟨h4,h5⟩:=vE h3
   obtain⟨h6,h7⟩:=vE h5
   rw[ako h2,ako h4,ako h6,ajh h7]
 case map i=>
  rcases nC h with⟨_,h1⟩|⟨j,rfl,h1⟩
  ·cases h1
  ·rw[ako h1]
 case sy s=>
  obtain⟨s',rfl,h1⟩:=eV (K:=fun s'=>aF (s=s')) h
  rw[prB_true.1 h1]
 all_goals
  have:=ah6 h
  cases v<;>first|rfl|cases this
theorem SW:∀{l m:List AV},eqS l m=true→l=m
 |[],[],_=>rfl
 |[],_::_,h=>by cases h
 |_::_,[],h=>by cases h
 |x::l,y::m,h=>by
  obtain⟨h1,h2⟩:=vE (a:=sZ x y) (b:=eqS l m) h
  rw[aao h1,SW h2]
theorem ajj {u v:AV} (h:eqA u v=true):u=v:=by
 cases u<;>first|(cases h;done)|exact aao (show sZ _ v=true from h)|skip
 case agg l=>
  obtain⟨m,rfl,h1⟩:=eK h
  rw[SW h1]
 case fn f c=>
  obtain⟨g,d,rfl,h1⟩:=TK h
  obtain⟨h2,h3⟩:=vE h1
  rw[ako h2,SW h3]
abbrev iB:=Nat→List AV→T→Nat→(AV→T→Nat→Bool)→Bool
inductive XSt
 |p (i:Nat) (d:Option Nat) (g:Option (Nat×Bool)) (x:XO)|r (i:Nat) (d:Option Nat) (g:Option (Nat×Bool)) (x:XO)|e (i:Nat) (d:Option Nat) (g:Option (Nat×Bool)) (x:XO)
 |c (i:Nat) (d:Option Nat) (g:Option (Nat×Bool)) (f:Nat) (xs:List XP)|a (i d:Nat) (g:Option (Nat×Bool)) (x:XO)|k (i:Nat) (d:Option Nat) (g:Option (Nat×Bool)) (t:Nat) (fs:List Nat) (xs:List XP)
noncomputable def ic (d:Option Nat) (v:AV) (S:SL) (K:SL→Bool):Bool:=Option.casesOn d (K S) fun d=>K (.cons d v S)
theorem jR (d:Option Nat) (v:AV) (S:SL) (K:SL→Bool):ic d v S K=K (air d v S):=by cases d<;>rfl
noncomputable def LC (t:Nat) (S:SL) (K:Bool→SL→Bool):Bool:=AV.casesOn (bH t S) false (fun _ _=>false) (fun b=>K b S) (fun _=>false) (fun _ _=>false) (fun _ _ _ _=>false) (fun _=>false) false false false false false (fun _ _=>false) (fun _ _=>false) (fun _=>false) (fun _=>false) (fun _=>false) (fun _=>false)
 fun s=>SY.casesOn s (fun _ _=>false) (fun p=>br (aF p) (K true (.cons t (.bool true) S)) (K false (.cons t (.bool false) S))) (fun _=>false) (fun _ _ _ _ _=>false) (fun _ _ _=>false) (fun _ _=>false) (fun _ _ _ _ _ _=>false) (fun _ _ _ _=>false) (fun _ _ _=>false) (fun _=>false)
noncomputable def gd (w b:Bool):Bool:=Bool.rec (Bool.not w) w b
noncomputable def ZG (v:AV):Bool:=AV.casesOn v false (fun _ _=>false) (fun _=>false) (fun _=>false) (fun _ _=>false) (fun _ _ _ _=>false) (fun _=>false) false false false false false (fun _ _=>false) (fun _ _=>false) (fun _=>false) (fun _=>false) (fun l=>List.casesOn l true fun _ _=>false) (fun _=>false) (fun _=>false)
theorem ZF {v:AV} (h:ZG v=true):v= .tup []:=by
 cases v<;>first|(cases h;done)|skip
 case tup l=>cases l<;>first|rfl|(cases h)
theorem ln (E:Env) (ρ:Ren):den E ρ (.tup [])=some undef:=by simp[den,aO,undef]
noncomputable def vj (g:Option (Nat×Bool)) (S:SL) (Kn Ky:SL→Bool):Bool:=Option.casesOn g (Ky S) fun p=>br (ZG (bH p.1 S)) (Kn S) (LC p.1 S fun b S=>br (gd p.2 b) (Ky S) (Kn S))
noncomputable def TN (l m:List AV):List AV:=List.rec m (fun x _ ih=>x::ih) l
theorem WJ:∀(l m:List AV),TN l m=l++m
 |[],_=>rfl
 |x::l,m=>congrArg (x:: ·) (WJ l m)
noncomputable def abV (n:Nat) (l:List Nat):Bool:=List.rec false (fun m _ ih=>Bool.rec ih true (Nat.beq n m)) l
theorem VX:∀{n:Nat} {l:List Nat},abV n l=true→n∈l
 |n,[],h=>by cases h
 |n,m::l,h=>by
  have h:(Bool.rec (abV n l) true (Nat.beq n m):Bool)=true:=h
  cases e:Nat.beq n m with
  |true=>rw[ako e];simp
  |false=>rw[e]at h;exact List.mem_cons_of_mem _ (VX h)
noncomputable def fnK (fs:List Nat) (v:AV) (K:Nat→List AV→Bool):Bool:=Yu v fun g c=>ac (abV g fs) (K g c)
theorem aja {fs:List Nat} {v:AV} {K:Nat→List AV→Bool} (h:fnK fs v K=true):∃f c,f∈fs∧v= .fn f c∧K f c=true:=by
 obtain⟨g,c,h1,h2⟩:=TK h
 obtain⟨h3,h4⟩:=aq h2
 exact⟨g,c,VX h3,h1,h4⟩
theorem aar {E:Env} {ρ:Ren} {l m:List AV} {xs ys:List Value} (h1:aO E ρ l=some xs) (h2:aO E ρ m=some ys):aO E ρ (TN l m)=some (xs++ys):=by
 rw[WJ];exact eu h1 h2
noncomputable def ac4 (cf:iB) (st:XSt) (S:SL) (M:T) (nx:Nat) (K:SL→T→Nat→Bool):Bool:=XSt.casesOn st
 (fun _ d g x=>vj g S (fun S=>ic d (.tup []) S fun S=>K S M nx) fun S=>opP x S fun v=>ic d v S fun S=>K S M nx)
 (fun _ d g x=>vj g S (fun S=>ic d (.tup []) S fun S=>K S M nx) fun S=>VN x S M fun v=>ic d v S fun S=>K S M nx)
 (fun _ d g x=>vj g S (fun S=>ic d (.tup []) S fun S=>K S M nx) fun S=>opE x S M nx fun v M nx=>ic d v S fun S=>K S M nx)
 (fun _ d g f xs=>vj g S (fun S=>ic d (.tup []) S fun S=>K S M nx) fun S=>KV S xs fun vs=>cf f vs M nx fun v M nx=>ic d v S fun S=>K S M nx)
 (fun _ d g x=>vj g S (fun S=>ac (ZG (bH d S)) (K S M nx)) fun S=>VN x S M fun v=>ac (eqA v (bH d S)) (K S M nx))
 (fun _ d g t fs xs=>vj g S (fun S=>ic d (.tup []) S fun S=>K S M nx) fun S=>fnK fs (bH t S) fun f c=>KV S xs fun vs=>cf f (TN vs c) M nx fun v M nx=>ic d v S fun S=>K S M nx)
noncomputable def ku (cf:iB) (sts:List XSt):SL→T→Nat→(SL→T→Nat→Bool)→Bool:=List.rec (fun S M nx K=>K S M nx) (fun st _ ih S M nx K=>ac4 cf st S M nx fun S M nx=>ih S M nx K) sts
def AG:XSt→Nat×Kd
 |.p i ..=>(i,.P)|.r i ..=>(i,.R)|.e i ..=>(i,.E)|.c i ..=>(i,.E)|.a i ..=>(i,.A)|.k i ..=>(i,.E)
def Mq (ops:Array Oper) (N:Nat) (g:Option (Nat×Bool)) (o:Oper):Bool:=match g,o.guard with
 |none,none=>true
 |some (t,b),some (k,c)=>decide (b=c)&&decide ((ops[k]?).bind (·.dst)=some t)&&Nat.blt t N
 |_,_=>false
def Mr (N:Nat) (d:Option Nat) (o:Oper):Bool:=decide (o.dst=d)&&(match d with|some t=>Nat.blt t N|none=>true)
def Rx (P:Program) (f:Nat) (xs:List XP):Op→Bool
 |.call {callee:=.value (.func f'),args:=args,argTypes:=_}=>Nat.beq f' f&&rp xs args.toList&&decide (NP P f=some (false,false))
 |_=>false
def LV (P:Program) (t:Nat) (fs:List Nat) (xs:List XP):Op→Bool
 |.call {callee:=.value (.tmp t'),args:=args,argTypes:=_}=>Nat.beq t' t&&rp xs args.toList&&fs.all fun f=>decide (NP P f=some (false,false))
 |_=>false
theorem XN {P:Program} {t:Nat} {fs:List Nat} {xs:List XP} {op:Op} (h:LV P t fs xs op=true):∃args ta,op= .call {callee:=.value (.tmp t),args:=args,argTypes:=ta}∧rp xs args.toList=true∧∀f∈fs,NP P f=some (false,false):=by
 unfold LV at h
 split at h
 ·rename_i f' args ta
  simp only[akB,List.all_eq_true,decide_eq_true_eq]at h
  obtain⟨⟨h1,h2⟩,h3⟩:=h
  have h1:=ako h1
  subst h1
  exact⟨args,ta,rfl,h2,h3⟩
 ·cases h
theorem ZH {P:Program} {f:Nat} {xs:List XP} {op:Op} (h:Rx P f xs op=true):∃args ta,op= .call {callee:=.value (.func f),args:=args,argTypes:=ta}∧rp xs args.toList=true∧NP P f=some (false,false):=by
 unfold Rx at h
 split at h
 ·rename_i f' args ta
  simp only[akB,decide_eq_true_eq]at h
  obtain⟨⟨h1,h2⟩,h3⟩:=h
  have h1:=ako h1
  subst h1
  exact⟨args,ta,rfl,h2,h3⟩
 ·cases h
def tp (P:Program) (ops:Array Oper) (N:Nat):XSt→Bool
 |.p i d g x|.r i d g x|.e i d g x=>match ops[i]? with|some o=>Mr N d o&&Mq ops N g o&&Es P x o.op|none=>false
 |.c i d g f xs=>match ops[i]? with
  |some o=>Mr N d o&&Mq ops N g o&&Rx P f xs o.op
  |none=>false
 |.a i d g x=>match ops[i]? with|some o=>Mr N (some d) o&&Mq ops N g o&&Es P x o.op|none=>false
 |.k i d g t fs xs=>match ops[i]? with
  |some o=>Mr N d o&&Mq ops N g o&&LV P t fs xs o.op
  |none=>false
section
variable {P:Program} {E:Env} {ρ:Ren} {G:GS} {F:List bo} {M:T} {nx:Nat} {w:World} {N:Nat} {S:SL} {a:Act} {ops:Array Oper} {o:Oper}
theorem VH (s:SR E ρ N S a) {t:Nat} {K:Bool→SL→Bool} (h:LC t S K=true):∃b S',a.tmps.getD t undef= .bool b∧SR E ρ N S' a∧K b S'=true:=by
 have put:∀b,a.tmps.getD t undef= .bool b→SR E ρ N (.cons t (.bool b) S) a:=fun b hb=>⟨s.size,s.defs,fun u=>by
  by_cases q:t=u
  ·subst q
   rw[fL]
   exact .inr ⟨.bool b,rfl,hb⟩
  ·rw[jV _ _ q]
   exact s.at_ u⟩
 unfold LC at h
 rcases e:bH t S with _|⟨k,z⟩|⟨b⟩|⟨l⟩|⟨i,o⟩|⟨i,o,n,c⟩|⟨i⟩|_|_|_|_|_|⟨tt,v⟩|⟨f,c⟩|⟨i⟩|⟨l⟩|⟨l⟩|⟨i⟩|⟨sy⟩<;>rw[e]at h<;>first|(cases h;done)|skip
 ·rcases s.at_ t with q|⟨x,h1,h2⟩
  ·rw[e]at q;cases q
  ·rw[e]at h1
   cases h1
   exact⟨b,S,h2,s,h⟩
 ·cases sy<;>first|(cases h;done)|skip
  rename_i p
  rcases s.at_ t with q|⟨x,h1,h2⟩
  ·rw[e]at q;cases q
  ·rw[e]at h1
   cases h1
   rcases bk h with⟨q,g⟩|⟨q,g⟩
   ·rw[q]at h2
    exact⟨true,_,h2,put true h2,g⟩
   ·rw[q]at h2
    exact⟨false,_,h2,put false h2,g⟩
theorem qB (s:SR E ρ N S a) {g:Option (Nat×Bool)} {Kn Ky:SL→Bool} (hc:Mq ops N g o=true) (h:vj g S Kn Ky=true):
  ∃S',SR E ρ N S' a∧((Region.wanted o (yielded ops a.tmps)=true∧Ky S'=true)∨(Region.wanted o (yielded ops a.tmps)=false∧Kn S'=true)):=by
 unfold Mq at hc
 split at hc
 ·rename_i h1
  exact⟨S,s,.inl ⟨by simp[Region.wanted,h1],h⟩⟩
 ·rename_i t b k c h1
  simp only[akB,decide_eq_true_eq,akF]at hc
  obtain⟨⟨rfl,h2⟩,h3⟩:=hc
  have h:br (ZG (bH t S)) (Kn S) (LC t S fun b' S=>br (gd b b') (Ky S) (Kn S))=true:=h
  rcases bk h with⟨hu,h⟩|⟨_,h⟩
  ·have hu:=ZF hu
   have hlt:t<a.tmps.size:=by rw[s.size];exact h3
   rcases s.at_ t with q|⟨x,q1,q2⟩
   ·rw[hu]at q;cases q
   ·rw[hu,ln]at q1
    cases q1
    have e:a.tmps[t]?=some undef:=by
     rw[Array.getElem?_eq_getElem hlt]
     simp only[Array.getD,hlt,dif_pos,Array.getInternal_eq_getElem]at q2
     rw[q2]
    have hy:yielded ops a.tmps k=none:=by simp[yielded,h2,e,undef]
    have hw:Region.wanted o (yielded ops a.tmps)=false:=by simp[Region.wanted,h1,hy]
    refine⟨S,s,?_⟩
    rw[hw]
    exact .inr ⟨rfl,h⟩
  obtain⟨v,S',h7,s',h5⟩:=VH (t:=t) (K:=fun b' S=>br (gd b b') (Ky S) (Kn S)) s h
  have hlt:t<a.tmps.size:=by rw[s.size];exact h3
  have e:a.tmps[t]?=some (.bool v):=by
   rw[Array.getElem?_eq_getElem hlt]
   simp only[Array.getD,hlt,dif_pos,Array.getInternal_eq_getElem]at h7
   rw[h7]
  have hy:yielded ops a.tmps k=some v:=by simp[yielded,h2,e]
  have hw:Region.wanted o (yielded ops a.tmps)=(v==b):=by simp[Region.wanted,h1,hy]
  have hvb:(v==b)=gd b v:=by cases v<;>cases b<;>rfl
  refine⟨S',s',?_⟩
  rw[hw,hvb]
  rcases bk h5 with⟨q,g⟩|⟨q,g⟩
  ·exact .inl ⟨q,g⟩
  ·exact .inr ⟨q,g⟩
 ·cases hc
theorem YD {i:Nat} {z:Value} (hi:ops[i]?=some o) (hw:Region.wanted o (yielded ops a.tmps)=true) (hr:(execOp a.eval o).run P w= .ok (.value z) w):RV P ops i z a w:=by
 unfold RV op1 wpOp
 simp only[hi,hw,if_true]
 exact .inl (ac8 hr ⟨by rw[cz hi],rfl⟩)
theorem YC {i:Nat} (hi:ops[i]?=some o) (hw:Region.wanted o (yielded ops a.tmps)=false):RV P ops i undef a w:=by
 unfold RV op1 wpOp
 simp only[hi,hw]
 constructor
 ·rw[cz hi]
 ·trivial
theorem Qo {i:Nat} {K:Act→World→Prop} (hi:ops[i]?=some o) (hw:Region.wanted o (yielded ops a.tmps)=false) (k:K (a.put o.dst undef) w):op1 P ops i K a w:=by
 unfold op1 wpOp
 simp only[hi,hw]
 exact k
theorem LM {i:Nat} {K:Act→World→Prop} (hi:ops[i]?=some o) (hw:Region.wanted o (yielded ops a.tmps)=true) (k:o.wp P a w K Q0):op1 P ops i K a w:=by
 unfold op1 wpOp
 simp only[hi,hw,if_true]
 exact .inl k
theorem tH {d:Option Nat} (h:Mr N d o=true):o.dst=d∧∀t,d=some t→t<N:=by
 unfold Mr at h
 simp only[akB,decide_eq_true_eq]at h
 refine⟨h.1,fun t ht=> ?_⟩
 subst ht
 simpa[akF] using h.2
theorem acv {dst:Option Tmp} {ty:TypeId} {pos:String} {af:Array Edge} {g:Option (Nat×Bool)} {f:Nat} {args:Array Operand} {ta:Array TypeId} (hf:NP P f=some (false,false)):
  (execOp a.eval ⟨dst,.call {callee:=.value (.func f),args:=args,argTypes:=ta},ty,pos,af,g⟩).run P w= .ok (.enter f (args.toList.map a.eval).toArray) w:=by
 simp[execOp,resolve,Act.eval,Deferred.ofValue,invoke]
 rw[BO hf]
 congr 2
 apply Array.ext'
 simp
theorem aat {dst:Option Tmp} {ty:TypeId} {pos:String} {af:Array Edge} {g:Option (Nat×Bool)} {t f:Nat} {args:Array Operand} {ta:Array TypeId} {cs:List Value} (hf:NP P f=some (false,false)) (hv:a.tmps.getD t undef= .func (.func f) #[] cs.toArray):
  (execOp a.eval ⟨dst,.call {callee:=.value (.tmp t),args:=args,argTypes:=ta},ty,pos,af,g⟩).run P w= .ok (.enter f (args.toList.map a.eval++cs).toArray) w:=by
 have hv2:a.eval (.tmp t)= .func (.func f) #[] cs.toArray:=hv
 simp only[execOp,resolve,hv2]
 simp[Deferred.ofValue,invoke]
 rw[BO hf]
 congr 2
 apply Array.ext'
 simp
structure Ext (E:Env) (ρ:Ren) (E':Env) (ρ':Ren):Prop where
 env:GT ρ E E'
 le:ρ.Le ρ'
 one:fu E'
theorem Ext.of (hE:fu E) {ρ ρ':Ren} (h:ρ.Le ρ'):Ext E ρ E ρ':=⟨⟨fun _ _ _=>rfl,MLe.refl _⟩,h,hE⟩
theorem Ext.trans {E1 E2 E3:Env} {r1 r2 r3:Ren} (h:Ext E1 r1 E2 r2) (k:Ext E2 r2 E3 r3):Ext E1 r1 E3 r3:=
 ⟨⟨fun i e hi=>(k.env.at_ i e (h.le i e hi)).trans (h.env.at_ i e hi),MLe.trans h.env.mem k.env.mem⟩,h.le.trans k.le,k.one⟩
theorem Ext.den {E':Env} {ρ':Ren} (x:Ext E ρ E' ρ') {v:AV} {z:Value} (h:den E ρ v=some z):den E' ρ' v=some z:=gA x.le v z (ox x.env v z h)
theorem SR.ext {E':Env} {ρ':Ren} (s:SR E ρ N S a) (x:Ext E ρ E' ρ'):SR E' ρ' N S a:=⟨s.size,s.defs,fun t=>(s.at_ t).imp id fun⟨y,h1,h2⟩=>⟨y,x.den h1,h2⟩⟩
def jF (P:Program) (cf:iB):Prop:=∀(f:Nat) (vs:List AV) (M:T) (nx:Nat) (K:AV→T→Nat→Bool) (E:Env) (ρ:Ren) (G:GS) (F:List bo) (w:World) (xs:List Value) (R:Ending→World→Prop),fu E→
 Sim E ρ G F M nx w→aO E ρ vs=some xs→cf f vs M nx K=true→(∀v M' nx' E' ρ' w' z,K v M' nx'=true→Ext E ρ E' ρ'→Sim E' ρ' G F M' nx' w'→den E' ρ' v=some z→R (.returned z) w')→Calls P f xs.toArray w R
theorem LB {cf:iB} (hcf:jF P cf) {Q:Act→World→Prop}:∀{sts:List XSt} {S:SL} {M:T} {nx:Nat} {E:Env} {ρ:Ren} {a:Act} {w:World} {K:SL→T→Nat→Bool},fu E→(∀st∈sts,tp P ops N st=true)→SR E ρ N S a→Sim E ρ G F M nx w→ku cf sts S M nx K=true→
  (∀S' M' nx' E' ρ' a' w',K S' M' nx'=true→Ext E ρ E' ρ'→SR E' ρ' N S' a'→Sim E' ρ' G F M' nx' w'→Q a' w')→qb P ops Q (sts.map AG) a w
 |[],S,M,nx,E,ρ,a,w,K,hE,_,s,h,hk,hq=>hq _ _ _ _ _ _ _ hk (Ext.of hE (Ren.Le.refl _)) s h
 |st::sts,S,M,nx,E,ρ,a,w,K,hE,hc,s,h,hk,hq=>by
  have hst:=hc st (by simp)
  have hk':ac4 cf st S M nx (fun S M nx=>ku cf sts S M nx K)=true:=hk
  have nextE:∀{S' M' nx' E' ρ' a' w'},ku cf sts S' M' nx' K=true→Ext E ρ E' ρ'→SR E' ρ' N S' a'→Sim E' ρ' G F M' nx' w'→qb P ops Q (sts.map AG) a' w':=fun r hl s' h'=>
   LB hcf hl.one (fun st hst=>hc st (by simp[hst])) s' h' r fun S' M' nx' E2 ρ' a' w' k1 k2=>hq S' M' nx' E2 ρ' a' w' k1 (hl.trans k2)
  have next:∀{S' M' nx' ρ' a' w'},ku cf sts S' M' nx' K=true→ρ.Le ρ'→SR E ρ' N S' a'→Sim E ρ' G F M' nx' w'→qb P ops Q (sts.map AG) a' w':=fun r hl s' h'=>nextE r (Ext.of hE hl) s' h'
  cases st with
  |p i d g x=>
   simp only[tp]at hst
   split at hst
   case h_2=>cases hst
   rename_i o hi
   simp only[akB]at hst
   obtain⟨⟨c1,c2⟩,c3⟩:=hst
   obtain⟨d1,d2⟩:=tH c1
   obtain⟨S,s,hgd⟩:=qB (Kn:=fun S=>ic d (.tup []) S fun S=>ku cf sts S M nx K) (Ky:=fun S=>opP x S fun v=>ic d v S fun S=>ku cf sts S M nx K) s c2 hk'
   rcases hgd with⟨q1,q2⟩|⟨q1,q2⟩
   ·obtain⟨v,z,g1,g2,g3⟩:=aiv hE s c3 q2
    rw[jR]at g2
    refine⟨z,fun w'=>YD hi q1 (g3 w'),?_⟩
    rw[cz hi,d1]
    exact next g2 (Ren.Le.refl _) (s.put d2 (.inr g1)) h
   ·rw[jR]at q2
    refine⟨undef,fun w'=>YC hi q1,?_⟩
    rw[cz hi,d1]
    exact next q2 (Ren.Le.refl _) (s.put d2 (.inr (ln _ _))) h
  |r i d g x=>
   simp only[tp]at hst
   split at hst
   case h_2=>cases hst
   rename_i o hi
   simp only[akB]at hst
   obtain⟨⟨c1,c2⟩,c3⟩:=hst
   obtain⟨d1,d2⟩:=tH c1
   obtain⟨S,s,hgd⟩:=qB (Kn:=fun S=>ic d (.tup []) S fun S=>ku cf sts S M nx K) (Ky:=fun S=>VN x S M fun v=>ic d v S fun S=>ku cf sts S M nx K) s c2 hk'
   rcases hgd with⟨q1,q2⟩|⟨q1,q2⟩
   ·obtain⟨v,z,g1,g2,g3⟩:=Zq h s c3 q2
    rw[jR]at g2
    refine⟨z,YD hi q1 g3,?_⟩
    rw[cz hi,d1]
    exact next g2 (Ren.Le.refl _) (s.put d2 (.inr g1)) h
   ·rw[jR]at q2
    refine⟨undef,YC hi q1,?_⟩
    rw[cz hi,d1]
    exact next q2 (Ren.Le.refl _) (s.put d2 (.inr (ln _ _))) h
  |e i d g x=>
   simp only[tp]at hst
   split at hst
   case h_2=>cases hst
   rename_i o hi
   simp only[akB]at hst
   obtain⟨⟨c1,c2⟩,c3⟩:=hst
   obtain⟨d1,d2⟩:=tH c1
   obtain⟨S,s,hgd⟩:=qB (Kn:=fun S=>ic d (.tup []) S fun S=>ku cf sts S M nx K) (Ky:=fun S=>opE x S M nx fun v M nx=>ic d v S fun S=>ku cf sts S M nx K) s c2 hk'
   rcases hgd with⟨q1,q2⟩|⟨q1,q2⟩
   ·obtain⟨v,M',nx',ρ',w',g1,g2,g3,g4⟩:=aiw hE h s c3 q2
    rw[jR]at g3
    refine LM hi q1 ?_
    rcases g4 with⟨z,g5,g6⟩|⟨g5,g6⟩
    ·refine ac8 g6 ?_
     rw[d1]
     exact next g3 g1 ((s.mono g1).put d2 (.inr g5)) g2
    ·refine aiB g6 ?_
     rw[d1]
     exact next g3 g1 ((s.mono g1).put d2 (.inl g5)) g2
   ·rw[jR]at q2
    refine Qo hi q1 ?_
    rw[d1]
    exact next q2 (Ren.Le.refl _) (s.put d2 (.inr (ln _ _))) h
  |k i d g t fs xs=>
   simp only[tp]at hst
   split at hst
   case h_2=>cases hst
   rename_i o hi
   simp only[akB]at hst
   obtain⟨⟨c1,c2⟩,c3⟩:=hst
   obtain⟨d1,d2⟩:=tH c1
   obtain⟨dst,op,ty,pos,af,gg⟩:=o
   obtain⟨args,ta,hop,c5,c6⟩:=XN c3
   dsimp only at hop
   subst hop
   obtain⟨S,s,hgd⟩:=qB (Kn:=fun S=>ic d (.tup []) S fun S=>ku cf sts S M nx K) (Ky:=fun S=>fnK fs (bH t S) fun f c=>KV S xs fun vs=>cf f (TN vs c) M nx fun v M nx=>ic d v S fun S=>ku cf sts S M nx K) s c2 hk'
   rcases hgd with⟨q1,q2⟩|⟨q1,q2⟩
   ·obtain⟨f,c,hf,hu,q2⟩:=aja q2
    obtain⟨cs,hv,hcs⟩:∃cs,a.tmps.getD t undef= .func (.func f) #[] cs.toArray∧aO E ρ c=some cs:=by
     rcases s.at_ t with q|⟨x,y1,y2⟩
     ·rw[hu]at q;cases q
     ·rw[hu]at y1
      simp only[den]at y1
      rcases e:aO E ρ c with _|cs
      ·rw[e]at y1;cases y1
      ·rw[e]at y1
       simp only[akC]at y1
       exact⟨cs,by rw[y2,←y1],rfl⟩
    obtain⟨vs,g1,g2,g3⟩:=yL s c5 q2
    refine LM hi q1 (VO (aat (c6 f hf) hv) ?_)
    refine hcf _ (TN vs c) M nx _ E ρ G F w _ _ hE h (aar g1 hcs) g2 fun v M' nx' E' ρ' w' z k1 k2 k3 k4=>⟨z,rfl,?_⟩
    rw[jR]at k1
    simp only at d1
    rw[d1]
    exact nextE k1 k2 ((s.ext k2).put d2 (.inr k4)) k3
   ·rw[jR]at q2
    refine Qo hi q1 ?_
    simp only at d1
    rw[d1]
    exact next q2 (Ren.Le.refl _) (s.put d2 (.inr (ln _ _))) h
  |c i d g f xs=>
   simp only[tp]at hst
   split at hst
   case h_2=>cases hst
   rename_i o hi
   simp only[akB]at hst
   obtain⟨⟨c1,c2⟩,c3⟩:=hst
   obtain⟨d1,d2⟩:=tH c1
   obtain⟨dst,op,ty,pos,af,gg⟩:=o
   obtain⟨args,ta,hop,c5,c6⟩:=ZH c3
   dsimp only at hop
   subst hop
   obtain⟨S,s,hgd⟩:=qB (Kn:=fun S=>ic d (.tup []) S fun S=>ku cf sts S M nx K) (Ky:=fun S=>KV S xs fun vs=>cf f vs M nx fun v M nx=>ic d v S fun S=>ku cf sts S M nx K) s c2 hk'
   rcases hgd with⟨q1,q2⟩|⟨q1,q2⟩
   ·obtain⟨vs,g1,g2,g3⟩:=yL s c5 q2
    refine LM hi q1 (VO (acv c6) ?_)
    refine hcf _ vs M nx _ E ρ G F w _ _ hE h g1 g2 fun v M' nx' E' ρ' w' z k1 k2 k3 k4=>⟨z,rfl,?_⟩
    rw[jR]at k1
    simp only at d1
    rw[d1]
    exact nextE k1 k2 ((s.ext k2).put d2 (.inr k4)) k3
   ·rw[jR]at q2
    refine Qo hi q1 ?_
    simp only at d1
    rw[d1]
    exact next q2 (Ren.Le.refl _) (s.put d2 (.inr (ln _ _))) h
  |a i d g x=>
   simp only[tp]at hst
   split at hst
   case h_2=>cases hst
   rename_i o hi
   simp only[akB]at hst
   obtain⟨⟨c1,c2⟩,c3⟩:=hst
   obtain⟨d1,d2⟩:=tH c1
   obtain⟨S,s,hgd⟩:=qB (Kn:=fun S=>ac (ZG (bH d S)) (ku cf sts S M nx K)) (Ky:=fun S=>VN x S M fun v=>ac (eqA v (bH d S)) (ku cf sts S M nx K)) s c2 hk'
   rcases hgd with⟨q1,q2⟩|⟨q1,q2⟩
   ·obtain⟨v,z,g1,g2,g3⟩:=Zq h s c3 q2
    obtain⟨g4,g5⟩:=aq g2
    have g4:=ajj g4
    refine⟨⟨z,YD hi q1 g3,?_⟩,next g5 (Ren.Le.refl _) s h⟩
    rw[cz hi,d1]
    have hz:a.tmps.getD d undef=z:=by
     rcases s.at_ d with e|⟨x',e1,e2⟩
     ·rw[g4,e]at g1;cases g1
     ·rw[←g4,g1]at e1
      cases e1
      exact e2
    exact put_self hz
   ·obtain⟨g4,g5⟩:=aq q2
    have g4:=ZF g4
    refine⟨⟨undef,YC hi q1,?_⟩,next g5 (Ren.Le.refl _) s h⟩
    rw[cz hi,d1]
    have hz:a.tmps.getD d undef=undef:=by
     rcases s.at_ d with e|⟨x',e1,e2⟩
     ·rw[g4]at e;cases e
     ·rw[g4,ln]at e1
      cases e1
      exact e2
    exact put_self hz
where
 put_self {a:Act} {d:Nat} {z:Value} (h:a.tmps.getD d undef=z):a.put (some d) z=a:=by
  simp only[Act.put]
  have:a.tmps.setIfInBounds d z=a.tmps:=by
   apply Array.ext_getElem?
   intro j
   by_cases q:d=j
   ·subst q
    rcases Nat.lt_or_ge d a.tmps.size with hl|hl
    ·rw[Array.getElem?_setIfInBounds_self_of_lt hl,Array.getElem?_eq_getElem hl]
     simp only[Array.getD,hl,dif_pos,Array.getInternal_eq_getElem]at h
     rw[h]
    ·rw[Array.getElem?_eq_none (by simpa using hl),Array.getElem?_eq_none hl]
   ·rw[Array.getElem?_setIfInBounds_ne q]
  rw[this]
inductive XTr|leaf (sts:List XSt)|split (x y:Nat) (s t:XTr)
def Xn:XTr→Tr
 |.leaf sts=>.leaf (sts.map AG)
 |.split x y s t=>.split x y (Xn s) (Xn t)
def Lb (P:Program) (ops:Array Oper) (N:Nat):XTr→Bool
 |.leaf sts=>sts.all (tp P ops N)
 |.split _ _ s t=>Lb P ops N s&&Lb P ops N t
noncomputable def Pt (cf:iB) (tr:XTr) (S:SL) (M:T) (nx:Nat) (K:SL→T→Nat→Bool):Bool:=XTr.rec (fun sts=>ku cf sts S M nx K) (fun _ _ _ _ p q=>ac p q) tr
theorem GX (hE:fu E) {cf:iB} (hcf:jF P cf) {Q:Act→World→Prop} {K:SL→T→Nat→Bool} (s:SR E ρ N S a) (h:Sim E ρ G F M nx w)
  (hq:∀S' M' nx' E' ρ' a' w',K S' M' nx'=true→Ext E ρ E' ρ'→SR E' ρ' N S' a'→Sim E' ρ' G F M' nx' w'→Q a' w'):∀{tr:XTr},Lb P ops N tr=true→Pt cf tr S M nx K=true→PR P ops Q a w (Xn tr)
 |.leaf sts,hc,hk=>LB hcf hE (fun st hst=>List.all_eq_true.1 hc st hst) s h hk hq
 |.split x y t u,hc,hk=>by
  simp only[Lb,akB]at hc
  obtain⟨k1,k2⟩:=aq (b:=Pt cf t S M nx K) (x:=Pt cf u S M nx K) hk
  exact⟨GX hE hcf s h hq hc.1 k1,GX hE hcf s h hq hc.2 k2⟩
end
noncomputable def DP (ps:List (Nat×Nat)) (i:Nat):Option Nat:=List.rec none (fun p _ ih=>Bool.rec ih (some p.2) (Nat.beq p.1 i)) ps
theorem jU:∀{ps:List (Nat×Nat)} {i j:Nat},DP ps i=some j→(i,j)∈ps
 |[],i,j,h=>by cases h
 |p::ps,i,j,h=>by
  have h':(Bool.rec (DP ps i) (some p.2) (Nat.beq p.1 i):Option Nat)=some j:=h
  cases hb:Nat.beq p.1 i with
  |true=>
   rw[hb]at h'
   cases h'
   have:=ako hb
   subst this
   simp
  |false=>rw[hb]at h';exact List.mem_cons_of_mem _ (jU h')
def kc (ps:List (Nat×Nat)) (ρ:Ren):Ren:=fun j=>match ps.find? (fun p=>Nat.beq p.2 j) with|some p=>ρ p.1|none=>none
def gu:List (Nat×Nat)→Bool
 |[]=>true
 |p::ps=>(ps.all fun q=> !Nat.beq q.2 p.2)&&(ps.all fun q=> !Nat.beq q.1 p.1)&&gu ps
theorem dR:∀{ps:List (Nat×Nat)} {ρ:Ren} {i j:Nat},gu ps=true→(i,j)∈ps→kc ps ρ j=ρ i
 |[],ρ,i,j,_,h=>by cases h
 |p::ps,ρ,i,j,ho,h=>by
  simp only[gu,akB]at ho
  rcases List.mem_cons.1 h with rfl|h
  ·simp[kc]
  ·have hne:Nat.beq p.2 j=false:=by
    have:=List.all_eq_true.1 ho.1.1 _ h
    simp only[Bool.not_eq_true']at this
    cases hb:Nat.beq p.2 j with
    |false=>rfl
    |true=>
     have:=ako hb
     subst this
     simp at this
   have:=dR (ρ:=ρ) ho.2 h
   simp only[kc,List.find?_cons,hne]at this ⊢
   exact this
theorem An:∀{ps:List (Nat×Nat)} {i j k:Nat},gu ps=true→(i,j)∈ps→(i,k)∈ps→j=k
 |[],i,j,k,_,h,_=>by cases h
 |p::ps,i,j,k,ho,h,h2=>by
  simp only[gu,akB]at ho
  have hno:∀q∈ps,q.1≠p.1:=fun q hq e=>by
   have:=List.all_eq_true.1 ho.1.2 q hq
   rw[e]at this
   simp at this
  rcases List.mem_cons.1 h with e1|h1
  ·rcases List.mem_cons.1 h2 with e2|h3
   ·rw[←e1]at e2;injection e2 with _ e;exact e.symm
   ·exact absurd (by rw[←e1]) (hno _ h3)
  ·rcases List.mem_cons.1 h2 with e2|h3
   ·exact absurd (by rw[←e2]) (hno _ h1)
   ·exact An ho.2 h1 h3
noncomputable def Hi (ps:List (Nat×Nat)):SY→Option SY
 |.prow i n=>(DP ps i).map fun j=>.prow j n
 |.psub i sz a n o oc=>(DP ps i).map fun j=>.psub j sz a n o oc
 |.pfix i n c=>(DP ps i).map fun j=>.pfix j n c
 |.rptr i sz q o=>(DP ps i).map fun j=>.rptr j sz q o
 |.kmp i=>(DP ps i).map fun j=>.kmp j
 |s=>some s
mutual
noncomputable def fo (ps:List (Nat×Nat)):AV→Option AV
 |.bad=>none
 |.int k z=>some (.int k z)
 |.bool b=>some (.bool b)
 |.str l=>some (.str l)
 |.nilP=>some .nilP
 |.nilS=>some .nilS
 |.nilM=>some .nilM
 |.nilF=>some .nilF
 |.nilI=>some .nilI
 |.ptr i o=>(DP ps i).map fun j=>.ptr j o
 |.sl i o n c=>(DP ps i).map fun j=>.sl j o n c
 |.map i=>(DP ps i).map fun j=>.map j
 |.yl i=>(DP ps i).map fun j=>.yl j
 |.any _=>none
 |.sy s=>(Hi ps s).map .sy
 |.iface t v=>(fo ps v).map fun u=>.iface t u
 |.fn f c=>(jk ps c).map fun u=>.fn f u
 |.agg l=>(jk ps l).map .agg
 |.tup l=>(jk ps l).map .tup
noncomputable def jk (ps:List (Nat×Nat)):List AV→Option (List AV)
 |[]=>some []
 |v::r=>(fo ps v).bind fun u=>(jk ps r).map fun l=>u::l
end
section
variable {P:Program} {E:Env} {ρ:Ren} {G:GS} {F:List bo} {M:T} {nx:Nat} {w:World} {ps:List (Nat×Nat)} {t2:Nat→Value}
theorem abC (ho:gu ps=true) {s u:SY} {x:Value} (h:Hi ps s=some u) (hd:bx E ρ s=some x):bx ⟨t2,E.M⟩ (kc ps ρ) u=some x:=by
 cases s with
 |prow i n=>
  simp only[Hi,akt]at h
  obtain⟨j,h1,rfl⟩:=h
  simp only[bx,dR ho (jU h1)]at hd ⊢
  exact hd
 |psub i sz a n o oc=>
  simp only[Hi,akt]at h
  obtain⟨j,h1,rfl⟩:=h
  simp only[bx,dR ho (jU h1)]at hd ⊢
  exact hd
 |pfix i n c=>
  simp only[Hi,akt]at h
  obtain⟨j,h1,rfl⟩:=h
  simp only[bx,dR ho (jU h1)]at hd ⊢
  exact hd
 |rptr i sz q o=>
  simp only[Hi,akt]at h
  obtain⟨j,h1,rfl⟩:=h
  simp only[bx,dR ho (jU h1)]at hd ⊢
  exact hd
 |kmp i=>
  simp only[Hi,akt]at h
  obtain⟨j,h1,rfl⟩:=h
  simp only[bx,dR ho (jU h1)]at hd ⊢
  exact hd
 |int k z=>cases h;exact hd
 |bool p=>cases h;exact hd
 |str l=>cases h;exact hd
 |imm=>cases h;exact hd
 |pim=>cases h;exact hd
mutual
theorem mV (ho:gu ps=true):∀(v u:AV) (x:Value),fo ps v=some u→den E ρ v=some x→den ⟨t2,E.M⟩ (kc ps ρ) u=some x
 |.bad,u,x,h,_=>by simp[fo]at h
 |.any _,u,x,h,_=>by simp[fo]at h
 |.int _ _,u,x,h,hd|.bool _,u,x,h,hd|.str _,u,x,h,hd|.nilP,u,x,h,hd|.nilS,u,x,h,hd|.nilM,u,x,h,hd|.nilF,u,x,h,hd|.nilI,u,x,h,hd=>by
  simp only[fo,akC]at h
  subst h
  simpa[den] using hd
 |.ptr i o,u,x,h,hd=>by
  simp only[fo,akt]at h
  obtain⟨j,h1,rfl⟩:=h
  simp only[den,dR ho (jU h1)]at hd ⊢
  exact hd
 |.sl i o n c,u,x,h,hd=>by
  simp only[fo,akt]at h
  obtain⟨j,h1,rfl⟩:=h
  simp only[den,dR ho (jU h1)]at hd ⊢
  exact hd
 |.map i,u,x,h,hd=>by
  simp only[fo,akt]at h
  obtain⟨j,h1,rfl⟩:=h
  simp only[den,dR ho (jU h1)]at hd ⊢
  exact hd
 |.yl i,u,x,h,hd=>by
  simp only[fo,akt]at h
  obtain⟨j,h1,rfl⟩:=h
  simp only[den,dR ho (jU h1)]at hd ⊢
  exact hd
 |.sy s,u,x,h,hd=>by
  simp only[fo,akt]at h
  obtain⟨s',h1,rfl⟩:=h
  simp only[den]at hd ⊢
  exact abC ho h1 hd
 |.iface t v,u,x,h,hd=>by
  simp only[fo,akt]at h
  obtain⟨y,h1,rfl⟩:=h
  simp only[den]at hd ⊢
  rcases e:den E ρ v with _|z
  ·rw[e]at hd;cases hd
  ·rw[e]at hd;rw[mV ho v y z h1 e];exact hd
 |.fn f c,u,x,h,hd=>by
  simp only[fo,akt]at h
  obtain⟨y,h1,rfl⟩:=h
  simp only[den]at hd ⊢
  rcases e:aO E ρ c with _|z
  ·rw[e]at hd;cases hd
  ·rw[e]at hd;rw[qe ho c y z h1 e];exact hd
 |.agg c,u,x,h,hd=>by
  simp only[fo,akt]at h
  obtain⟨y,h1,rfl⟩:=h
  simp only[den]at hd ⊢
  rcases e:aO E ρ c with _|z
  ·rw[e]at hd;cases hd
  ·rw[e]at hd;rw[qe ho c y z h1 e];exact hd
 |.tup c,u,x,h,hd=>by
  simp only[fo,akt]at h
  obtain⟨y,h1,rfl⟩:=h
  simp only[den]at hd ⊢
  rcases e:aO E ρ c with _|z
  ·rw[e]at hd;cases hd
  ·rw[e]at hd;rw[qe ho c y z h1 e];exact hd
theorem qe (ho:gu ps=true):∀(l m:List AV) (xs:List Value),jk ps l=some m→aO E ρ l=some xs→aO ⟨t2,E.M⟩ (kc ps ρ) m=some xs
 |[],m,xs,h,hd=>by
  simp only[jk,akC]at h
  subst h
  simpa[aO] using hd
 |v::r,m,xs,h,hd=>by
  obtain⟨x,ys,h1,h2,rfl⟩:=cA hd
  simp only[jk,Option.bind_eq_some_iff,akt]at h
  obtain⟨u,g1,l,g2,rfl⟩:=h
  exact mo (mV ho v u x g1 h1) (qe ho r l ys g2 h2)
end
noncomputable def JA (ps:List (Nat×Nat)):List (List AV)→Option (List (List AV))
 |[]=>some []
 |v::r=>(jk ps v).bind fun u=>(JA ps r).map fun l=>u::l
theorem PZ:∀{l m:List AV},jk ps l=some m→m.length=l.length
 |[],m,h=>by simp only[jk,akC]at h;subst h;rfl
 |v::r,m,h=>by
  simp only[jk,Option.bind_eq_some_iff,akt]at h
  obtain⟨u,g1,l,g2,rfl⟩:=h
  simp[PZ g2]
theorem Qa:∀{l m a b:List AV},jk ps l=some a→jk ps m=some b→jk ps (l++m)=some (a++b)
 |[],m,a,b,h,h2=>by simp only[jk,akC]at h;subst h;simpa using h2
 |v::r,m,a,b,h,h2=>by
  simp only[jk,Option.bind_eq_some_iff,akt]at h
  obtain⟨u,g1,l,g2,rfl⟩:=h
  simp[jk,g1,Qa g2 h2]
theorem Jz:∀{l m:List (List AV)},JA ps l=some m→jk ps l.flatten=some m.flatten∧m.length=l.length∧∀n,(∀x∈l,x.length=n)→∀x∈m,x.length=n
 |[],m,h=>by simp only[JA,akC]at h;subst h;exact⟨rfl,rfl,fun n _ x hx=>by simp at hx⟩
 |v::r,m,h=>by
  simp only[JA,Option.bind_eq_some_iff,akt]at h
  obtain⟨u,g1,l,g2,rfl⟩:=h
  obtain⟨h1,h2,h3⟩:=Jz g2
  refine⟨Qa g1 h1,by simp[h2],fun n hn x hx=> ?_⟩
  rcases List.mem_cons.1 hx with rfl|hx
  ·rw[PZ g1];exact hn v (by simp)
  ·exact h3 n (fun y hy=>hn y (by simp[hy])) x hx
noncomputable def JB (ps:List (Nat×Nat)):List (AV×AV×Nat)→Option (List (AV×AV×Nat))
 |[]=>some []
 |e::r=>(fo ps e.1).bind fun k=>(fo ps e.2.1).bind fun v=>(JB ps r).map fun l=>(k,v,e.2.2)::l
theorem Nv (ho:gu ps=true):∀{l m:List (AV×AV×Nat)} {ms:List MapEntry},JB ps l=some m→bL E ρ l=some ms→bL ⟨t2,E.M⟩ (kc ps ρ) m=some ms
 |[],m,ms,h,hd=>by
  simp only[JB,akC]at h
  subst h
  simpa[bL] using hd
 |(k,v,b)::r,m,ms,h,hd=>by
  obtain⟨x,y,ms',h1,h2,h3,rfl⟩:=dG hd
  simp only[JB,Option.bind_eq_some_iff,akt]at h
  obtain⟨k',g1,v',g2,l,g3,rfl⟩:=h
  simp only[bL,mV ho k k' x g1 h1,mV ho v v' y g2 h2,Nv ho g3 h3]
noncomputable def fy (ps:List (Nat×Nat)):AObj→Option AObj
 |.blk g Ty sz els=>(JA ps els).map fun e=>.blk g Ty sz e
 |.map es cl=>(JB ps es).map fun e=>.map e cl
 |.prow Ty sz α l enc=>some (.prow Ty sz α l enc)
 |.kmap sure ak av α l k v=>some (.kmap sure ak av α l k v)
 |.defs=>some .defs
 |.iter ..=>none
theorem Hj (ho:gu ps=true) {e:eD} {o o':AObj} {ob:Obj} (h:fy ps o=some o') (hr:ORel E ρ e o ob):ORel ⟨t2,E.M⟩ (kc ps ρ) e o' ob:=by
 cases o with
 |blk g Ty sz els=>
  simp only[fy,akt]at h
  obtain⟨els',h1,rfl⟩:=h
  obtain⟨f1,f2,f3⟩:=Jz h1
  obtain⟨q0,q1,arr,xs,q2,q3,q4⟩:=hr
  refine⟨f3 sz q0,q1,arr,xs,q2,qe ho _ _ _ f1 q3,?_⟩
  rw[f2];exact q4
 |map es cl=>
  simp only[fy,akt]at h
  obtain⟨es',h1,rfl⟩:=h
  obtain⟨ms,q1,q2⟩:=hr
  exact⟨ms,Nv ho h1 q1,q2⟩
 |iter=>simp[fy]at h
 |defs=>
  simp only[fy,akC]at h
  subst h;exact hr
 |prow Ty sz α l enc=>
  simp only[fy,akC]at h
  subst h;exact hr
 |kmap sure ak av α l k v=>
  simp only[fy,akC]at h
  subst h
  obtain⟨es,cl,ms,h1,h2,h3⟩:=hr
  exact⟨es,cl,ms,h1,Ts (E:=E) (E':=⟨t2,E.M⟩) rfl h1 h2,h3⟩
theorem fJ {e:eD} {o o':AObj} (h:fy ps o=some o'):cG e o'=cG e o∧(Jv o→Jv o'):=by
 cases o with
 |blk g Ty sz els=>
  simp only[fy,akt]at h
  obtain⟨els',h1,rfl⟩:=h
  exact⟨rfl,fun q=>q⟩
 |map es cl=>
  simp only[fy,akt]at h
  obtain⟨es',h1,rfl⟩:=h
  exact⟨rfl,fun q=>q⟩
 |iter=>simp[fy]at h
 |defs=>
  simp only[fy,akC]at h
  subst h;exact⟨rfl,fun q=>q⟩
 |prow Ty sz α l enc=>
  simp only[fy,akC]at h
  subst h;exact⟨rfl,fun q=>q⟩
 |kmap sure ak av α l k v=>
  simp only[fy,akC]at h
  subst h;exact⟨rfl,fun q=>q⟩
noncomputable def xi (ps:List (Nat×Nat)) (M:T) (l:List (Nat×Nat)):T→(T→Bool)→Bool:=List.rec (fun acc K=>K acc) (fun p _ ih acc K=>dh (M.get p.1) fun o=>dh (fy ps o) fun o'=>T.set bI acc p.2 (some o') fun acc=>ih acc K) l
theorem Fg:∀{l:List (Nat×Nat)} {acc:T} {K:T→Bool},(∀j o,acc.get j=some o→∃i o0,(i,j)∈ps∧M.get i=some o0∧fy ps o0=some o)→(∀p∈l,p∈ps)→xi ps M l acc K=true→
  ∃M',K M'=true∧∀j o,M'.get j=some o→∃i o0,(i,j)∈ps∧M.get i=some o0∧fy ps o0=some o
 |[],acc,K,ha,_,h=>⟨acc,h,ha⟩
 |p::l,acc,K,ha,hl,h=>by
  have h':(dh (M.get p.1) fun o=>dh (fy ps o) fun o'=>T.set bI acc p.2 (some o') fun acc=>xi ps M l acc K)=true:=h
  obtain⟨o,h1,h2⟩:=bF h'
  obtain⟨o',h3,h4⟩:=bF h2
  obtain⟨acc',h5,s1,s2⟩:=T.set_ok _ _ _ _ _ h4
  refine Fg (fun j ob hj=> ?_) (fun q hq=>hl q (by simp[hq])) h5
  by_cases e:j=p.2
  ·subst e
   rw[s1]at hj
   cases hj
   exact⟨p.1,o,hl p (by simp),h1,h3⟩
  ·rw[s2 j e]at hj
   exact ha j ob hj
noncomputable def aip (live:List Nat) (ps:List (Nat×Nat)) (nx':Nat) (S:SL) (M:T) (K:SL→T→Nat→Bool):Bool:=
 ac (gu ps&&ps.all fun p=>Nat.blt p.2 nx') (xi ps M ps .leaf fun M'=>List.rec (motive:=fun _=>SL→Bool) (fun acc=>K acc M' nx') (fun t _ ih acc=>Option.casesOn (fo ps (bH t S)) (ih acc) fun v=>ih (.cons t v acc)) live .nil)
theorem Sim.ren (h:Sim E ρ G F M nx w) (ho:gu ps=true) {nx':Nat} (hn:∀p∈ps,p.2<nx') {M':T} (hM:∀j o,M'.get j=some o→∃i o0,(i,j)∈ps∧M.get i=some o0∧fy ps o0=some o):Sim E (kc ps ρ) G F M' nx' w:=by
 obtain⟨c,hh,hob,hinj⟩:=h.ex
 refine⟨⟨c,hh,fun j o hj=> ?_,fun j k e f o o' hj hk he hf hb1 hb2 hb=> ?_⟩,h.mem,fun j hj=> ?_⟩
 ·obtain⟨i,o0,h1,h2,h3⟩:=hM j o hj
  obtain⟨e,a1,q⟩:=hob i o0 h2
  have hB:=fJ (e:=e) h3
  refine⟨e,by rw[dR ho h1];exact a1,?_⟩
  rcases q with⟨q1,ob,q2,q3⟩|⟨q1,q2⟩
  ·exact .inl ⟨by rw[hB.1];exact q1,ob,q2,Hj ho h3 q3⟩
  ·exact .inr ⟨by rw[hB.1];exact q1,hB.2 q2⟩
 ·obtain⟨i,o0,h1,h2,h3⟩:=hM j o hj
  obtain⟨i',o1,g1,g2,g3⟩:=hM k o' hk
  rw[dR ho h1]at he
  rw[dR ho g1]at hf
  rw[(fJ (e:=e) h3).1]at hb1
  rw[(fJ (e:=f) g3).1]at hb2
  have:=hinj i i' e f o0 o1 h2 g2 he hf hb1 hb2 hb
  subst this
  exact An ho h1 g1
 ·unfold kc
  split
  ·rename_i p hp
   have h1:=List.mem_of_find?_eq_some hp
   have h2:=List.find?_some hp
   have:=ako h2
   have:=hn p h1
   omega
  ·rfl
theorem aeF {N:Nat} {S:SL} {a:Act} (s:SR E ρ N S a) (h:Sim E ρ G F M nx w) {live:List Nat} {nx':Nat} {K:SL→T→Nat→Bool} (hk:aip live ps nx' S M K=true):
  ∃S' M' ρ',SR E ρ' N S' a∧Sim E ρ' G F M' nx' w∧K S' M' nx'=true∧∀i j,(i,j)∈ps→ρ' j=ρ i:=by
 obtain⟨h1,h2⟩:=aq hk
 simp only[akB]at h1
 obtain⟨M',h3,h4⟩:=Fg (ps:=ps) (fun j o hj=>by simp[T.get_leaf]at hj) (fun p hp=>hp) h2
 have hn:∀p∈ps,p.2<nx':=fun p hp=>by
  have:=List.all_eq_true.1 h1.2 p hp
  simpa[akF] using this
 have key:∀(live:List Nat) (acc:SL),SR E (kc ps ρ) N acc a→(List.rec (motive:=fun _=>SL→Bool) (fun acc=>K acc M' nx') (fun t _ ih acc=>Option.casesOn (fo ps (bH t S)) (ih acc) fun v=>ih (.cons t v acc)) live acc)=true→∃S',SR E (kc ps ρ) N S' a∧K S' M' nx'=true:=by
  intro live
  induction live with
  |nil=>exact fun acc sa hk=>⟨acc,sa,hk⟩
  |cons t live ih=>
   intro acc sa hk
   have hk':Option.casesOn (motive:=fun _=>Bool) (fo ps (bH t S)) (List.rec (motive:=fun _=>SL→Bool) (fun acc=>K acc M' nx') (fun t _ ih acc=>Option.casesOn (fo ps (bH t S)) (ih acc) fun v=>ih (.cons t v acc)) live acc)
    (fun v=>List.rec (motive:=fun _=>SL→Bool) (fun acc=>K acc M' nx') (fun t _ ih acc=>Option.casesOn (fo ps (bH t S)) (ih acc) fun v=>ih (.cons t v acc)) live (.cons t v acc))=true:=hk
   rcases e:fo ps (bH t S) with _|v
   ·rw[e]at hk'
    exact ih acc sa hk'
   ·rw[e]at hk'
    refine ih (.cons t v acc) ⟨sa.size,sa.defs,fun u=> ?_⟩ hk'
    by_cases q:t=u
    ·subst q
     rw[fL]
     rcases s.at_ t with q|⟨x,q1,q2⟩
     ·rw[q]at e;simp[fo]at e
     ·exact .inr ⟨x,mV h1.1 _ _ _ e q1,q2⟩
    ·rw[jV _ _ q]
     exact sa.at_ u
 obtain⟨S',k1,k2⟩:=key live .nil ⟨s.size,s.defs,fun _=>.inl rfl⟩ h3
 exact⟨S',M',_,k1,h.ren h1.1 hn h4,k2,fun i j q=>dR h1.1 q⟩
noncomputable def aj1:SY→List Nat
 |.prow i _=>[i]
 |.psub i _ _ _ _ _=>[i]
 |.pfix i _ _=>[i]
 |.rptr i _ _ _=>[i]
 |.kmp i=>[i]
 |_=>[]
mutual
noncomputable def AH:AV→List Nat
 |.ptr i _=>[i]
 |.sl i _ _ _=>[i]
 |.map i=>[i]
 |.yl i=>[i]
 |.sy s=>aj1 s
 |.iface _ v=>AH v
 |.fn _ c=>HT c
 |.agg l=>HT l
 |.tup l=>HT l
 |_=>[]
noncomputable def HT:List AV→List Nat
 |[]=>[]
 |v::r=>AH v++HT r
end
noncomputable def aj2:AObj→List Nat
 |.blk _ _ _ els=>HT els.flatten
 |.map es _=>es.flatMap fun e=>AH e.1++AH e.2.1
 |_=>[]
noncomputable def tb (M:T):Nat→List Nat→List Nat→List Nat
 |0,_,seen=>seen
 |_+1,[],seen=>seen
 |n+1,i::todo,seen=>match seen.any (Nat.beq i),M.get i with
  |false,some o=>tb M n (todo++aj2 o) (seen++[i])
  |_,_=>tb M n todo seen
def LP:Nat→List Nat→List (Nat×Nat)
 |_,[]=>[]
 |k,i::r=>(i,k)::LP (k+1) r
def Lu:Nat→List Nat→List Nat
 |0,l=>l
 |k+1,l=>Lu k (k::l)
def JE (ps:List (Nat×Nat)):Nat→Bool
 |0=>true
 |k+1=>List.any ps (fun p=>Nat.beq p.1 k&&Nat.beq p.2 k)&&JE ps k
theorem Hn {ps:List (Nat×Nat)}:∀{k:Nat},JE ps k=true→∀i,i<k→(i,i)∈ps
 |0,_,i,hi=>by omega
 |k+1,h,i,hi=>by
  simp only[JE,akB]at h
  rcases Nat.lt_succ_iff_lt_or_eq.1 hi with h1|rfl
  ·exact Hn h.2 i h1
  ·obtain⟨p,q1,q2⟩:=List.any_eq_true.1 h.1
   simp only[akB]at q2
   have e1:=ako q2.1
   have e2:=ako q2.2
   have:p=(i,i):=by cases p;simp_all
   rw[←this];exact q1
noncomputable def acu (k:Nat) (live:List Nat) (S:SL) (M:T):List (Nat×Nat):=LP 0 (tb M 200 (Lu k (live.flatMap fun t=>AH (bH t S))) [])
noncomputable def ajv (k:Nat) (live:List Nat) (S:SL) (M:T) (K:SL→T→Nat→Bool):Bool:=ac (JE (acu k live S M) k) (aip live (acu k live S M) (acu k live S M).length S M K)
theorem afM {N k:Nat} {S:SL} {a:Act} (s:SR E ρ N S a) (h:Sim E ρ G F M nx w) {live:List Nat} {K:SL→T→Nat→Bool} (hk:ajv k live S M K=true):
  ∃S' M' nx' ρ',SR E ρ' N S' a∧Sim E ρ' G F M' nx' w∧K S' M' nx'=true∧∀i e,i<k→ρ i=some e→ρ' i=some e:=by
 obtain⟨h1,h2⟩:=aq hk
 obtain⟨S',M',ρ',g1,g2,g3,g4⟩:=aeF s h h2
 exact⟨S',M',_,ρ',g1,g2,g3,fun i e q1 q2=>by rw[g4 i i (Hn h1 i q1)];exact q2⟩
end
end Go.Sy
