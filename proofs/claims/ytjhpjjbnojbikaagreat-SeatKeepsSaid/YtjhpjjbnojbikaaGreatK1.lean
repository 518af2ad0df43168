/- Definitions and lemmas of the proof, without a condition of their own. -/
import Derived.Test.YtjhpjjbnojbikaaGreatK0
import Derived.MapKept
import Derived.Maps.RangeRun
set_option linter.unusedSimpArgs false
set_option linter.unusedVariables false
open Bool renaming and_eq_true→aml
open Go.Result renaming andThen_ok→ame
open Go.Sem renaming run_bind→amf
open List renaming eq_nil_of_length_eq_zero→amo,flatten_cons→al8,getElem?_map→amn,getElem?_take_of_lt→amk,length_append→al2,length_drop→amr,length_map→al4,length_take→ami,map_append→amg,map_cons→al9,mem_append→amh,mem_of_getElem?→al7,nil_append→amc
open Nat renaming blt_eq→amq,eq_of_beq_eq_true→al6,le_refl→amj
open Option.some renaming inj→amp,injEq→amm
namespace Go.Sy
open Go Go.RowKit Go.Eng
section
variable {P:Program} {E:Env} {ρ:Ren} {G:GS} {F:List aH} {M:T} {nx:Nat} {w:World}
theorem agJ {ne:Bool} {d:Nat} {et:ET} {u v:AV} {K:AV→Bool} {x y:Value} {t:TypeId} (hd:d≤10000) (hc:cn P d et t=true) (hg:(P.eqGuardType P.depth t=false)) (hx:den E ρ u=some x) (hy:den E ρ v=some y)
  (hk:kc d et u v (fun b=>fB (Bool.rec b (Bool.not b) ne) fun r=>K (.bool r))=true) (p q:Operand):
  ∃u z,den E ρ u=some z∧K u=true∧∀w,((do eqGuard (bif ne then .neq else .eql) t p q x y;binOp (bif ne then .neq else .eql) t x y):Sem Value).run P w= .ok z w:=by
 have hshape:(∃us vs,x= .agg us∧y= .agg vs)∨(∃k a k' b,x= .int k a∧y= .int k' b∧k=k'∧∃kd,P.underlying t=some (.int kd))∨(∃a b,x= .bool a∧y= .bool b)∨((∃a b,x= .string a∧y= .string b)∧P.underlying t=some .string):=by
  cases d with
  |zero=>simp[cn]at hc
  |succ d=>
  unfold cn at hc
  split at hc
  ·rename_i kd hu
   obtain⟨k,a,b,rfl,rfl,g⟩:=Mo hx hy hk
   exact .inr (.inl ⟨_,_,_,_,rfl,rfl,rfl,kd,hu⟩)
  ·obtain⟨a,b,rfl,rfl,g2⟩:=Gb hx hy hk
   exact .inr (.inr (.inl ⟨_,_,rfl,rfl⟩))
  ·rename_i hu
   obtain⟨l,m,rfl,rfl,g2⟩:=Ga hx hy hk
   exact .inr (.inr (.inr ⟨⟨_,_,rfl,rfl⟩,hu⟩))
  ·obtain⟨cs,rfl,g1⟩:=dz hk
   obtain⟨ds,rfl,g2⟩:=dz g1
   simp only[den]at hx hy
   split at hx
   case h_2=>cases hx
   split at hy
   case h_2=>cases hy
   cases hx;cases hy
   exact .inl ⟨_,_,rfl,rfl⟩
  ·obtain⟨cs,rfl,g1⟩:=dz hk
   obtain⟨ds,rfl,g2⟩:=dz g1
   simp only[den]at hx hy
   split at hx
   case h_2=>cases hx
   split at hy
   case h_2=>cases hy
   cases hx;cases hy
   exact .inl ⟨_,_,rfl,rfl⟩
  ·cases hc
 obtain⟨b,b1,b2,b3⟩:=qK d hc hx hy hk
 rw[nm]at b1
 refine⟨_,_,rfl,b1,fun w=> ?_⟩
 have hr:(Op.equal t x y).run P w= .ok b w:=b2 10000 w hd
 have hr':(Op.equalIn 10000 t x y).run P w= .ok b w:=b2 10000 w hd
 rcases hshape with⟨us,vs,rfl,rfl⟩|⟨k,a,k',c,rfl,rfl,rfl,kd,hu⟩|⟨a,c,rfl,rfl⟩|⟨⟨a,c,rfl,rfl⟩,hu⟩
 ·cases ne
  ·simp only[cond_false,amf,run_eqGuard_agg w .eql t p q us vs hg,ame,run_eql_struct,hr']
  ·simp only[cond_true,amf,run_eqGuard_agg w .neq t p q us vs hg,ame,run_neq_struct,hr']
 ·have hb:b=decide (a=c):=by
   rcases b3 _ hu with q|q
   ·simp[Instr.sameNow,iD]at q;exact q.symm
   ·simp[Instr.sameNow]at q
  subst hb
  cases ne<;>simp[eqGuard,binOp,Op.intCmp,bne,iD]
 ·cases ne<;>simp[eqGuard,binOp,hr]
 ·have hb:b=(a.toList==c.toList):=by
   rcases b3 _ hu with q|q
   ·simp only[Instr.sameNow,amm]at q
    rw[←q,beq_toListBytes]
   ·simp[Instr.sameNow]at q
  subst hb
  cases ne<;>simp[eqGuard,binOp,Op.stringOp]
noncomputable def zO (d:Nat) (et:ET) (k:AV) (es:List (AV×AV×Nat)) (Kn:Bool) (Ks:Nat→AV×AV×Nat→Bool):Bool:=
 List.rec (fun _=>Kn) (fun e _ ih i=>kc d et k e.1 fun b=>aM b (Ks i e) (ih (Nat.succ i))) es 0
theorem cC {k v:AV} {b:Nat} {r:List (AV×AV×Nat)} {ms:List MapEntry} (h:bp E ρ ((k,v,b)::r)=some ms):∃x y ms',den E ρ k=some x∧den E ρ v=some y∧bp E ρ r=some ms'∧ms=⟨x,y,b⟩::ms':=by
 unfold bp at h
 split at h
 ·rename_i x y es h1 h2 h3
  exact⟨x,y,es,h1,h2,h3,(amp h).symm⟩
 ·cases h
theorem Cr {d:Nat} {et:ET} {k:AV} {x:Value} {kt:TypeId} (hd:d≤10000) (hc:cn P d et kt=true) (hx:den E ρ k=some x):∀{es:List (AV×AV×Nat)} {ms:List MapEntry} {i:Nat} {Kn:Bool} {Ks:Nat→AV×AV×Nat→Bool},
  bp E ρ es=some ms→(List.rec (motive:=fun _=>Nat→Bool) (fun _=>Kn) (fun e _ ih i=>kc d et k e.1 fun b=>aM b (Ks i e) (ih (Nat.succ i))) es i:Bool)=true→
  (Kn=true∧∀w,(Instr.findAsking kt x ms i).run P w= .ok none w∧∀dd,P.underlying kt=some dd→(Instr.findNow dd x ms i=some none∨(Instr.findNow dd x ms i=none)))∨
  (∃j e y,es[j]?=some e∧Ks (i+j) e=true∧den E ρ e.2.1=some y∧∀w,(Instr.findAsking kt x ms i).run P w= .ok (some (i+j,y)) w∧∀dd,P.underlying kt=some dd→(Instr.findNow dd x ms i=some (some (i+j,y))∨Instr.findNow dd x ms i=none))
 |[],ms,i,Kn,Ks,he,hk=>by
  simp[bp]at he
  subst he
  exact .inl ⟨hk,fun w=>⟨by simp[Instr.findAsking],fun dd _=>.inl rfl⟩⟩
 |(k',v',b')::es,ms,i,Kn,Ks,he,hk=>by
  obtain⟨x',y',ms',h1,h2,h3,rfl⟩:=cC he
  have hk':kc d et k k' (fun b=>aM b (Ks i (k',v',b')) (List.rec (motive:=fun _=>Nat→Bool) (fun _=>Kn) (fun e _ ih i=>kc d et k e.1 fun b=>aM b (Ks i e) (ih (Nat.succ i))) es (Nat.succ i)))=true:=hk
  obtain⟨b,b1,b2,hsn⟩:=qK d hc hx h1 hk'
  have hr:∀w,(Op.equal kt x x').run P w= .ok b w:=fun w=>b2 10000 w hd
  rcases aL b1 with⟨rfl,b3⟩|⟨rfl,b3⟩
  ·refine .inr ⟨0,_,y',rfl,b3,h2,fun w=>⟨by simp[Instr.findAsking,hr],fun dd hu=> ?_⟩⟩
   rcases hsn dd hu with q|q<;>simp[Instr.findNow,q]
  ·rcases Cr hd hc hx h3 b3 with⟨q1,q2⟩|⟨j,e,y,q1,q2,q3,q4⟩
   ·refine .inl ⟨q1,fun w=>⟨by simp[Instr.findAsking,hr,(q2 w).1],fun dd hu=> ?_⟩⟩
    rcases hsn dd hu with q|q
    ·simp only[Instr.findNow,q]
     exact(q2 w).2 dd hu
    ·exact .inr (by simp[Instr.findNow,q])
   ·refine .inr ⟨j+1,e,y,by simpa using q1,by rw[←Nat.add_assoc,Nat.add_right_comm];exact q2,q3,fun w=>⟨by simp[Instr.findAsking,hr,(q4 w).1];omega,fun dd hu=> ?_⟩⟩
    rcases hsn dd hu with q|q
    ·simp only[Instr.findNow,q]
     have:=(q4 w).2 dd hu
     rw[show i+1+j=i+(j+1) by omega]at this
     exact this
    ·exact .inr (by simp[Instr.findNow,q])
end
noncomputable def nH:Nat→ET→AV→Bool→Bool:=
 Nat.rec (fun _ _ _=>false) (fun _ ih et v K=>ET.casesOn et
  (iE v fun _ _=>K) (Rq v fun _=>K) (qT v fun _=>K)
  (fun fs=>asAgg v fun cs=>List.rec K (fun f _ r=>eW f.2.2.1 f.1 f.2.1 cs fun u=>ih f.2.2.2 u r) fs)
  (fun offs n agg e=>asAgg v fun cs=>List.rec K (fun o _ r=>eW agg o n cs fun u=>ih e u r) offs))
section
variable {P:Program} {E:Env} {ρ:Ren} {G:GS} {F:List aH} {M:T} {nx:Nat} {w:World}
theorem nP:∀(d:Nat) {et:ET} {v:AV} {K:Bool} {x:Value} {t:TypeId},cn P d et t=true→den E ρ v=some x→nH d et v K=true→K=true∧∀(e:Bool) (n:Nat) (w:World),d≤n→(Instr.checkKey e n t x).run P w= .ok () w
 |0,et,v,K,x,t,hc,_,_=>by simp[cn]at hc
 |d+1,et,v,K,x,t,hc,hx,hk=>by
  unfold cn at hc
  split at hc
  ·rename_i kk hu
   obtain⟨k,a,rfl,g⟩:=fA (K:=fun _ _=>K) hx hk
   refine⟨g,fun e n w hn=> ?_⟩
   obtain⟨n,rfl⟩:∃n',n=n'+1:=⟨n - 1,by omega⟩
   simp[Instr.checkKey,run_underlying hu]
  ·rename_i hu
   obtain⟨a,rfl,g⟩:=Gz (K:=fun _=>K) hx hk
   refine⟨g,fun e n w hn=> ?_⟩
   obtain⟨n,rfl⟩:∃n',n=n'+1:=⟨n - 1,by omega⟩
   simp[Instr.checkKey,run_underlying hu]
  ·rename_i hu
   obtain⟨a,rfl,g⟩:=gW (K:=fun _=>K) hx hk
   refine⟨g,fun e n w hn=> ?_⟩
   obtain⟨n,rfl⟩:∃n',n=n'+1:=⟨n - 1,by omega⟩
   simp[Instr.checkKey,run_underlying hu]
  ·rename_i gs fs hu
   obtain⟨cs,rfl,g1⟩:=dz hk
   simp only[den]at hx
   split at hx
   case h_2=>cases hx
   rename_i xs hxs
   cases hx
   simp only[aml,Bool.not_eq_true']at hc
   have key:∀(l:List Field) (gs:List (Nat×Nat×Bool×ET)),dK (cn P d) P l gs=true→(List.rec K (fun f _ r=>eW f.2.2.1 f.1 f.2.1 cs fun u=>nH d f.2.2.2 u r) gs:Bool)=true→K=true∧
     ∀(e:Bool) (n:Nat) (w:World),d≤n→∀f∈l,f.name≠ "_" ∧∃z,(part f.type xs.toArray f.offset).run P w= .ok z w∧(Instr.checkKey e n f.type z).run P w= .ok () w:=by
    intro l
    induction l with
    |nil=>
     intro gs hf hk
     cases gs with
     |nil=>exact⟨hk,fun _ _ _ _ f hf=>by simp at hf⟩
     |cons g gs=>simp[dK]at hf
    |cons f l ihl=>
     intro gs hf hk
     cases gs with
     |nil=>simp[dK]at hf
     |cons g gs=>
      simp only[dK,aml,decide_eq_true_eq]at hf
      obtain⟨⟨⟨⟨⟨f1,f2⟩,f3⟩,f4⟩,f5⟩,f6⟩:=hf
      have f1:f.name≠ "_" :=by simpa using f1
      have hk':eW g.2.2.1 g.1 g.2.1 cs (fun u=>nH d g.2.2.2 u (List.rec K (fun f _ r=>eW f.2.2.1 f.1 f.2.1 cs fun u=>nH d f.2.2.2 u r) gs))=true:=hk
      obtain⟨u,zu,u1,u2,u3⟩:=jq hxs hk' f4 f3
      obtain⟨k1,k2⟩:=nP d f5 u1 u2
      obtain⟨k3,k4⟩:=ihl gs f6 k1
      refine⟨k3,fun e n w hn f' hf'=> ?_⟩
      rcases List.mem_cons.1 hf' with rfl|hf'
      ·exact⟨f1,zu,by rw[f2];exact u3 w,k2 e n w hn⟩
      ·exact k4 e n w hn f' hf'
   obtain⟨k1,k2⟩:=key fs.toList gs hc.2 g1
   refine⟨k1,fun e n w hn=> ?_⟩
   obtain⟨n,rfl⟩:∃n',n=n'+1:=⟨n - 1,by omega⟩
   have k3:=k2 e n w (by omega)
   simp only[Instr.checkKey,amf,run_underlying hu,ame]
   rw[←Array.forIn_toList]
   generalize fs.toList=l at k3
   clear hu key k2 hc
   induction l with
   |nil=>simp
   |cons f l ihl=>
    obtain⟨q1,z,q2,q3⟩:=k3 f (by simp)
    have:=ihl fun g hg=>k3 g (by simp[hg])
    simp[q1,q2,q3]at this ⊢
    exact this
  ·rename_i offs n agg e len el hu
   obtain⟨cs,rfl,g1⟩:=dz hk
   simp only[den]at hx
   split at hx
   case h_2=>cases hx
   rename_i xs hxs
   cases hx
   simp only[aml,decide_eq_true_eq]at hc
   obtain⟨⟨⟨c1,c2⟩,c3⟩,c4⟩:=hc
   have key:∀(l:List Nat),(List.rec K (fun o _ r=>eW agg o n cs fun u=>nH d e u r) l:Bool)=true→K=true∧∀(b:Bool) (m:Nat) (w:World),d≤m→∀o∈l,∃z,(part el xs.toArray o).run P w= .ok z w∧(Instr.checkKey b m el z).run P w= .ok () w:=by
    intro l
    induction l with
    |nil=>intro hk;exact⟨hk,fun _ _ _ _ o ho=>by simp at ho⟩
    |cons o l ihl=>
     intro hk
     have hk':eW agg o n cs (fun u=>nH d e u (List.rec K (fun o _ r=>eW agg o n cs fun u=>nH d e u r) l))=true:=hk
     obtain⟨u,zu,u1,u2,u3⟩:=jq hxs hk' c2 c1
     obtain⟨k1,k2⟩:=nP d c4 u1 u2
     obtain⟨k3,k4⟩:=ihl k1
     refine⟨k3,fun b m w hm o' ho'=> ?_⟩
     rcases List.mem_cons.1 ho' with rfl|ho'
     ·exact⟨zu,u3 w,k2 b m w hm⟩
     ·exact k4 b m w hm o' ho'
   obtain⟨k1,k2⟩:=key offs g1
   refine⟨k1,fun b m w hm=> ?_⟩
   obtain⟨m,rfl⟩:∃n',m=n'+1:=⟨m - 1,by omega⟩
   have k3:=k2 b m w (by omega)
   simp only[Instr.checkKey,amf,run_underlying hu,ame]
   rw[Std.Legacy.Range.forIn_eq_forIn_range']
   simp only[Std.Legacy.Range.size,Nat.sub_zero,Nat.add_sub_cancel,Nat.div_one]
   rw[c3,List.range_eq_range']at k3
   generalize List.range' 0 len=l at k3 ⊢
   clear hu key c3 g1 k2
   induction l with
   |nil=>simp
   |cons i l ihl=>
    obtain⟨z,q2,q3⟩:=k3 (i*n) (by simp)
    have:=ihl fun g hg=>k3 g (by simp at hg ⊢;exact .inr hg)
    simp[Go.Eng.run_sizeOf c1,q2,q3]at this ⊢
    exact this
  ·cases hc
theorem tQ {d:Nat} {et:ET} {k:AV} {x:Value} {kt:TypeId} (hd:d≤10000) (hc:cn P d et kt=true) (hx:den E ρ k=some x) {es:List (AV×AV×Nat)} {ms:List MapEntry} {Kn:Bool} {Ks:Nat→AV×AV×Nat→Bool} (he:bp E ρ es=some ms) (hk:zO d et k es Kn Ks=true):
  (Kn=true∧∀w,(Instr.findKey kt x ms).run P w= .ok none w)∨(∃j e y,es[j]?=some e∧Ks j e=true∧den E ρ e.2.1=some y∧∀w,(Instr.findKey kt x ms).run P w= .ok (some (j,y)) w):=by
 obtain⟨dd,hu⟩:∃dd,P.underlying kt=some dd:=by
  cases d with
  |zero=>simp[cn]at hc
  |succ d=>
   unfold cn at hc
   rcases hq:P.underlying kt with _|dd
   ·rw[hq]at hc;cases et<;>simp at hc
   ·exact⟨dd,rfl⟩
 rcases Cr hd hc hx (i:=0) he hk with⟨q1,q2⟩|⟨j,e,y,q1,q2,q3,q4⟩
 ·refine .inl ⟨q1,fun w=> ?_⟩
  rcases(q2 w).2 dd hu with q|q
  ·simp[Instr.findKey,run_underlying hu,q]
  ·simp[Instr.findKey,run_underlying hu,q,(q2 w).1]
 ·rw[Nat.zero_add]at q2
  refine .inr ⟨j,e,y,q1,q2,q3,fun w=> ?_⟩
  have:=q4 w
  rw[Nat.zero_add]at this
  rcases this.2 dd hu with q|q
  ·simp[Instr.findKey,run_underlying hu,q]
  ·simp[Instr.findKey,run_underlying hu,q,this.1]
theorem Sim.map (h:Sim E ρ G F M nx w) {i:Nat} {es:List (AV×AV×Nat)} {cl:Nat} (hi:M.get i=some (.map es cl)):∃e ms,ρ i=some e∧bp E ρ es=some ms∧w.heap[e.b]?=some (.map ms.toArray cl):=by
 obtain⟨e,ob,h1,h2,ms,h3,rfl⟩:=h.obj hi
 exact⟨e,ms,h1,h3,h2⟩
noncomputable def jY (M:T) (i:Nat) (K:Bool→Bool→Bool→(α:Type)→List α→(α→List PL)→(α→List PL)→Bool):Bool:=bF (M.get i) fun ob=>AObj.casesOn ob (fun _ _ _ _=>false) (fun _ _=>false) (fun _ _ _ _=>false) false (fun _ _ _ _ _=>false) K (fun _ _ _ _ _ _ _ _ _ _=>false) (fun _ _ _=>false)
theorem gw {M:T} {i:Nat} {K:Bool→Bool→Bool→(α:Type)→List α→(α→List PL)→(α→List PL)→Bool} (h:jY M i K=true):∃sure ak av α l k v,M.get i=some (.kmap sure ak av α l k v)∧K sure ak av α l k v=true:=by
 obtain⟨ob,h1,h2⟩:=aT h
 cases ob<;>first|exact⟨_,_,_,_,_,_,_,h1,h2⟩|cases h2
noncomputable def FK (M:T) (i:Nat):Bool:=Option.casesOn (M.get i) false fun ob=>AObj.casesOn ob (fun _ _ _ _=>false) (fun _ _=>false) (fun _ _ _ _=>false) false (fun _ _ _ _ _=>false) (fun _ _ _ _ _ _ _=>true) (fun _ _ _ _ _ _ _ _ _ _=>false) (fun _ _ _=>false)
noncomputable def Rn (d:Nat) (et:ET) (key:AV) (ak:Bool) (α:Type) (l:List α) (k:α→List PL) (Q:α→Prop):Bool:=
 aj fun x:α=>aM (aq (x∈l)) (kc d et key (aU ak (k x)) fun b=>aM b (aq (Q x)) (aq (¬Q x))) true
theorem Gy {d:Nat} {et:ET} {key:AV} {ak:Bool} {α:Type} {l:List α} {k:α→List PL} {Q:α→Prop} (h:Rn d et key ak α l k Q=true):∀x∈l,kc d et key (aU ak (k x)) (fun b=>aM b (aq (Q x)) (aq (¬Q x)))=true:=fun x hx=>by
 have h:=aV h x
 rw[prB_true.2 hx]at h
 exact h
theorem Cs {d:Nat} {et:ET} {key:AV} {x:Value} {kt:TypeId} (hd:d≤10000) (hc:cn P d et kt=true) (hx:den E ρ key=some x) {α:Type} {ak av:Bool} {k v:α→List PL} {Q:α→Prop}:∀{l:List α} {es:List (AV×AV×Nat)} {ms:List MapEntry} {i:Nat},
  es.map (fun e=>(e.1,e.2.1))=l.map (fun x=>(aU ak (k x),aU av (v x)))→bp E ρ es=some ms→(∀y∈l,kc d et key (aU ak (k y)) (fun b=>aM b (aq (Q y)) (aq (¬Q y)))=true)→
  ((∀y∈l,¬Q y)∧∀w,(Instr.findAsking kt x ms i).run P w= .ok none w∧∀dd,P.underlying kt=some dd→(Instr.findNow dd x ms i=some none∨(Instr.findNow dd x ms i=none)))∨
  (∃j y z,l[j]?=some y∧Q y∧den E ρ (aU av (v y))=some z∧∀w,(Instr.findAsking kt x ms i).run P w= .ok (some (i+j,z)) w∧∀dd,P.underlying kt=some dd→(Instr.findNow dd x ms i=some (some (i+j,z))∨Instr.findNow dd x ms i=none))
 |[],[],ms,i,_,he,_=>by
  simp[bp]at he
  subst he
  exact .inl ⟨fun y hy=>(by cases hy),fun w=>⟨by simp[Instr.findAsking],fun dd _=>.inl rfl⟩⟩
 |[],_::_,ms,i,h1,_,_=>by simp at h1
 |_::_,[],ms,i,h1,_,_=>by simp at h1
 |y::l,(k',v',b')::es,ms,i,hs,he,hq=>by
  simp only[al9,List.cons.injEq,Prod.mk.injEq]at hs
  obtain⟨⟨rfl,rfl⟩,hs⟩:=hs
  obtain⟨x',y',ms',h1,h2,h3,rfl⟩:=cC he
  obtain⟨b,b1,b2,hsn⟩:=qK d hc hx h1 (hq y List.mem_cons_self)
  have hr:∀w,(Op.equal kt x x').run P w= .ok b w:=fun w=>b2 10000 w hd
  rcases aL b1 with⟨rfl,b3⟩|⟨rfl,b3⟩
  ·refine .inr ⟨0,y,y',rfl,prB_true.1 b3,h2,fun w=>⟨by simp[Instr.findAsking,hr],fun dd hu=> ?_⟩⟩
   rcases hsn dd hu with q|q<;>simp[Instr.findNow,q]
  ·rcases Cs hd hc hx (i:=i+1) hs h3 (fun z hz=>hq z (List.mem_cons_of_mem _ hz)) with⟨q1,q2⟩|⟨j,z,y2,q1,q2,q3,q4⟩
   ·refine .inl ⟨fun z hz=> ?_,fun w=>⟨by simp[Instr.findAsking,hr,(q2 w).1],fun dd hu=> ?_⟩⟩
    ·rcases List.mem_cons.1 hz with rfl|hz
     ·exact prB_true.1 b3
     ·exact q1 z hz
    rcases hsn dd hu with q|q
    ·simp only[Instr.findNow,q]
     exact(q2 w).2 dd hu
    ·exact .inr (by simp[Instr.findNow,q])
   ·refine .inr ⟨j+1,z,y2,by simpa using q1,q2,q3,fun w=>⟨by simp[Instr.findAsking,hr,(q4 w).1];omega,fun dd hu=> ?_⟩⟩
    rcases hsn dd hu with q|q
    ·simp only[Instr.findNow,q]
     have:=(q4 w).2 dd hu
     rw[show i+1+j=i+(j+1) by omega]at this
     exact this
    ·exact .inr (by simp[Instr.findNow,q])
theorem yJ {d:Nat} {et:ET} {key:AV} {x:Value} {kt:TypeId} (hd:d≤10000) (hc:cn P d et kt=true) (hx:den E ρ key=some x) {α:Type} {ak av:Bool} {k v:α→List PL} {Q:α→Prop} {l:List α} {es:List (AV×AV×Nat)} {ms:List MapEntry}
  (hs:es.map (fun e=>(e.1,e.2.1))=l.map (fun x=>(aU ak (k x),aU av (v x)))) (he:bp E ρ es=some ms) (hq:∀y∈l,kc d et key (aU ak (k y)) (fun b=>aM b (aq (Q y)) (aq (¬Q y)))=true):
  ((∀y∈l,¬Q y)∧∀w,(Instr.findKey kt x ms).run P w= .ok none w)∨(∃j y z,l[j]?=some y∧Q y∧den E ρ (aU av (v y))=some z∧∀w,(Instr.findKey kt x ms).run P w= .ok (some (j,z)) w):=by
 obtain⟨dd,hu⟩:∃dd,P.underlying kt=some dd:=by
  cases d with
  |zero=>simp[cn]at hc
  |succ d=>
   unfold cn at hc
   rcases hq:P.underlying kt with _|dd
   ·rw[hq]at hc;cases et<;>simp at hc
   ·exact⟨dd,rfl⟩
 rcases Cs hd hc hx (i:=0) hs he hq with⟨q1,q2⟩|⟨j,y,z,q1,q2,q3,q4⟩
 ·refine .inl ⟨q1,fun w=> ?_⟩
  rcases(q2 w).2 dd hu with q|q
  ·simp[Instr.findKey,run_underlying hu,q]
  ·simp[Instr.findKey,run_underlying hu,q,(q2 w).1]
 ·refine .inr ⟨j,y,z,q1,q2,q3,fun w=> ?_⟩
  have:=q4 w
  rw[Nat.zero_add]at this
  rcases this.2 dd hu with q|q
  ·simp[Instr.findKey,run_underlying hu,q]
  ·simp[Instr.findKey,run_underlying hu,q,this.1]
theorem Sim.kmap (h:Sim E ρ G F M nx w) {i:Nat} {ak av:Bool} {α:Type} {l:List α} {k v:α→List PL} (hi:M.get i=some (.kmap false ak av α l k v)) {x:Value} (hm:den E ρ (.sy (.kmp i))=some x):
  ∃e,ρ i=some e∧((x= .map (some e.b)∧∃es ms cl,es.map (fun e=>(e.1,e.2.1))=l.map (fun x=>(aU ak (k x),aU av (v x)))∧bp E ρ es=some ms∧w.heap[e.b]?=some (.map ms.toArray cl)∧BOk es cl)∨(x= .map none∧l=[])):=by
 obtain⟨e,h1,q⟩:=h.objP hi
 simp only[den,aJ,h1,amm]at hm
 refine⟨e,h1,?_⟩
 rcases q with⟨q1,ob,q2,es,cl,ms,h3,h4,rfl,h5⟩|⟨q1,q2⟩
 ·refine .inl ⟨?_,es,ms,cl,h3,h4,q2,h5⟩
  have q1:(false|| !Nat.beq e.cap 0)=true:=q1
  have q3:Nat.beq e.cap 0=false:=by simpa using q1
  rw[←hm,q3];rfl
 ·refine .inr ⟨?_,q2.2⟩
  have q1:(false|| !Nat.beq e.cap 0)=false:=q1
  have q3:Nat.beq e.cap 0=true:=by simpa using q1
  rw[←hm,q3];rfl
theorem Sim.kmapS (h:Sim E ρ G F M nx w) {i:Nat} {ak av:Bool} {α:Type} {l:List α} {k v:α→List PL} (hi:M.get i=some (.kmap true ak av α l k v)):∃e es ms cl,ρ i=some e∧es.map (fun e=>(e.1,e.2.1))=l.map (fun x=>(aU ak (k x),aU av (v x)))∧bp E ρ es=some ms∧w.heap[e.b]?=some (.map ms.toArray cl)∧BOk es cl:=by
 obtain⟨e,ob,h1,h2,es,cl,ms,h3,h4,rfl,h5⟩:=h.obj hi
 exact⟨e,es,ms,cl,h1,h3,h4,h2,h5⟩
noncomputable def Jl (v:AV) (K:Nat→Bool) (K0:Bool):Bool:=match v with
 |.sy (.kmp i)=>K i
 |_=>K0
theorem Rs {v:AV} {K:Nat→Bool} {K0:Bool} (h:Jl v K K0=true):(∃i,v= .sy (.kmp i)∧K i=true)∨K0=true:=by
 unfold Jl at h
 split at h
 ·exact .inl ⟨_,rfl,h⟩
 ·exact .inr h
noncomputable def lkK (d:Nat) (et:ET) (zv:AV) (comma:Bool) (k:AV) (ak av:Bool) (α:Type) (l:List α) (kf vf:α→List PL) (K:AV→Bool):Bool:=
 ee fun Q:α→Prop=>ae (Rn d et k ak α l kf Q) (ae (aM (aq (∀x∈l,¬Q x)) (aM comma (K (.tup [zv,.bool false])) (K zv)) true) (aj fun x:α=>aM (aq (x∈l∧Q x)) (aM comma (K (.tup [aU av (vf x),.bool true])) (K (aU av (vf x)))) true))
noncomputable def lkX (d:Nat) (et:ET) (zv:AV) (comma:Bool) (m k:AV) (M:T) (K:AV→Bool):Bool:=
 nH d et k (Jl m (fun i=>jY M i fun sure ak av α l kf vf=>aM sure false (lkK d et zv comma k ak av α l kf vf K)) (nr m (aM comma (K (.tup [zv,.bool false])) (K zv)) fun i=>aM (FK M i) (jY M i fun sure ak av α l kf vf=>ae sure (lkK d et zv comma k ak av α l kf vf K)) (gL M i fun es _=>zO d et k es (aM comma (K (.tup [zv,.bool false])) (K zv)) fun _ e=>aM comma (K (.tup [e.2.1,.bool true])) (K e.2.1))))
theorem afU (h:Sim E ρ G F M nx w) {d:Nat} {et:ET} {zv:AV} {zx:Value} {comma:Bool} {m k:AV} {K:AV→Bool} {x y:Value} {t kt e:TypeId} (hd:d≤10000) (ht:P.underlying t=some (.map kt e)) (hc:cn P d et kt=true) (hz:∀w,(zeroValue e).run P w= .ok zx w) (hzv:den E ρ zv=some zx)
  (hm:den E ρ m=some x) (hk:den E ρ k=some y) (hg:lkX d et zv comma m k M K=true):∃u z,den E ρ u=some z∧K u=true∧(Instr.lookup t x y comma).run P w= .ok z w:=by
 obtain⟨g1,g2⟩:=nP d hc hk hg
 have none_:(aM comma (K (.tup [zv,.bool false])) (K zv))=true→∃u z,den E ρ u=some z∧K u=true∧z=(if comma then .tuple #[zx,.bool false] else zx):=by
  intro hh
  rcases aL hh with⟨rfl,hh⟩|⟨rfl,hh⟩
  ·exact⟨_,_,by simp only[den,ay,hzv];rfl,hh,by simp⟩
  ·exact⟨_,_,hzv,hh,by simp⟩
 have nil_:(aM comma (K (.tup [zv,.bool false])) (K zv))=true→x= .map none→∃u z,den E ρ u=some z∧K u=true∧(Instr.lookup t x y comma).run P w= .ok z w:=fun g3 e=>by
  subst e
  obtain⟨u,z,u1,u2,u3⟩:=none_ g3
  refine⟨u,z,u1,u2,?_⟩
  have hf:(Instr.findKey kt y []).run P w= .ok none w:=by
   obtain⟨dd,hu⟩:∃dd,P.underlying kt=some dd:=by
    cases d with
    |zero=>simp[cn]at hc
    |succ d=>
     unfold cn at hc
     rcases hq:P.underlying kt with _|dd
     ·rw[hq]at hc;cases et<;>simp at hc
     ·exact⟨dd,rfl⟩
   simp[Instr.findKey,run_underlying hu,Instr.findNow]
  subst u3
  cases comma<;>simp[Instr.lookup,run_underlying ht,g2 _ 10000 w hd,hf,hz]
 have made_:∀{ak av:Bool} {α:Type} {l:List α} {kf vf:α→List PL} {f:cM} {es:List (AV×AV×Nat)} {ms:List MapEntry} {cl:Nat},lkK d et zv comma k ak av α l kf vf K=true→x= .map (some f.b)→es.map (fun e=>(e.1,e.2.1))=l.map (fun x=>(aU ak (kf x),aU av (vf x)))→bp E ρ es=some ms→w.heap[f.b]?=some (.map ms.toArray cl)→∃u z,den E ρ u=some z∧K u=true∧(Instr.lookup t x y comma).run P w= .ok z w:=by
  intro ak av α l kf vf f es ms cl g4 ex fs f2 f3
  subst ex
  obtain⟨Q,g5⟩:=bk g4
  obtain⟨g6,g7⟩:=ac g5
  obtain⟨g8,g9⟩:=ac g7
  rcases yJ hd hc hk fs f2 (Gy g6) with⟨q1,q2⟩|⟨j,e',y',q1,q2,q3,q4⟩
  ·rw[prB_true.2 q1]at g8
   obtain⟨u,z,u1,u2,u3⟩:=none_ g8
   refine⟨u,z,u1,u2,?_⟩
   subst u3
   cases comma<;>simp[Instr.lookup,run_underlying ht,MapKept.run_getObj_map f3,g2 _ 10000 w hd,q2,hz]
  ·have g10:=aV g9 e'
   rw[prB_true.2 ⟨al7 q1,q2⟩]at g10
   have g10:(aM comma (K (.tup [aU av (vf e'),.bool true])) (K (aU av (vf e'))))=true:=g10
   rcases aL g10 with⟨rfl,q5⟩|⟨rfl,q5⟩
   ·exact⟨_,.tuple #[y',.bool true],by simp only[den,ay,q3],q5,by simp[Instr.lookup,run_underlying ht,MapKept.run_getObj_map f3,g2 _ 10000 w hd,q4]⟩
   ·exact⟨_,y',q3,q5,by simp[Instr.lookup,run_underlying ht,MapKept.run_getObj_map f3,g2 _ 10000 w hd,q4]⟩
 rcases Rs g1 with⟨i,rfl,g3⟩|g1
 ·obtain⟨sure,ak,av,α,l,kf,vf,hi,g4⟩:=gw g3
  rcases aL g4 with⟨_,g4⟩|⟨rfl,g4⟩
  ·cases g4
  obtain⟨f,f1,⟨ex,es,ms,cl,fs,f2,f3,_⟩|⟨e0,rfl⟩⟩:=h.kmap hi hm
  ·exact made_ g4 ex fs f2 f3
  ·obtain⟨Q,g5⟩:=bk g4
   obtain⟨g6,g7⟩:=ac g5
   obtain⟨g8,g9⟩:=ac g7
   rw[prB_true.2 (fun z hz=>by cases hz)]at g8
   exact nil_ g8 e0
 rcases il g1 with⟨rfl,g3⟩|⟨i,rfl,g3⟩
 ·cases hm
  obtain⟨u,z,u1,u2,u3⟩:=none_ g3
  refine⟨u,z,u1,u2,?_⟩
  have hf:(Instr.findKey kt y []).run P w= .ok none w:=by
   obtain⟨dd,hu⟩:∃dd,P.underlying kt=some dd:=by
    cases d with
    |zero=>simp[cn]at hc
    |succ d=>
     unfold cn at hc
     rcases hq:P.underlying kt with _|dd
     ·rw[hq]at hc;cases et<;>simp at hc
     ·exact⟨dd,rfl⟩
   simp[Instr.findKey,run_underlying hu,Instr.findNow]
  subst u3
  cases comma<;>simp[Instr.lookup,run_underlying ht,g2 _ 10000 w hd,hf,hz]
 ·rcases aL g3 with⟨_,g3⟩|⟨_,g3⟩
  ·obtain⟨sure,ak,av,α,l,kf,vf,hi,g4⟩:=gw g3
   obtain⟨hs,g4⟩:=ac g4
   subst hs
   obtain⟨f,es,ms,cl,f1,fs,f2,f3,_⟩:=h.kmapS hi
   simp only[den,f1,amm]at hm
   exact made_ g4 hm.symm fs f2 f3
  obtain⟨es,cl,hi,g4⟩:=dY g3
  obtain⟨f,ms,f1,f2,f3⟩:=h.map hi
  simp only[den,f1]at hm
  cases hm
  rcases tQ hd hc hk f2 g4 with⟨q1,q2⟩|⟨j,e',y',q1,q2,q3,q4⟩
  ·obtain⟨u,z,u1,u2,u3⟩:=none_ q1
   refine⟨u,z,u1,u2,?_⟩
   subst u3
   cases comma<;>simp[Instr.lookup,run_underlying ht,MapKept.run_getObj_map f3,g2 _ 10000 w hd,q2,hz]
  ·rcases aL q2 with⟨rfl,q5⟩|⟨rfl,q5⟩
   ·exact⟨_,.tuple #[y',.bool true],by simp only[den,ay,q3],q5,by simp[Instr.lookup,run_underlying ht,MapKept.run_getObj_map f3,g2 _ 10000 w hd,q4]⟩
   ·exact⟨_,y',q3,q5,by simp[Instr.lookup,run_underlying ht,MapKept.run_getObj_map f3,g2 _ 10000 w hd,q4]⟩
end
noncomputable def Ap (u v:AV):Bool:=AV.casesOn u false (fun k a=>fD v fun k2 b=>Bool.and (Nat.beq k k2) (mn a b)) (fun a=>GB v fun b=>Bool.rec (Bool.not b) b a) (fun l=>jh v fun m=>yL l m) (fun i o=>fO v fun j p=>Bool.and (Nat.beq i j) (Nat.beq o p)) (fun _ _ _ _=>false) (fun _=>false) false false false false false (fun _ _=>false) (fun _ _=>false) (fun _=>false) (fun _=>false) (fun _=>false) (fun _=>false) (fun _=>false)
noncomputable def sbL (l m:List AV):Bool:=List.rec (motive:=fun _=>List AV→Bool) (fun m=>List.casesOn m true (fun _ _=>false)) (fun x _ ih m=>List.casesOn m false (fun y r=>Bool.and (Ap x y) (ih r))) l m
noncomputable def sbX (u v:AV):Bool:=AV.casesOn u false (fun _ _=>Ap u v) (fun _=>Ap u v) (fun _=>Ap u v) (fun _ _=>Ap u v) (fun _ _ _ _=>false) (fun _=>false) false false false false false (fun _ _=>false) (fun _ _=>false) (fun _=>false) (fun l=>asAgg v fun m=>sbL l m) (fun _=>false) (fun _=>false) (fun _=>false)
noncomputable def ers {α:Type _} (l:List α):Nat→(List α→Bool)→Bool:=List.rec (fun _ _=>false) (fun x xs ih n K=>Nat.rec (K xs) (fun m _=>ih m fun r=>K (x::r)) n) l
theorem Mk {α:Type _}:∀{l:List α} {n:Nat} {K:List α→Bool},ers l n K=true→K (l.eraseIdx n)=true∧n<l.length
 |[],n,K,h=>by cases h
 |x::l,0,K,h=>⟨h,by simp⟩
 |x::l,n+1,K,h=>by
  have h':ers l n (fun r=>K (x::r))=true:=h
  obtain⟨h1,h2⟩:=Mk h'
  exact⟨by simpa using h1,by simp;omega⟩
section
variable {P:Program} {E:Env} {ρ:Ren} {G:GS} {F:List aH} {M:T} {nx:Nat} {w:World}
theorem mD {a b:Bool} (h:Bool.and a b=true):a=true∧b=true:=by
 have h':(a&&b)=true:=h
 simpa using h'
theorem pQ {u v:AV} {x y:Value} (h:Ap u v=true) (hx:den E ρ u=some x) (hy:den E ρ v=some y) (n:Nat):Instr.sameBits n x y=true:=by
 cases u<;>first|(cases h;done)|skip
 case int k a=>
  obtain⟨k2,b,rfl,h1⟩:=eZ h
  obtain⟨h2,h3⟩:=mD h1
  have h2:=al6 h2
  subst h2
  rw[mj,decide_eq_true_eq]at h3
  subst h3
  cases hx;cases hy
  unfold Instr.sameBits;simp
 case bool a=>
  obtain⟨b,rfl,h1⟩:=vF h
  cases hx;cases hy
  unfold Instr.sameBits
  cases a<;>cases b<;>first|rfl|cases h1
 case str l=>
  obtain⟨m,rfl,h1⟩:=fg h
  rw[ot,decide_eq_true_eq]at h1
  subst h1
  cases hx;cases hy
  unfold Instr.sameBits
  rw[beq_toListBytes];simp
 case ptr i o=>
  obtain⟨j,p,rfl,h1⟩:=eK h
  obtain⟨h2,h3⟩:=mD h1
  have h2:=al6 h2
  have h3:=al6 h3
  subst h2;subst h3
  rw[hx]at hy;cases hy
  simp only[den]at hx
  split at hx<;>cases hx
  unfold Instr.sameBits;simp
theorem JS:∀{l m:List AV} {xs ys:List Value},sbL l m=true→ay E ρ l=some xs→ay E ρ m=some ys→∀n,xs.length=ys.length∧(xs.zip ys).all (fun p=>Instr.sameBits n p.1 p.2)=true
 |[],[],xs,ys,_,hx,hy,n=>by simp[ay]at hx hy;subst hx;subst hy;simp
 |[],b::m,xs,ys,h,hx,hy,n=>by cases h
 |a::l,[],xs,ys,h,hx,hy,n=>by cases h
 |a::l,b::m,xs,ys,h,hx,hy,n=>by
  obtain⟨x,xs,h1,h2,rfl⟩:=bf hx
  obtain⟨y,ys,h3,h4,rfl⟩:=bf hy
  obtain⟨h5,h6⟩:=mD (a:=Ap a b) (b:=sbL l m) h
  obtain⟨h7,h8⟩:=JS h6 h2 h4 n
  refine⟨by simp[h7],?_⟩
  simp only[List.zip_cons_cons,List.all_cons,aml]
  exact⟨pQ h5 h1 h3 n,h8⟩
theorem aen {u v:AV} {x y:Value} (h:sbX u v=true) (hx:den E ρ u=some x) (hy:den E ρ v=some y):Instr.sameBits 10000 x y=true:=by
 cases u<;>first|(cases h;done)|skip
 case int k a=>exact pQ (u:=.int k a) h hx hy 10000
 case bool a=>exact pQ (u:=.bool a) h hx hy 10000
 case str a=>exact pQ (u:=.str a) h hx hy 10000
 case ptr i o=>exact pQ (u:=.ptr i o) h hx hy 10000
 case agg l=>
  obtain⟨m,rfl,h1⟩:=dz h
  simp only[den]at hx hy
  split at hx
  case h_2=>cases hx
  rename_i xs hxs
  split at hy
  case h_2=>cases hy
  rename_i ys hys
  cases hx;cases hy
  obtain⟨h2,h3⟩:=JS h1 hxs hys 9999
  show Instr.sameBits (9999+1) (.agg xs.toArray) (.agg ys.toArray)=true
  unfold Instr.sameBits
  simp only[aml,beq_iff_eq]
  exact⟨by simpa using h2,by simpa using h3⟩
theorem tW:∀{es:List (AV×AV×Nat)} {ms:List MapEntry} {k v:AV} {b:Nat} {x y:Value},bp E ρ es=some ms→den E ρ k=some x→den E ρ v=some y→bp E ρ (es++[(k,v,b)])=some (ms++[⟨x,y,b⟩])
 |[],ms,k,v,b,x,y,h,h1,h2=>by simp[bp]at h;subst h;simp[bp,h1,h2]
 |(k',v',b')::es,ms,k,v,b,x,y,h,h1,h2=>by
  obtain⟨x',y',ms',q1,q2,q3,rfl⟩:=cC h
  have:=tW q3 h1 h2 (b:=b)
  simp[bp,q1,q2,this]
theorem lz:∀{es:List (AV×AV×Nat)} {ms:List MapEntry} {i:Nat} {e:AV×AV×Nat},bp E ρ es=some ms→es[i]?=some e→∃x y,den E ρ e.1=some x∧den E ρ e.2.1=some y∧ms[i]?=some ⟨x,y,e.2.2⟩
 |[],ms,i,e,h,hi=>by simp at hi
 |(k',v',b')::es,ms,0,e,h,hi=>by
  obtain⟨x',y',ms',q1,q2,q3,rfl⟩:=cC h
  simp at hi;subst hi
  exact⟨x',y',q1,q2,rfl⟩
 |(k',v',b')::es,ms,i+1,e,h,hi=>by
  obtain⟨x',y',ms',q1,q2,q3,rfl⟩:=cC h
  obtain⟨x,y,h1,h2,h3⟩:=lz q3 (show es[i]?=some e by simpa using hi)
  exact⟨x,y,h1,h2,by simpa using h3⟩
theorem mw:∀{es:List (AV×AV×Nat)} {ms:List MapEntry},bp E ρ es=some ms→ms.length=es.length
 |[],ms,h=>by simp[bp]at h;subst h;rfl
 |(k',v',b')::es,ms,h=>by
  obtain⟨x',y',ms',q1,q2,q3,rfl⟩:=cC h
  simp[mw q3]
theorem tU:∀{es:List (AV×AV×Nat)} {ms:List MapEntry} {i:Nat} {k v:AV} {b:Nat} {x y:Value},bp E ρ es=some ms→den E ρ k=some x→den E ρ v=some y→bp E ρ (es.set i (k,v,b))=some (ms.set i ⟨x,y,b⟩)
 |[],ms,i,k,v,b,x,y,h,h1,h2=>by simp[bp]at h;subst h;simp[bp]
 |(k',v',b')::es,ms,0,k,v,b,x,y,h,h1,h2=>by
  obtain⟨x',y',ms',q1,q2,q3,rfl⟩:=cC h
  simp[bp,h1,h2,q3]
 |(k',v',b')::es,ms,i+1,k,v,b,x,y,h,h1,h2=>by
  obtain⟨x',y',ms',q1,q2,q3,rfl⟩:=cC h
  have:=tU q3 h1 h2 (i:=i) (b:=b)
  simp[bp,q1,q2,this]
theorem vy:∀{es:List (AV×AV×Nat)} {ms:List MapEntry} {i:Nat},bp E ρ es=some ms→bp E ρ (es.eraseIdx i)=some (ms.eraseIdx i)
 |[],ms,i,h=>by simp[bp]at h;subst h;simp[bp]
 |(k',v',b')::es,ms,0,h=>by
  obtain⟨x',y',ms',q1,q2,q3,rfl⟩:=cC h
  simpa using q3
 |(k',v',b')::es,ms,i+1,h=>by
  obtain⟨x',y',ms',q1,q2,q3,rfl⟩:=cC h
  have:=vy q3 (i:=i)
  simp[bp,q1,q2,this]
theorem Sim.mapTurn (h:Sim E ρ G F M nx w) {i:Nat} {es es':List (AV×AV×Nat)} {cl cl':Nat} {e:cM} {ms':List MapEntry} {M':T} (hi:M.get i=some (.map es cl)) (he:ρ i=some e) (hd:bp E ρ es'=some ms') (h1:M'.get i=some (.map es' cl')) (h2:∀m,m≠i→M'.get m=M.get m):
  Sim E ρ G F M' nx {w with heap:=w.heap.setIfInBounds e.b (.map ms'.toArray cl')}:=by
 obtain⟨e',ms,q1,q2,q3⟩:=h.map hi
 rw[he]at q1;cases q1
 have hlt:=bn q3
 exact h.turn (o':=.map es' cl') (ob':=.map ms'.toArray cl') hi he rfl rfl rfl (fun b _ hb=>by
  have:¬e.b=b:=fun q=>hb q.symm
  simp[this]) (by simp[hlt]) ⟨ms',hd,rfl⟩ h1 h2
theorem _root_.Go.Sy.BOk.app {es:List (AV×AV×Nat)} {cl:Nat} {k v:AV} (h:BOk es cl):BOk (es++[(k,v,cl)]) (cl+1):=by
 refine⟨?_,fun e he=> ?_⟩
 ·rw[amg,List.nodup_append]
  refine⟨h.1,by simp,fun a ha b hb=> ?_⟩
  obtain⟨e,he,rfl⟩:=List.mem_map.1 ha
  have:=h.2 e he
  simp only[al9,List.map_nil,List.mem_singleton]at hb
  omega
 ·rcases amh.1 he with he|he
  ·have:=h.2 e he;omega
  ·simp only[List.mem_singleton]at he;subst he;exact Nat.lt_succ_self _
theorem _root_.Go.Sy.BOk.set {es:List (AV×AV×Nat)} {cl j:Nat} {k v k0 v0:AV} {b:Nat} (h:BOk es cl) (hj:es[j]?=some (k0,v0,b)):BOk (es.set j (k,v,b)) cl:=by
 have e1:(es.set j (k,v,b)).map (fun e=>e.2.2)=es.map (fun e=>e.2.2):=by
  rw[List.map_set]
  have hlt:=(List.getElem?_eq_some_iff.1 hj).1
  have:(es.map (fun e=>e.2.2))[j]?=some b:=by rw[amn,hj];rfl
  refine List.ext_getElem? fun q=> ?_
  by_cases e:j=q
  ·subst e
   rw[List.getElem?_set_self (by simpa using hlt),this]
  ·rw[List.getElem?_set_ne e]
 refine⟨by rw[e1];exact h.1,fun e he=> ?_⟩
 rcases List.mem_or_eq_of_mem_set he with he|rfl
 ·exact h.2 e he
 ·exact h.2 (k0,v0,b) (al7 hj)
theorem Sim.kmapTurn (h:Sim E ρ G F M nx w) {i:Nat} {ak av:Bool} {α:Type} {l:List α} {kf vf:α→List PL} {y:α} {e:cM} {es:List (AV×AV×Nat)} {ms:List MapEntry} {x z:Value} {cl:Nat} {M':T} (hi:M.get i=some (.kmap true ak av α l kf vf)) (he:ρ i=some e)
  (hs:es.map (fun e=>(e.1,e.2.1))=l.map (fun x=>(aU ak (kf x),aU av (vf x)))) (hd:bp E ρ es=some ms) (h3:w.heap[e.b]?=some (.map ms.toArray cl)) (hb4:BOk es cl) (hk:den E ρ (aU ak (kf y))=some x) (hv:den E ρ (aU av (vf y))=some z)
  (h1:M'.get i=some (.kmap true ak av α (l++[y]) kf vf)) (h2:∀m,m≠i→M'.get m=M.get m):
  Sim E ρ G F M' nx {w with heap:=w.heap.setIfInBounds e.b (.map (ms++[(⟨x,z,cl⟩:MapEntry)]).toArray (cl+1))}:=by
 have hlt:=bn h3
 exact h.turn (o':=.kmap true ak av α (l++[y]) kf vf) (ob':=.map (ms++[(⟨x,z,cl⟩:MapEntry)]).toArray (cl+1)) hi he rfl rfl rfl (fun b _ hb=>by
  have:¬e.b=b:=fun q=>hb q.symm
  simp[this]) (by simp[hlt]) ⟨es++[(aU ak (kf y),aU av (vf y),cl)],cl+1,ms++[(⟨x,z,cl⟩:MapEntry)],by simp[hs],tW hd hk hv,rfl,hb4.app⟩ h1 h2
theorem Sim.kmapSet (h:Sim E ρ G F M nx w) {i:Nat} {ak av:Bool} {α:Type} {l l':List α} {kf vf:α→List PL} {e:cM} {es:List (AV×AV×Nat)} {ms:List MapEntry} {cl:Nat} {M':T} (hi:M.get i=some (.kmap true ak av α l kf vf)) (he:ρ i=some e)
  (hs:es.map (fun e=>(e.1,e.2.1))=l'.map (fun x=>(aU ak (kf x),aU av (vf x)))) (hd:bp E ρ es=some ms) (hlt:e.b<w.heap.size) (hb4:BOk es cl)
  (h1:M'.get i=some (.kmap true ak av α l' kf vf)) (h2:∀m,m≠i→M'.get m=M.get m):
  Sim E ρ G F M' nx {w with heap:=w.heap.setIfInBounds e.b (.map ms.toArray cl)}:=
 h.turn (o':=.kmap true ak av α l' kf vf) (ob':=.map ms.toArray cl) hi he rfl rfl rfl (fun b _ hb=>by
  have:¬e.b=b:=fun q=>hb q.symm
  simp[this]) (by simp[hlt]) ⟨es,cl,ms,hs,hd,rfl,hb4⟩ h1 h2
noncomputable def afw (M:T) (nx:Nat) (K:AV→T→Nat→Bool):Bool:=T.set aP M nx (some (.map [] 0)) fun M'=>fN (Nat.succ nx) fun n=>K (.map nx) M' n
theorem Yd (h:Sim E ρ G F M nx w) {K:AV→T→Nat→Bool} (hk:afw M nx K=true) {t:TypeId} {kt e:TypeId} (ht:P.underlying t=some (.map kt e)) {hint:Option Value} (hh:∀v,hint=some v→∃k n,v= .int k n):
  ∃v M' nx' ρ' w' x,ρ.Le ρ'∧Sim E ρ' G F M' nx' w'∧K v M' nx'=true∧den E ρ' v=some x∧(Instr.makeMap t hint).run P w= .ok x w':=by
 obtain⟨M',k1,k2,k3⟩:=T.set_ok _ _ _ _ _ hk
 rw[bt]at k1
 have hn:=h.fresh nx (amj _)
 refine⟨_,M',_,ρ.set nx ⟨w.heap.size,0⟩,w.alloc (.map #[] 0),Value.map (some w.heap.size),Ren.le_set _ hn,h.alloc (o:=.map [] 0) (ob:=.map #[] 0) hn (Nat.le_succ _) (Nat.lt_succ_self _) (cap:=0) ⟨[],rfl,rfl⟩ k2 k3,k1,by simp[den,Ren.set_self],?_⟩
 rcases hint with _|v
 ·simp[Instr.makeMap,newObj,Sem.run]
 ·obtain⟨k,n,rfl⟩:=hh v rfl
  simp[Instr.makeMap,run_underlying ht,asInt,asIntOf,newObj,Sem.run]
noncomputable def yF (v:AV):Bool:=match v with
 |.int _ _=>true
 |.bool _=>true
 |.sy (.int _ _)=>true
 |_=>false
noncomputable def Us (v:AV):Bool:=match v with
 |.agg l=>List.rec true (fun c _ ih=>Bool.rec false ih (yF c)) l
 |v=>yF v
theorem Lj {v:AV} {x:Value} (h:yF v=true) (hd:den E ρ v=some x) (n:Nat):Instr.sameBits n x x=true:=by
 unfold yF at h
 split at h<;>first|(cases h;done)|(simp[den,aJ]at hd;subst hd;cases n<;>simp[Instr.sameBits])
theorem Li {n:Nat}:∀{l:List AV} {xs:List Value},(List.rec true (fun c _ ih=>Bool.rec false ih (yF c)) l:Bool)=true→ay E ρ l=some xs→∀x∈xs,Instr.sameBits n x x=true
 |[],xs,_,h=>by simp[ay]at h;subst h;simp
 |v::r,xs,hk,h=>by
  obtain⟨x,ys,h1,h2,rfl⟩:=bf h
  have hk':(Bool.rec false (List.rec true (fun c _ ih=>Bool.rec false ih (yF c)) r) (yF v):Bool)=true:=hk
  cases hv:yF v with
  |false=>rw[hv]at hk';cases hk'
  |true=>
   rw[hv]at hk'
   intro z hz
   rcases List.mem_cons.1 hz with rfl|hz
   ·exact Lj hv h1 n
   ·exact Li hk' h2 z hz
theorem pM {f:Value×Value→Bool}:∀{l:List Value},(∀x∈l,f (x,x)=true)→(l.zip l).all f=true
 |[],_=>rfl
 |x::l,h=>by
  simp only[List.zip_cons_cons,List.all_cons,aml]
  exact⟨h x (by simp),pM fun y hy=>h y (by simp[hy])⟩
theorem af1 {v:AV} {x:Value} (h:Us v=true) (hd:den E ρ v=some x):Instr.sameBits 10000 x x=true:=by
 unfold Us at h
 split at h
 ·simp only[den]at hd
  split at hd
  case h_2=>cases hd
  rename_i cs hcs
  cases hd
  show Instr.sameBits (9999+1) _ _=true
  simp only[Instr.sameBits,beq_self_eq_true,Bool.true_and]
  exact pM fun y hy=>Li h hcs y hy
 ·exact Lj h hd _
noncomputable def muX (d:Nat) (et:ET) (m k v:AV) (M:T) (K:T→Bool):Bool:=
 nH d et k (nr m false fun i=>aM (FK M i) (jY M i fun sure ak av α l kf vf=>ae sure (ee fun Q:α→Prop=>ae (Rn d et k ak α l kf Q) (ae (aM (aq (∀x∈l,¬Q x)) (ee fun x:α=>ae (aq (aU ak (kf x)=k)) (ae (aq (aU av (vf x)=v)) (T.set aP M i (some (.kmap true ak av α (l++[x]) kf vf)) K))) true)
  (aj fun j:Nat=>aj fun x0:α=>aM (aq (l[j]?=some x0∧Q x0)) (ae (Us k) (ee fun x:α=>ae (aq (aU ak (kf x0)=k∧aU ak (kf x)=k)) (ae (aq (aU av (vf x)=v)) (T.set aP M i (some (.kmap true ak av α (l.set j x) kf vf)) K)))) true)))) (gL M i fun es cl=>zO d et k es
  (app es [(k,v,cl)] fun es'=>fN (Nat.succ cl) fun cl'=>T.set aP M i (some (.map es' cl')) K)
  fun j e=>ae (sbX e.1 k) (upd es j [(k,v,e.2.2)] fun es'=>T.set aP M i (some (.map es' cl)) K)))
theorem afp (h:Sim E ρ G F M nx w) {d:Nat} {et:ET} {m k v:AV} {K:T→Bool} {x y z:Value} {t kt e:TypeId} (hd:d≤10000) (ht:P.underlying t=some (.map kt e)) (hc:cn P d et kt=true) (hm:den E ρ m=some x) (hk:den E ρ k=some y) (hv:den E ρ v=some z)
  (hg:muX d et m k v M K=true):∃M' w',Sim E ρ G F M' nx w'∧K M'=true∧(Instr.mapUpdate t x y z).run P w= .ok () w':=by
 obtain⟨g1,g2⟩:=nP d hc hk hg
 rcases il g1 with⟨_,g3⟩|⟨i,rfl,g3⟩
 ·cases g3
 rcases aL g3 with⟨_,g3⟩|⟨_,g3⟩
 ·obtain⟨sure,ak,av,α,l,kf,vf,hi,g4⟩:=gw g3
  obtain⟨hsu,g4⟩:=ac g4
  subst hsu
  obtain⟨Q,g5⟩:=bk g4
  obtain⟨g6,g7⟩:=ac g5
  obtain⟨g8,g9⟩:=ac g7
  obtain⟨f,es,ms,cl,f1,fs,f2,f3,f4⟩:=h.kmapS hi
  simp only[den,f1]at hm
  cases hm
  rcases yJ hd hc hk fs f2 (Gy g6) with⟨q1,q2⟩|⟨j,e',y',q1,q2,q3,q4⟩
  ·rw[prB_true.2 q1]at g8
   obtain⟨y0,g10⟩:=bk (show(ee fun x:α=>ae (aq (aU ak (kf x)=k)) (ae (aq (aU av (vf x)=v)) (T.set aP M i (some (.kmap true ak av α (l++[x]) kf vf)) K)))=true from g8)
   obtain⟨g11,g12⟩:=ai g10
   obtain⟨g13,g14⟩:=ai g12
   obtain⟨M',k1,k2,k3⟩:=T.set_ok _ _ _ _ _ g14
   refine⟨M',_,h.kmapTurn hi f1 fs f2 f3 f4 (by rw[g11];exact hk) (by rw[g13];exact hv) k2 k3,k1,?_⟩
   simp[Instr.mapUpdate,run_underlying ht,MapKept.run_getObj_map f3,g2 _ 10000 w hd,q2,MapKept.run_setObj_map _ f3]
  ·have g10:=aV (aV g9 j) e'
   rw[prB_true.2 ⟨q1,q2⟩]at g10
   obtain⟨ky,g10⟩:=ac (show(ae (Us k) (ee fun x:α=>ae (aq (aU ak (kf e')=k∧aU ak (kf x)=k)) (ae (aq (aU av (vf x)=v)) (T.set aP M i (some (.kmap true ak av α (l.set j x) kf vf)) K))))=true from g10)
   obtain⟨y0,g10⟩:=bk g10
   obtain⟨⟨g11,g11'⟩,g12⟩:=ai g10
   obtain⟨g13,g14⟩:=ai g12
   obtain⟨M',k1,k2,k3⟩:=T.set_ok _ _ _ _ _ g14
   have hl:=congrArg (fun a:List (AV×AV)=>a[j]?) fs
   simp only[amn,q1,Option.map_some]at hl
   obtain⟨⟨ke,ve,be⟩,hj,hje⟩:=Option.map_eq_some_iff.1 hl
   simp only[Prod.mk.injEq]at hje
   obtain⟨rfl,rfl⟩:=hje
   obtain⟨xk,yv,r1,r2,r3⟩:=lz f2 hj
   simp only[g11]at r1
   rw[hk]at r1
   cases r1
   have hlt:=bn f3
   refine⟨M',_,h.kmapSet (l':=l.set j y0) (es:=es.set j (aU ak (kf y0),aU av (vf y0),be)) (cl:=cl) hi f1 (by simp only[List.map_set,fs]) (tU (i:=j) f2 (by rw[g11'];exact hk) (by rw[g13];exact hv)) hlt (f4.set hj) k2 k3,k1,?_⟩
   have hm:(ms.toArray.modify j fun e=>{e with key:=y,val:=z})=(ms.set j ⟨y,z,be⟩).toArray:=by
    apply Array.ext'
    simp only[Array.toList_modify,List.toList_toArray]
    refine List.ext_getElem? fun q=> ?_
    have hlt:=(List.getElem?_eq_some_iff.1 r3).1
    by_cases hq:j=q
    ·subst hq
     rw[List.getElem?_modify_eq,r3,List.getElem?_set_self hlt]
     rfl
    ·rw[List.getElem?_modify_ne _ _ hq,List.getElem?_set_ne hq]
   have hstay:(Instr.keyThatStays (((ms.toArray[j]?).map (·.key)).getD y) y).run P w= .ok y w:=by
    simp[r3,Instr.keyThatStays,af1 ky hk]
   simp only[Instr.mapUpdate,amf,run_underlying ht,ame,MapKept.run_getObj_map f3,g2 _ 10000 w hd,q4,hstay,MapKept.run_setObj_map _ f3]
   rw[hm]
 obtain⟨es,cl,hi,g4⟩:=dY g3
 obtain⟨f,ms,f1,f2,f3⟩:=h.map hi
 simp only[den,f1]at hm
 cases hm
 rcases tQ hd hc hk f2 g4 with⟨q1,q2⟩|⟨j,e',y',q1,q2,q3,q4⟩
 ·rw[ox,bt]at q1
  obtain⟨M',k1,k2,k3⟩:=T.set_ok _ _ _ _ _ q1
  refine⟨M',_,h.mapTurn hi f1 (tW f2 hk hv) k2 k3,k1,?_⟩
  simp[Instr.mapUpdate,run_underlying ht,MapKept.run_getObj_map f3,g2 _ 10000 w hd,q2,MapKept.run_setObj_map _ f3]
 ·obtain⟨hs,q5⟩:=ac q2
  obtain⟨q6,hle⟩:=bG q5
  obtain⟨M',k1,k2,k3⟩:=T.set_ok _ _ _ _ _ q6
  obtain⟨xk,yv,r1,r2,r3⟩:=lz f2 q1
  have hset:es.take j++[(k,v,e'.2.2)]++es.drop (j+[(k,v,e'.2.2)].length)=es.set j (k,v,e'.2.2):=by
   simp at hle
   rw[List.set_eq_take_append_cons_drop,if_pos (by omega)]
   simp
  rw[hset]at k2
  refine⟨M',_,h.mapTurn hi f1 (tU (i:=j) f2 hk hv) k2 k3,k1,?_⟩
  have hm:(ms.toArray.modify j fun e=>{e with key:=y,val:=z})=(ms.set j ⟨y,z,e'.2.2⟩).toArray:=by
   apply Array.ext'
   simp only[Array.toList_modify,List.toList_toArray]
   refine List.ext_getElem? fun q=> ?_
   have hlt:=(List.getElem?_eq_some_iff.1 r3).1
   by_cases hq:j=q
   ·subst hq
    rw[List.getElem?_modify_eq,r3,List.getElem?_set_self hlt]
    rfl
   ·rw[List.getElem?_modify_ne _ _ hq,List.getElem?_set_ne hq]
  have hstay:(Instr.keyThatStays (((ms.toArray[j]?).map (·.key)).getD y) y).run P w= .ok y w:=by
   simp[r3,Instr.keyThatStays,aen hs r1 hk]
  simp only[Instr.mapUpdate,amf,run_underlying ht,ame,MapKept.run_getObj_map f3,g2 _ 10000 w hd,q4,hstay,MapKept.run_setObj_map _ f3]
  rw[hm]
noncomputable def agS (d:Nat) (et:ET) (m k:AV) (M:T) (K:T→Bool):Bool:=
 nH d et k (nr m (K M) fun i=>gL M i fun es cl=>zO d et k es (T.set aP M i (some (.map es cl)) K) fun j _=>ers es j fun es'=>T.set aP M i (some (.map es' cl)) K)
theorem ZL (h:Sim E ρ G F M nx w) {d:Nat} {et:ET} {m k:AV} {K:T→Bool} {x y:Value} {t t2 kt e ty:TypeId} (hd:d≤10000) (ht:P.underlying t=some (.map kt e)) (hc:cn P d et kt=true) (hm:den E ρ m=some x) (hk:den E ρ k=some y)
  (hg:agS d et m k M K=true):∃M' w',Sim E ρ G F M' nx w'∧K M'=true∧(Builtin.delete_ #[t,t2] ty #[x,y]).run P w= .ok (.tuple #[]) w':=by
 obtain⟨g1,g2⟩:=nP d hc hk hg
 rcases il g1 with⟨rfl,g3⟩|⟨i,rfl,g3⟩
 ·cases hm
  exact⟨M,w,h,g3,by simp[Builtin.delete_,run_underlying ht,g2 _ 10000 w hd]⟩
 obtain⟨es,cl,hi,g4⟩:=dY g3
 obtain⟨f,ms,f1,f2,f3⟩:=h.map hi
 simp only[den,f1]at hm
 cases hm
 rcases tQ hd hc hk f2 g4 with⟨q1,q2⟩|⟨j,e',y',q1,q2,q3,q4⟩
 ·obtain⟨M',k1,k2,k3⟩:=T.set_ok _ _ _ _ _ q1
  exact⟨M',_,h.mapTurn hi f1 f2 k2 k3,k1,by simp[Builtin.delete_,run_underlying ht,MapKept.run_getObj_map f3,g2 _ 10000 w hd,q2,MapKept.run_setObj_map _ f3]⟩
 ·obtain⟨q5,hlt⟩:=Mk q2
  obtain⟨M',k1,k2,k3⟩:=T.set_ok _ _ _ _ _ q5
  refine⟨M',_,h.mapTurn hi f1 (vy (i:=j) f2) k2 k3,k1,?_⟩
  have hm:ms.toArray.eraseIdxIfInBounds j=(ms.eraseIdx j).toArray:=by
   have hl:=mw f2
   rw[Array.eraseIdxIfInBounds,dif_pos (by simp;omega)]
   simp
  simp[Builtin.delete_,run_underlying ht,MapKept.run_getObj_map f3,g2 _ 10000 w hd,q4,MapKept.run_setObj_map _ f3,hm]
noncomputable def afy (m:AV) (M:T) (K:T→Bool):Bool:=nr m (K M) fun i=>aM (FK M i) (jY M i fun sure ak av α l kf vf=>ae sure (T.set aP M i (some (.kmap true ak av α [] kf vf)) K)) (gL M i fun _ cl=>T.set aP M i (some (.map [] cl)) K)
theorem Yh (h:Sim E ρ G F M nx w) {m:AV} {K:T→Bool} {x:Value} {t kt e ty:TypeId} (ht:P.underlying t=some (.map kt e)) (hm:den E ρ m=some x) (hg:afy m M K=true):
  ∃M' w',Sim E ρ G F M' nx w'∧K M'=true∧(Builtin.clear_ #[t] ty #[x]).run P w= .ok (.tuple #[]) w':=by
 rcases il hg with⟨rfl,g3⟩|⟨i,rfl,g3⟩
 ·cases hm
  exact⟨M,w,h,g3,by simp[Builtin.clear_,run_underlying ht]⟩
 rcases aL g3 with⟨_,g3⟩|⟨_,g3⟩
 ·obtain⟨sure,ak,av,α,l,kf,vf,hi,g4⟩:=gw g3
  obtain⟨hsu,g5⟩:=ac g4
  clear g4
  subst hsu
  obtain⟨f,es,ms,cl,f1,fs,f2,f3,f4⟩:=h.kmapS hi
  simp only[den,f1]at hm
  cases hm
  obtain⟨M',k1,k2,k3⟩:=T.set_ok _ _ _ _ _ g5
  exact⟨M',_,h.kmapSet (l':=[]) (es:=[]) (ms:=[]) (cl:=cl) hi f1 rfl rfl (bn f3) ⟨List.nodup_nil,fun e he=>(by cases he)⟩ k2 k3,k1,by simp[Builtin.clear_,run_underlying ht,MapKept.run_getObj_map f3,MapKept.run_setObj_map _ f3]⟩
 obtain⟨es,cl,hi,g4⟩:=dY g3
 obtain⟨f,ms,f1,f2,f3⟩:=h.map hi
 simp only[den,f1]at hm
 cases hm
 obtain⟨M',k1,k2,k3⟩:=T.set_ok _ _ _ _ _ g4
 exact⟨M',_,h.mapTurn hi f1 (es':=[]) (ms':=[]) rfl k2 k3,k1,by simp[Builtin.clear_,run_underlying ht,MapKept.run_getObj_map f3,MapKept.run_setObj_map _ f3]⟩
end
end Go.Sy
namespace Go.Sy
open Go Go.RowKit Go.Eng
open Go.ChangeMaps (setBlock)
section
variable {P:Program} {E:Env} {ρ:Ren} {G:GS} {F:List aH} {M:T} {nx:Nat} {w:World}
noncomputable def TQ (v:AV) (K:AV→Bool):Bool:=jh v fun l=>fN (cj l) fun n=>K (.int 0 (.ofNat n))
theorem NH {v:AV} {K:AV→Bool} {x:Value} {t ty:TypeId} (ht:P.underlying t=some .string) (hv:den E ρ v=some x) (hk:TQ v K=true):∃u z,den E ρ u=some z∧K u=true∧∀(cs:Array Bool) w,(builtin .len #[t] ty cs #[x]).run P w= .ok (.value z) w:=by
 obtain⟨l,rfl,k1⟩:=fg hk
 rw[bt,bB]at k1
 cases hv
 refine⟨_,_,rfl,k1,fun cs w=> ?_⟩
 have h1:ByteArray.size ⟨(l.map UInt8.ofNat).toArray⟩=l.length:=by simp[ByteArray.size]
 simp[builtin,Builtin.len_,h1,goInt,run_underlying ht,ca]
noncomputable def afX (v:AV) (K:AV→Bool):Bool:=kz v (K (.int 0 (.ofNat 0))) fun _ _ n _=>K (.int 0 (.ofNat n))
theorem Yu {v:AV} {K:AV→Bool} {x:Value} {t ty e:TypeId} (ht:P.underlying t=some (.slice e)) (hv:den E ρ v=some x) (hk:afX v K=true):∃u z,den E ρ u=some z∧K u=true∧∀(cs:Array Bool) w,(builtin .len #[t] ty cs #[x]).run P w= .ok (.value z) w:=by
 rcases fC hk with⟨rfl,k1⟩|⟨i,o,n,c,rfl,k1⟩
 ·cases hv
  exact⟨_,_,rfl,k1,fun cs w=>by simp[builtin,Builtin.len_,goInt,run_underlying ht,ca]⟩
 ·simp only[den]at hv
  split at hv
  ·cases hv
   exact⟨_,_,rfl,k1,fun cs w=>by simp[builtin,Builtin.len_,goInt,run_underlying ht,ca]⟩
  ·cases hv
noncomputable def ag7 (v:AV) (K:AV→Bool):Bool:=kz v (K (.int 0 (.ofNat 0))) fun _ _ _ c=>ACap.casesOn c (fun n=>K (.int 0 (.ofNat n))) (fun _=>false)
theorem ZX {v:AV} {K:AV→Bool} {x:Value} {t ty e:TypeId} (ht:P.underlying t=some (.slice e)) (hv:den E ρ v=some x) (hk:ag7 v K=true):∃u z,den E ρ u=some z∧K u=true∧∀(cs:Array Bool) w,(builtin .cap #[t] ty cs #[x]).run P w= .ok (.value z) w:=by
 rcases fC hk with⟨rfl,k1⟩|⟨i,o,n,c,rfl,k1⟩
 ·cases hv
  exact⟨_,_,rfl,k1,fun cs w=>by simp[builtin,Builtin.cap_,goInt,run_underlying ht,ca]⟩
 ·simp only[den]at hv
  split at hv
  ·cases hv
   cases c with
   |ex c=>exact⟨_,_,rfl,k1,fun cs w=>by simp[builtin,Builtin.cap_,goInt,run_underlying ht,ca,cw]⟩
   |rest k=>cases k1
  ·cases hv
noncomputable def Un (v:AV) (M:T) (K:AV→Bool):Bool:=nr v (K (.int 0 (.ofNat 0))) fun i=>aM (FK M i) (jY M i fun sure ak av α l kf vf=>ae sure (K (.sy (.int 0 (l.length:Int))))) (gL M i fun es _=>fN (cj es) fun n=>K (.int 0 (.ofNat n)))
theorem Pf (h:Sim E ρ G F M nx w) {v:AV} {K:AV→Bool} {x:Value} {t ty kt e:TypeId} (ht:P.underlying t=some (.map kt e)) (hv:den E ρ v=some x) (hk:Un v M K=true):∃u z,den E ρ u=some z∧K u=true∧∀cs:Array Bool,(builtin .len #[t] ty cs #[x]).run P w= .ok (.value z) w:=by
 rcases il hk with⟨rfl,k1⟩|⟨i,rfl,k1⟩
 ·cases hv
  exact⟨_,_,rfl,k1,fun cs=>by simp[builtin,Builtin.len_,goInt,run_underlying ht,ca]⟩
 ·rcases aL k1 with⟨_,k1⟩|⟨_,k1⟩
  ·obtain⟨sure,ak,av,α,l,kf,vf,hi,g4⟩:=gw k1
   obtain⟨hsu,g5⟩:=ac g4
   clear g4
   subst hsu
   obtain⟨f,es,ms,cl,f1,fs,f2,f3,_⟩:=h.kmapS hi
   simp only[den,f1]at hv
   cases hv
   refine⟨_,_,rfl,g5,fun cs=> ?_⟩
   have h1:=mw f2
   have h2:=congrArg List.length fs
   simp only[al4]at h2
   simp[builtin,Builtin.len_,goInt,run_underlying ht,ca,MapKept.run_getObj_map f3,h1,h2]
  obtain⟨es,cl,hi,k2⟩:=dY k1
  rw[bt,bB]at k2
  obtain⟨f,ms,f1,f2,f3⟩:=h.map hi
  simp only[den,f1]at hv
  cases hv
  refine⟨_,_,rfl,k2,fun cs=> ?_⟩
  have:=mw f2
  simp[builtin,Builtin.len_,goInt,run_underlying ht,ca,MapKept.run_getObj_map f3,this]
noncomputable def mxX (mx:Bool) (v1 v2:AV) (K:AV→Bool):Bool:=fD v1 fun k a=>fD v2 fun k2 b=>ae (Nat.beq k k2) (aM (lX a b) (aM mx (K v2) (K v1)) (aM mx (K v1) (K v2)))
theorem afo {mx:Bool} {v1 v2:AV} {K:AV→Bool} {x y:Value} {ta:Array TypeId} {ty:TypeId} (h1:den E ρ v1=some x) (h2:den E ρ v2=some y) (hk:mxX mx v1 v2 K=true):
  ∃u z,den E ρ u=some z∧K u=true∧∀(cs:Array Bool) w,(builtin (bif mx then .max else .min) ta ty cs #[x,y]).run P w= .ok (.value z) w:=by
 obtain⟨k,a,b,rfl,rfl,g⟩:=iK (f:=fun k a b=>aM (lX a b) (aM mx (K v2) (K v1)) (aM mx (K v1) (K v2))) hk
 cases h1;cases h2
 rw[oa]at g
 rcases aL g with⟨q,g⟩|⟨q,g⟩
 ·have q:a<b:=of_decide_eq_true q
  rcases aL g with⟨rfl,g⟩|⟨rfl,g⟩
  ·exact⟨_,_,rfl,g,fun cs w=>by simp[builtin,Builtin.max_,Builtin.max2,q]⟩
  ·exact⟨_,_,rfl,g,fun cs w=>by
    have:¬b<a:=by omega
    simp[builtin,Builtin.min_,Builtin.min2,this]⟩
 ·have q:¬a<b:=of_decide_eq_false q
  rcases aL g with⟨rfl,g⟩|⟨rfl,g⟩
  ·exact⟨_,_,rfl,g,fun cs w=>by simp[builtin,Builtin.max_,Builtin.max2,q]⟩
  ·refine⟨_,_,rfl,g,fun cs w=> ?_⟩
   by_cases e:b<a
   ·simp[builtin,Builtin.min_,Builtin.min2,e]
   ·have:a=b:=by omega
    subst this
    simp[builtin,Builtin.min_,Builtin.min2]
noncomputable def agI (i:Nat) (v:AV) (K:AV→Bool):Bool:=UM v fun l=>bF (bS l i) K
theorem ZI {i:Nat} {v:AV} {K:AV→Bool} {x:Value} (hv:den E ρ v=some x) (hk:agI i v K=true):∃u z,den E ρ u=some z∧K u=true∧∀w,(Instr.extract x i).run P w= .ok z w:=by
 obtain⟨l,rfl,k1⟩:=Rp hk
 obtain⟨u,hu,k2⟩:=aT k1
 rw[cx]at hu
 simp only[den]at hv
 split at hv
 ·rename_i xs hd
  cases hv
  obtain⟨z,h1,h2⟩:=eS hd hu
  exact⟨u,z,h1,k2,fun w=>by simp[Instr.extract,h2]⟩
 ·cases hv
noncomputable def aeh (v iv:AV) (K:AV→Bool):Bool:=jh v fun l=>rK iv fun _ n=>bF (bS l n) fun c=>ae (Nat.blt c 256) (K (.int 1 (.ofNat c)))
theorem Wc {v iv:AV} {K:AV→Bool} {x y:Value} {t:TypeId} (ht:P.underlying t=some .string) (hv:den E ρ v=some x) (hi:den E ρ iv=some y) (hk:aeh v iv K=true):∃u z,den E ρ u=some z∧K u=true∧∀w,(Instr.index t x y).run P w= .ok z w:=by
 obtain⟨l,rfl,k1⟩:=fg hk
 obtain⟨kd,n,rfl,k2⟩:=mF k1
 obtain⟨c,hc,k3⟩:=aT k2
 obtain⟨hb,k4⟩:=ac k3
 rw[amq]at hb
 rw[cx]at hc
 cases hv;cases hi
 refine⟨_,_,rfl,k4,fun w=> ?_⟩
 have hlt:=(List.getElem?_eq_some_iff.1 hc).1
 have hg:(ByteArray.data ⟨(l.map UInt8.ofNat).toArray⟩)[n]?=some (UInt8.ofNat c):=by simp[hc]
 have h1:ByteArray.size ⟨(l.map UInt8.ofNat).toArray⟩=l.length:=by simp[ByteArray.size]
 have hx:l[n]'hlt=c:=(List.getElem?_eq_some_iff.1 hc).2
 simp[Instr.index,run_underlying ht,asIntOf,h1,hlt,ca]
 show(((((l.map UInt8.ofNat).toArray)[n]'(by simp;omega)).toNat:Nat):Int)=c
 simp[hx]
 omega
noncomputable def itX (mi:Option Nat) (cl:Nat) (M:T) (nx:Nat) (K:AV→T→Nat→Bool):Bool:=T.set aP M nx (some (.iter mi cl [] cl)) fun M'=>fN (Nat.succ nx) fun n=>K (.ptr nx 0) M' n
noncomputable def eH (ak av:Bool) {α:Type} (k v:α→List PL) (l:List α) (bs:List Nat):List (AV×AV×Nat):=List.zipWith (fun x b=>(aU ak (k x),aU av (v x),b)) l bs
theorem Gc {ak av:Bool} {α:Type} {k v:α→List PL}:∀{l:List α} {es:List (AV×AV×Nat)},es.map (fun e=>(e.1,e.2.1))=l.map (fun x=>(aU ak (k x),aU av (v x)))→es=eH ak av k v l (es.map fun e=>e.2.2)
 |[],[],_=>rfl
 |[],_::_,h=>by simp at h
 |_::_,[],h=>by simp at h
 |x::l,(a,b,c)::es,h=>by
  simp only[al9,List.cons.injEq,Prod.mk.injEq]at h
  obtain⟨⟨rfl,rfl⟩,h⟩:=h
  have:=Gc h
  simp only[eH,al9,List.zipWith_cons_cons]at this ⊢
  rw[←this]
theorem xC {ak av:Bool} {α:Type} {k v:α→List PL} {l:List α} {bs:List Nat} {j:Nat} {e:AV×AV×Nat} (h:(eH ak av k v l bs)[j]?=some e):∃x b,l[j]?=some x∧bs[j]?=some b∧e=(aU ak (k x),aU av (v x),b):=by
 simp only[eH,List.getElem?_zipWith]at h
 split at h
 ·rename_i x b h1 h2
  exact⟨x,b,h1,h2,(amp h).symm⟩
 ·cases h
theorem ij {ak av:Bool} {α:Type} {k v:α→List PL}:∀{l:List α} {bs:List Nat},bs.length=l.length→(eH ak av k v l bs).map (fun e=>(e.1,e.2.1))=l.map (fun x=>(aU ak (k x),aU av (v x)))∧(eH ak av k v l bs).map (fun e=>e.2.2)=bs
 |[],[],_=>⟨rfl,rfl⟩
 |[],_::_,h=>by simp at h
 |_::_,[],h=>by simp at h
 |x::l,b::bs,h=>by
  obtain⟨h1,h2⟩:=ij (ak:=ak) (av:=av) (k:=k) (v:=v) (l:=l) (bs:=bs) (by simpa using h)
  simp only[eH]at h1 h2
  exact⟨by simp[eH,h1],by simp[eH,h2]⟩
def pF (n:Nat) (bs:List Nat) (cl:Nat):Prop:=bs.length=n∧bs.Nodup∧∀b∈bs,b<cl
theorem CM {ak av:Bool} {α:Type} {k v:α→List PL} {l:List α} {bs:List Nat} {cl:Nat} (h:pF l.length bs cl):BOk (eH ak av k v l bs) cl:=by
 refine⟨by rw[(ij h.1).2];exact h.2.1,fun e he=> ?_⟩
 have:e.2.2∈(eH ak av k v l bs).map (fun e=>e.2.2):=List.mem_map_of_mem he
 rw[(ij h.1).2]at this
 exact h.2.2 _ this
noncomputable def ali (i:Nat) (M:T) (nx:Nat) (K:AV→T→Nat→Bool):Bool:=jY M i fun sure ak av α l k v=>ae sure (aj fun bs:List Nat=>aj fun cl:Nat=>aM (aq (pF l.length bs cl))
 (T.set aP M i (some (.map (eH ak av k v l bs) cl)) fun M1=>T.set aP M1 nx (some (.kit i ak av α l k v bs [] cl)) fun M2=>fN (Nat.succ nx) fun n=>K (.ptr nx 0) M2 n) true)
noncomputable def aeo (m:AV) (M:T) (nx:Nat) (K:AV→T→Nat→Bool):Bool:=nr m (itX none 0 M nx K) fun i=>aM (FK M i) (ali i M nx K) (gL M i fun _ cl=>itX (some i) cl M nx K)
theorem Wi (h:Sim E ρ G F M nx w) {m:AV} {K:AV→T→Nat→Bool} {x:Value} {t kt e:TypeId} (ht:P.underlying t=some (.map kt e)) (hm:den E ρ m=some x) (hk:aeo m M nx K=true):
  ∃v M' nx' ρ' w' z,ρ.Le ρ'∧Sim E ρ' G F M' nx' w'∧K v M' nx'=true∧den E ρ' v=some z∧(Instr.range t x).run P w= .ok z w':=by
 have hn:=h.fresh nx (amj _)
 rcases il hk with⟨rfl,g⟩|⟨i,rfl,g⟩
 ·cases hm
  obtain⟨M',k1,k2,k3⟩:=T.set_ok _ _ _ _ _ g
  rw[bt]at k1
  exact⟨_,M',_,ρ.set nx ⟨w.heap.size,0⟩,w.alloc (.mapIter none 0 #[] 0),.pointer (some ⟨w.heap.size,0,none⟩),Ren.le_set _ hn,h.alloc (o:=.iter none 0 [] 0) (ob:=.mapIter none 0 #[] 0) hn (Nat.le_succ _) (Nat.lt_succ_self _) (cap:=0) ⟨none,rfl,rfl⟩ k2 k3,k1,by simp[den,Ren.set_self],run_range_nilMap w t kt e ht⟩
 ·rcases aL g with⟨_,g⟩|⟨_,g⟩
  ·obtain⟨sure,ak,av,α,l,kf,vf,hi,g4⟩:=gw g
   obtain⟨hsu,g5⟩:=ac g4
   clear g4
   subst hsu
   obtain⟨f,es,ms,cl,f1,fs,f2,f3,f4⟩:=h.kmapS hi
   simp only[den,f1]at hm
   cases hm
   have hlen:(es.map fun e=>e.2.2).length=l.length:=by have:=congrArg List.length fs;simpa using this
   have hbs:pF l.length (es.map fun e=>e.2.2) cl:=⟨hlen,f4.1,fun b hb=>by obtain⟨e,he,rfl⟩:=List.mem_map.1 hb;exact f4.2 e he⟩
   rcases eG (aV (aV g5 (es.map fun e=>e.2.2)) cl) with⟨_,g6⟩|⟨q,_⟩
   case inr=>exact absurd hbs q
   have hes:=Gc fs
   obtain⟨M1,g7,s1,s2⟩:=T.set_ok _ _ _ _ _ g6
   obtain⟨M2,g8,s3,s4⟩:=T.set_ok _ _ _ _ _ g7
   rw[bt]at g8
   have hne:i≠nx:=fun q=>by rw[q,hn]at f1;cases f1
   have h1:Sim E ρ G F M1 nx w:=by
    refine h.turn (e:=f) (o':=.map (eH ak av kf vf l (es.map fun e=>e.2.2)) cl) (ob':=.map ms.toArray cl) hi f1 rfl rfl rfl (fun _ _ _=>rfl) f3 ⟨ms,by rw[←hes];exact f2,rfl⟩ s1 s2
   exact⟨_,M2,_,ρ.set nx ⟨w.heap.size,0⟩,w.alloc (.mapIter (some f.b) cl #[] cl),.pointer (some ⟨w.heap.size,0,none⟩),Ren.le_set _ hn,h1.alloc (o:=.kit i ak av α l kf vf (es.map fun e=>e.2.2) [] cl) (ob:=.mapIter (some f.b) cl #[] cl) hn (Nat.le_succ _) (Nat.lt_succ_self _) (cap:=0) ⟨f,f1,rfl⟩ s3 s4,g8,by simp[den,Ren.set_self],run_range_map w t kt e f.b _ cl ht f3⟩
  obtain⟨es,cl,hi,g2⟩:=dY g
  obtain⟨f,ms,f1,f2,f3⟩:=h.map hi
  simp only[den,f1]at hm
  cases hm
  obtain⟨M',k1,k2,k3⟩:=T.set_ok _ _ _ _ _ g2
  rw[bt]at k1
  have hne:i≠nx:=fun q=>by rw[q,hn]at f1;cases f1
  exact⟨_,M',_,ρ.set nx ⟨w.heap.size,0⟩,w.alloc (.mapIter (some f.b) cl #[] cl),.pointer (some ⟨w.heap.size,0,none⟩),Ren.le_set _ hn,h.alloc (o:=.iter (some i) cl [] cl) (ob:=.mapIter (some f.b) cl #[] cl) hn (Nat.le_succ _) (Nat.lt_succ_self _) (cap:=0) ⟨some f.b,⟨f,f1,rfl⟩,rfl⟩ k2 k3,k1,by simp[den,Ren.set_self],run_range_map w t kt e f.b _ cl ht f3⟩
noncomputable def tN (n:Nat) (l:List Nat):Bool:=List.rec false (fun x _ ih=>Bool.rec ih true (Nat.beq x n)) l
theorem xu (n:Nat):∀l,tN n l=l.contains n
 |[]=>rfl
 |x::l=>by
  have:tN n (x::l)=Bool.rec (motive:=fun _=>Bool) (tN n l) true (Nat.beq x n):=rfl
  rw[this,xu n l]
  by_cases h:x=n
  ·subst h;simp
  ·have hb:Nat.beq x n=false:=by
    cases e:Nat.beq x n with
    |false=>rfl
    |true=>exact absurd (al6 e) h
   simp[hb,Ne.symm h]
noncomputable def Ji (since:Nat) (es:List (AV×AV×Nat)):Bool:=List.rec true (fun e _ ih=>Bool.rec false ih (Nat.blt e.2.2 since)) es
theorem CL {since:Nat}:∀{es:List (AV×AV×Nat)} {ms:List MapEntry},Ji since es=true→bp E ρ es=some ms→∀x∈ms,x.born<since
 |[],ms,_,h=>by simp[bp]at h;subst h;simp
 |(k,v,b)::es,ms,hb,h=>by
  obtain⟨x,y,ms',h1,h2,h3,rfl⟩:=cC h
  have hb':Bool.rec (motive:=fun _=>Bool) false (Ji since es) (Nat.blt b since)=true:=hb
  have hv:Nat.blt b since=true:=by
   cases q:Nat.blt b since with
   |true=>rfl
   |false=>rw[q]at hb';cases hb'
  rw[hv]at hb'
  rw[amq]at hv
  intro z hz
  rcases List.mem_cons.1 hz with rfl|hz
  ·exact hv
  ·exact CL hb' h3 z hz
noncomputable def zS (seen:List Nat) (es:List (AV×AV×Nat)) (K:AV×AV×Nat→Bool):Bool:=List.rec true (fun e _ ih=>aM (tN e.2.2 seen) ih (ae (K e) ih)) es
noncomputable def qU (seen:List Nat) (es:List (AV×AV×Nat)):Bool:=List.rec false (fun e _ ih=>aM (tN e.2.2 seen) ih true) es
theorem tZ {seen:List Nat} {K:AV×AV×Nat→Bool}:∀{es:List (AV×AV×Nat)} {ms:List MapEntry},zS seen es K=true→bp E ρ es=some ms→∀x∈ms,seen.contains x.born=false→∃e,K e=true∧e∈es∧den E ρ e.1=some x.key∧den E ρ e.2.1=some x.val∧e.2.2=x.born
 |[],ms,_,h=>by simp[bp]at h;subst h;simp
 |(k,v,b)::es,ms,hc,h=>by
  obtain⟨x,y,ms',h1,h2,h3,rfl⟩:=cC h
  have hc':aM (tN b seen) (zS seen es K) (ae (K (k,v,b)) (zS seen es K))=true:=hc
  intro z hz hs
  rcases aL hc' with⟨q,hc'⟩|⟨q,hc'⟩
  ·rcases List.mem_cons.1 hz with rfl|hz
   ·rw[xu]at q
    rw[q]at hs;cases hs
   ·obtain⟨e,e1,e2,e3⟩:=tZ hc' h3 z hz hs
    exact⟨e,e1,by simp[e2],e3⟩
  ·obtain⟨q1,q2⟩:=ac hc'
   rcases List.mem_cons.1 hz with rfl|hz
   ·exact⟨_,q1,by simp,h1,h2,rfl⟩
   ·obtain⟨e,e1,e2,e3⟩:=tZ q2 h3 z hz hs
    exact⟨e,e1,by simp[e2],e3⟩
theorem xH {seen:List Nat}:∀{es:List (AV×AV×Nat)} {ms:List MapEntry},bp E ρ es=some ms→(qU seen es=true↔∃x∈ms,seen.contains x.born=false)
 |[],ms,h=>by simp[bp]at h;subst h;simp[qU]
 |(k,v,b)::es,ms,h=>by
  obtain⟨x,y,ms',h1,h2,h3,rfl⟩:=cC h
  have hu:qU seen ((k,v,b)::es)=aM (tN b seen) (qU seen es) true:=rfl
  rw[hu,vj,xu]
  have ih:=xH (seen:=seen) h3
  cases q:seen.contains b with
  |true=>
   simp only[cond_true,ih,List.mem_cons,exists_eq_or_imp,q,Bool.true_eq_false,false_or]
  |false=>
   simp only[cond_false,List.mem_cons,exists_eq_or_imp,q,true_or]
noncomputable def zI (M:T) (i:Nat) (K0:Bool) (K:Nat→Bool→Bool→(α:Type)→List α→(α→List PL)→(α→List PL)→List Nat→List Nat→Nat→Bool):Bool:=Option.casesOn (M.get i) K0 fun ob=>AObj.casesOn ob (fun _ _ _ _=>K0) (fun _ _=>K0) (fun _ _ _ _=>K0) K0 (fun _ _ _ _ _=>K0) (fun _ _ _ _ _ _ _=>K0) K (fun _ _ _=>K0)
theorem BN {M:T} {i:Nat} {K0:Bool} {K:Nat→Bool→Bool→(α:Type)→List α→(α→List PL)→(α→List PL)→List Nat→List Nat→Nat→Bool} (h:zI M i K0 K=true):K0=true∨∃m ak av α l k v bs seen cl,M.get i=some (.kit m ak av α l k v bs seen cl)∧K m ak av α l k v bs seen cl=true:=by
 unfold zI at h
 rcases e:M.get i with _|ob
 ·rw[e]at h;exact .inl h
 ·rw[e]at h
  cases ob<;>first|exact .inr ⟨_,_,_,_,_,_,_,_,_,_,rfl,h⟩|exact .inl h
noncomputable def alm (r i:Nat) (ak av:Bool) (α:Type) (l:List α) (k v:α→List PL) (bs seen:List Nat) (cl:Nat) (M:T) (K:AV→T→Bool):Bool:=gL M i fun es cl'=>ae (aq (es=eH ak av k v l bs∧cl'=cl∧pF l.length bs cl)) (ae (aM (aq (∀b∈bs,b∈seen)) (K (.tup [.bool false]) M) true)
 (aj fun j:Nat=>aj fun x:α=>aj fun b:Nat=>aM (aq (l[j]?=some x∧bs[j]?=some b∧¬b∈seen)) (T.set aP M r (some (.kit i ak av α l k v bs (seen++[b]) cl)) fun M'=>K (.tup [.bool true,aU ak (k x),aU av (v x)]) M') true))
noncomputable def aeH (it:AV) (M:T) (K:AV→T→Bool):Bool:=fO it fun r o=>ae (Nat.beq o 0) (zI M r (BQ M r fun mi since seen c0=>Option.casesOn mi (K (.tup [.bool false]) M) fun i=>gL M i fun es cl=>
 ae (Nat.ble since c0) (ae (Ji since es) (aM (qU seen es)
  (zS seen es fun e=>app seen [e.2.2] fun seen'=>T.set aP M r (some (.iter (some i) since seen' cl)) fun M'=>K (.tup [.bool true,e.1,e.2.1]) M')
  (K (.tup [.bool false]) M)))) fun i ak av α l k v bs seen cl=>alm r i ak av α l k v bs seen cl M K)
theorem Wy (h:Sim E ρ G F M nx w) {it:AV} {K:AV→T→Bool} {x:Value} {ty:TypeId} (hv:den E ρ it=some x) (hk:aeH it M K=true):
  ∃v M' w' z,Sim E ρ G F M' nx w'∧K v M'=true∧den E ρ v=some z∧(Instr.next x false ty).run P w= .ok z w':=by
 obtain⟨r,o,rfl,g1⟩:=eK hk
 obtain⟨g2,g3⟩:=ac g1
 have g2:=al6 g2
 subst g2
 rcases BN g3 with g3|⟨i,ak,av,α,l,k,v,bs,seen,cl,hi,g4⟩
 case inr=>
  obtain⟨e,ob,e1,e2,f,f1,rfl⟩:=h.obj hi
  simp only[den,e1]at hv
  cases hv
  obtain⟨es,cl',hm,g5⟩:=dY g4
  obtain⟨⟨hes,hcl,hb⟩,g6⟩:=ai g5
  subst hes;subst hcl
  obtain⟨f',ms,f2,f3,f4⟩:=h.map hm
  rw[f1]at f2;cases f2
  obtain⟨g7,g8⟩:=ac g6
  have hbm:=(ij (ak:=ak) (av:=av) (k:=k) (v:=v) hb.1).2
  have hborn:∀en∈ms,∃(j:Nat) (x:α),l[j]?=some x∧bs[j]?=some en.born∧den E ρ (aU ak (k x))=some en.key∧den E ρ (aU av (v x))=some en.val:=fun en hen=>by
   obtain⟨j,hj⟩:=List.mem_iff_getElem?.1 hen
   have hlt:j<(eH ak av k v l bs).length:=by rw[←mw f3];exact(List.getElem?_eq_some_iff.1 hj).1
   obtain⟨x,b,q1,q2,q3⟩:=xC (List.getElem?_eq_getElem hlt)
   obtain⟨xk,yv,r1,r2,r3⟩:=lz f3 (List.getElem?_eq_getElem hlt)
   rw[q3]at r1 r2 r3
   rw[hj]at r3
   cases r3
   exact⟨j,x,q1,q2,r1,r2⟩
  have hold:∀en∈ms.toArray.toList,en.born<cl':=fun en hen=>by
   obtain⟨j,x,_,q2,_⟩:=hborn en (by simpa using hen)
   exact hb.2.2 _ (al7 q2)
  rcases run_next_at (P:=P) w ty e.b f.b cl' cl' seen.toArray ms.toArray cl' e2 f4 (by simpa using hold) (amj _) with⟨n1,n2⟩|⟨en,n1,w1,n2,n3⟩
  ·have hall:∀b∈bs,b∈seen:=fun b hbb=>by
    obtain⟨j,hj⟩:=List.mem_iff_getElem?.1 hbb
    have hlt:=(List.getElem?_eq_some_iff.1 hj).1
    have hlt2:j<(eH ak av k v l bs).length:=by simp only[eH,List.length_zipWith,hb.1]at hlt ⊢;omega
    obtain⟨x,b',q1,q2,q3⟩:=xC (List.getElem?_eq_getElem hlt2)
    obtain⟨xk,yv,r1,r2,r3⟩:=lz f3 (List.getElem?_eq_getElem hlt2)
    rw[q3]at r3
    rw[hj]at q2;cases q2
    rcases Classical.em (b∈seen) with hs|hs
    ·exact hs
    ·exfalso
     have hmem:(⟨xk,yv,b⟩:MapEntry)∈leftOf ms.toArray seen.toArray:=by simpa[leftOf] using⟨al7 r3,hs⟩
     have:=Array.size_pos_of_mem hmem
     omega
   rw[prB_true.2 hall]at g7
   exact⟨_,M,w,_,h,g7,rfl,n2⟩
  ·have hmem:en∈ms∧¬en.born∈seen:=by simpa[leftOf] using n1
   obtain⟨j,x,q1,q2,q3,q4⟩:=hborn en hmem.1
   rcases eG (aV (aV (aV g8 j) x) en.born) with⟨_,g9⟩|⟨q,_⟩
   case inr=>exact absurd ⟨q1,q2,hmem.2⟩ q
   obtain⟨M',k1,k2,k3⟩:=T.set_ok _ _ _ _ _ g9
   have hw1:Sim E ρ G F M nx w1:=by rcases n2 with rfl|rfl<;>first|exact h|exact h.drawn
   have hr1:w1.heap=w.heap:=by rcases n2 with rfl|rfl<;>rfl
   have hlt:=bn e2
   refine⟨_,M',_,.tuple #[.bool true,en.key,en.val],?_,k1,by simp only[den,ay,q3,q4],n3⟩
   refine hw1.turn (o':=.kit i ak av α l k v bs (seen++[en.born]) cl') (ob':=.mapIter (some f.b) cl' (seen.toArray.push en.born) cl') hi e1 rfl rfl rfl (fun b _ hb=> ?_) ?_ ⟨f,f1,by simp⟩ k2 k3
   ·have:¬e.b=b:=fun q=>hb q.symm
    simp[setBlock,this]
   ·simp[setBlock,hr1,hlt]
 obtain⟨mi,since,seen,c0,hi,g4⟩:=yG g3
 obtain⟨e,ob,e1,e2,mb,e3,rfl⟩:=h.obj hi
 simp only[den,e1]at hv
 cases hv
 cases mi with
 |none=>
  have e3:mb=none:=e3
  subst e3
  refine⟨_,M,w,.tuple #[.bool false],h,g4,rfl,?_⟩
  simp only[Instr.next,getObj,amf,Sem.run,e2,Result.andThen]
  rfl
 |some i=>
  obtain⟨f,f1,rfl⟩:∃f,ρ i=some f∧mb=some f.b:=e3
  obtain⟨es,cl,hm,g5⟩:=dY g4
  obtain⟨f',ms,f2,f3,f4⟩:=h.map hm
  rw[f1]at f2;cases f2
  obtain⟨g6,g7⟩:=ac g5
  obtain⟨g8,g9⟩:=ac g7
  rw[Nat.ble_eq]at g6
  have hold:=CL g8 f3
  rcases run_next_at (P:=P) w ty e.b f.b since c0 seen.toArray ms.toArray cl e2 f4 (by simpa using hold) g6 with⟨n1,n2⟩|⟨en,n1,w1,n2,n3⟩
  ·have hno:qU seen es=false:=by
    cases q:qU seen es with
    |false=>rfl
    |true=>
     obtain⟨x,hx,hs⟩:=(xH f3).1 q
     have hmem:x∈leftOf ms.toArray seen.toArray:=by simpa[leftOf] using⟨hx,by simpa using hs⟩
     have:=Array.size_pos_of_mem hmem
     omega
   rw[vj,hno,cond_false]at g9
   exact⟨_,M,w,_,h,g9,rfl,n2⟩
  ·have hmem:en∈ms∧seen.contains en.born=false:=by simpa[leftOf] using n1
   have hyes:qU seen es=true:=(xH f3).2 ⟨en,hmem⟩
   rw[vj,hyes,cond_true]at g9
   obtain⟨c,c1,c2,c3,c4,c5⟩:=tZ g9 f3 en hmem.1 hmem.2
   rw[ox]at c1
   obtain⟨M',k1,k2,k3⟩:=T.set_ok _ _ _ _ _ c1
   have hw1:Sim E ρ G F M nx w1:=by rcases n2 with rfl|rfl<;>first|exact h|exact h.drawn
   have hr1:w1.heap=w.heap:=by rcases n2 with rfl|rfl<;>rfl
   have hlt:=bn e2
   refine⟨_,M',_,.tuple #[.bool true,en.key,en.val],?_,k1,by simp only[den,ay,c3,c4],n3⟩
   refine hw1.turn (o':=.iter (some i) since (seen++[c.2.2]) cl) (ob':=.mapIter (some f.b) since (seen.toArray.push en.born) cl) hi e1 rfl rfl rfl (fun b _ hb=> ?_) ?_ ⟨some f.b,⟨f,f1,rfl⟩,by rw[c5];simp⟩ k2 k3
   ·have:¬e.b=b:=fun q=>hb q.symm
    simp[setBlock,this]
   ·simp[setBlock,hr1,hlt]
noncomputable def QQ (b:Nat) (es:List (AV×AV×Nat)) (K:AV×AV×Nat→Bool):Bool:=List.rec false (fun e _ ih=>aM (Nat.beq e.2.2 b) (K e) ih) es
theorem FT {b:Nat} {K:AV×AV×Nat→Bool}:∀{es:List (AV×AV×Nat)} {ms:List MapEntry},QQ b es K=true→bp E ρ es=some ms→∃e x y,K e=true∧den E ρ e.1=some x∧den E ρ e.2.1=some y∧ms.find? (·.born==b)=some ⟨x,y,b⟩
 |[],ms,hf,h=>by cases hf
 |(k,v,c)::es,ms,hf,h=>by
  obtain⟨x,y,ms',h1,h2,h3,rfl⟩:=cC h
  have hf':aM (Nat.beq c b) (K (k,v,c)) (QQ b es K)=true:=hf
  rcases aL hf' with⟨q,g⟩|⟨q,g⟩
  ·have:=al6 q
   subst this
   exact⟨_,x,y,g,h1,h2,by simp⟩
  ·obtain⟨e,x',y',r1,r2,r3,r4⟩:=FT g h3
   refine⟨e,x',y',r1,r2,r3,?_⟩
   have:(c==b)=false:=by
    rw[Hz]at q
    simpa using q
   simp[this,r4]
noncomputable def Ur (l:List Nat) (K:Nat→Bool):Bool:=List.rec false (fun x xs ih=>List.casesOn xs (K x) fun _ _=>ih) l
theorem BH {K:Nat→Bool}:∀{l:List Nat},Ur l K=true→∃x r,l=r++[x]∧K x=true
 |[],h=>by cases h
 |[x],h=>⟨x,[],rfl,h⟩
 |x::y::l,h=>by
  obtain⟨z,r,h1,h2⟩:=BH (l:=y::l) h
  exact⟨z,x::r,by rw[h1];rfl,h2⟩
noncomputable def alH (i:Nat) (ak av:Bool) (α:Type) (l:List α) (k v:α→List PL) (bs seen:List Nat) (cl:Nat) (M:T) (K:AV→Bool):Bool:=gL M i fun es cl'=>ae (aq (es=eH ak av k v l bs∧cl'=cl∧pF l.length bs cl)) (ee fun j:Nat=>ee fun x:α=>ee fun b:Nat=>ae (aq (l[j]?=some x∧bs[j]?=some b∧∃s,seen=s++[b])) (K (.tup [aU ak (k x),aU av (v x)])))
noncomputable def agP (it:AV) (M:T) (K:AV→Bool):Bool:=fO it fun r o=>ae (Nat.beq o 0) (zI M r (BQ M r fun mi _ seen c0=>bF mi fun i=>gL M i fun es cl=>ae (Nat.beq c0 cl) (Ur seen fun b=>QQ b es fun e=>K (.tup [e.1,e.2.1]))) fun i ak av α l k v bs seen cl=>alH i ak av α l k v bs seen cl M K)
theorem yM:∀{es:List (AV×AV×Nat)} {ms:List MapEntry},bp E ρ es=some ms→ms.map (fun e=>e.born)=es.map (fun e=>e.2.2)
 |[],ms,h=>by simp[bp]at h;subst h;rfl
 |(k,v,b)::es,ms,h=>by
  obtain⟨x,y,ms',h1,h2,h3,rfl⟩:=cC h
  simp[yM h3]
theorem yK:∀{ms:List MapEntry} {e:MapEntry},(ms.map fun e=>e.born).Nodup→e∈ms→ms.find? (fun x=>x.born==e.born)=some e
 |[],e,_,h=>by cases h
 |x::ms,e,hn,h=>by
  simp only[al9,List.nodup_cons]at hn
  rcases List.mem_cons.1 h with rfl|h
  ·simp
  ·have hne:(x.born==e.born)=false:=by
    simp only[beq_eq_false_iff_ne]
    intro q
    exact hn.1 (by rw[q];exact List.mem_map_of_mem h)
   rw[List.find?_cons,hne]
   exact yK hn.2 h
theorem ZK (h:Sim E ρ G F M nx w) {it:AV} {K:AV→Bool} {x:Value} (hv:den E ρ it=some x) (hk:agP it M K=true):∃v z,den E ρ v=some z∧K v=true∧(Instr.entry x).run P w= .ok z w:=by
 obtain⟨r,o,rfl,g1⟩:=eK hk
 obtain⟨g2,g3⟩:=ac g1
 have g2:=al6 g2
 subst g2
 rcases BN g3 with g3|⟨i,ak,av,α,l,k,v,bs,seen,cl,hi,g4⟩
 case inr=>
  obtain⟨e,ob,e1,e2,f,f1,rfl⟩:=h.obj hi
  simp only[den,e1]at hv
  cases hv
  obtain⟨es,cl',hm,g5⟩:=dY g4
  obtain⟨⟨hes,hcl,hb⟩,g6⟩:=ai g5
  subst hes;subst hcl
  obtain⟨j,g6⟩:=bk g6
  obtain⟨x,g6⟩:=bk g6
  obtain⟨b,g6⟩:=bk g6
  obtain⟨⟨q1,q2,sn,rfl⟩,g7⟩:=ai g6
  obtain⟨f',ms,f2,f3,f4⟩:=h.map hm
  rw[f1]at f2;cases f2
  have hlt:j<(eH ak av k v l bs).length:=by
   have h1:=(List.getElem?_eq_some_iff.1 q1).1
   have h2:=(List.getElem?_eq_some_iff.1 q2).1
   simp only[eH,List.length_zipWith];omega
  obtain⟨x',b',p1,p2,p3⟩:=xC (List.getElem?_eq_getElem hlt)
  rw[q1]at p1;cases p1
  rw[q2]at p2;cases p2
  obtain⟨xk,yv,r1,r2,r3⟩:=lz f3 (List.getElem?_eq_getElem hlt)
  rw[p3]at r1 r2 r3
  refine⟨_,.tuple #[xk,yv],by simp only[den,ay,r1,r2],g7,?_⟩
  have hb2:(sn++[b]).toArray.back?=some b:=by simp
  have hf:ms.toArray.find? (·.born==b)=some ⟨xk,yv,b⟩:=by
   have hnd:(ms.map fun e=>e.born).Nodup:=by
    have e1:ms.map (fun e=>e.born)=(eH ak av k v l bs).map (fun e=>e.2.2):=yM f3
    rw[e1,(ij hb.1).2];exact hb.2.1
   have:=yK hnd (al7 r3)
   simpa using this
  simp only[Instr.entry,getObj,amf,Sem.run,e2,f4,Result.andThen,hb2,hf]
  simp
 obtain⟨mi,since,seen,c0,hi,g4⟩:=yG g3
 obtain⟨i,rfl,g5⟩:=aT g4
 obtain⟨e,ob,e1,e2,mb,e3,rfl⟩:=h.obj hi
 obtain⟨f,f1,rfl⟩:∃f,ρ i=some f∧mb=some f.b:=e3
 simp only[den,e1]at hv
 cases hv
 obtain⟨es,cl,hm,g6⟩:=dY g5
 obtain⟨f',ms,f2,f3,f4⟩:=h.map hm
 rw[f1]at f2;cases f2
 obtain⟨g7,g8⟩:=ac g6
 have g7:=al6 g7
 subst g7
 obtain⟨b,q,rfl,g9⟩:=BH g8
 obtain⟨c,x,y,c1,c2,c3,c4⟩:=FT g9 f3
 refine⟨_,.tuple #[x,y],by simp only[den,ay,c2,c3],c1,?_⟩
 have hb:(q++[b]).toArray.back?=some b:=by simp
 have hf:ms.toArray.find? (·.born==b)=some ⟨x,y,b⟩:=by simpa using c4
 simp only[Instr.entry,getObj,amf,Sem.run,e2,f4,Result.andThen,hb,hf]
 simp
end
end Go.Sy
namespace Go.Sy
open Go Go.RowKit Go.Eng
section
variable {P:Program} {E:Env} {ρ:Ren} {G:GS} {F:List aH} {M:T} {nx:Nat} {w:World}
noncomputable def arS (o:Nat) (v1 v2:AV) (K:AV→Bool):Bool:=
 iE v1 fun k a=>iE v2 fun k2 b=>ae (Nat.beq k k2) (
  Nat.rec (lW k (a+b) K) (fun o _=>
  Nat.rec (lW k (a - b) K) (fun o _=>
  Nat.rec (lW k (a*b) K) (fun o _=>
  Nat.rec (ae (aq (b≠0)) (lW k (Int.tdiv a b) K)) (fun _ _=>
  ae (aq (b≠0)) (K (.sy (.int k (Int.tmod a b))))) o) o) o) o)
theorem jk {v1 v2:AV} {x y:Value} {f:Nat→Int→Int→Bool} (h1:den E ρ v1=some x) (h2:den E ρ v2=some y) (h:(iE v1 fun k a=>iE v2 fun k2 b=>ae (Nat.beq k k2) (f k a b))=true):∃k a b,x= .int (ca k) a∧y= .int (ca k) b∧f k a b=true:=by
 obtain⟨k,a,e1,g1⟩:=fA h1 h
 obtain⟨k2,b,e2,g2⟩:=fA h2 g1
 obtain⟨g3,g4⟩:=ac g2
 have:=al6 g3
 subst this
 exact⟨k,a,b,e1,e2,g4⟩
theorem ahk {o:Nat} {v1 v2:AV} {K:AV→Bool} {x y:Value} (h1:den E ρ v1=some x) (h2:den E ρ v2=some y) (h:arS o v1 v2 K=true) (t:TypeId) (p q:Operand):
  ∃v z,den E ρ v=some z∧K v=true∧∀w,((do eqGuard (gC o) t p q x y;binOp (gC o) t x y):Sem Value).run P w= .ok z w:=by
 match o with
 |0=>
  obtain⟨k,a,b,rfl,rfl,g⟩:=jk (f:=fun k a b=>lW k (a+b) K) h1 h2 h
  obtain⟨g1,g2,g3⟩:=lx (E:=E) (ρ:=ρ) g
  exact⟨_,_,g3,g2,fun w=>by simp[gC,eqGuard,binOp,Op.intArith,g1]⟩
 |1=>
  obtain⟨k,a,b,rfl,rfl,g⟩:=jk (f:=fun k a b=>lW k (a - b) K) h1 h2 h
  obtain⟨g1,g2,g3⟩:=lx (E:=E) (ρ:=ρ) g
  exact⟨_,_,g3,g2,fun w=>by simp[gC,eqGuard,binOp,Op.intArith,g1]⟩
 |2=>
  obtain⟨k,a,b,rfl,rfl,g⟩:=jk (f:=fun k a b=>lW k (a*b) K) h1 h2 h
  obtain⟨g1,g2,g3⟩:=lx (E:=E) (ρ:=ρ) g
  exact⟨_,_,g3,g2,fun w=>by simp[gC,eqGuard,binOp,Op.intArith,g1]⟩
 |3=>
  obtain⟨k,a,b,rfl,rfl,g⟩:=jk (f:=fun k a b=>ae (aq (b≠0)) (lW k (Int.tdiv a b) K)) h1 h2 h
  obtain⟨hb,g⟩:=ai g
  obtain⟨g1,g2,g3⟩:=lx (E:=E) (ρ:=ρ) g
  exact⟨_,_,g3,g2,fun w=>by simp[gC,eqGuard,binOp,Op.intDiv,hb,g1]⟩
 |o+4=>
  obtain⟨k,a,b,rfl,rfl,g⟩:=jk (f:=fun k a b=>ae (aq (b≠0)) (K (.sy (.int k (Int.tmod a b))))) h1 h2 h
  obtain⟨hb,g⟩:=ai g
  exact⟨_,_,rfl,g,fun w=>by simp[gC,eqGuard,binOp,Op.intDiv,hb]⟩
noncomputable def uc (u v:AV):Bool:=Bool.or (dx u) (dx v)
noncomputable def arY (o:Nat) (u v:AV) (K:AV→Bool):Bool:=aM (uc u v) (arS o u v K) (arX o u v K)
theorem ahi {o:Nat} {v1 v2:AV} {K:AV→Bool} {x y:Value} (h1:den E ρ v1=some x) (h2:den E ρ v2=some y) (h:arY o v1 v2 K=true) (t:TypeId) (p q:Operand):
  ∃v z,den E ρ v=some z∧K v=true∧∀w,((do eqGuard (gC o) t p q x y;binOp (gC o) t x y):Sem Value).run P w= .ok z w:=by
 rcases aL h with⟨_,g⟩|⟨_,g⟩
 ·exact ahk h1 h2 g t p q
 ·exact ahj h1 h2 g t p q
def jf (o:Nat) (a b:Int):Prop:=match o with
 |0=>a<b|1=>a≤b|2=>b<a|3=>b≤a|4=>a=b|_=>¬a=b
noncomputable def alQ (o:Nat) (v1 v2:AV) (K:AV→Bool):Bool:=iE v1 fun k a=>iE v2 fun k2 b=>ae (Nat.beq k k2) (K (.sy (.bool (jf o a b))))
noncomputable def Re (o:Nat) (u v:AV) (K:AV→Bool):Bool:=aM (uc u v) (alQ o u v K) (ag4 o u v K)
theorem ZU {o:Nat} {v1 v2:AV} {K:AV→Bool} {x y:Value} (h1:den E ρ v1=some x) (h2:den E ρ v2=some y) (h:Re o v1 v2 K=true) (t:TypeId) (p q:Operand):
  ∃v z,den E ρ v=some z∧K v=true∧∀w,((do eqGuard (gB o) t p q x y;binOp (gB o) t x y):Sem Value).run P w= .ok z w:=by
 rcases aL h with⟨_,g⟩|⟨_,g⟩
 ·obtain⟨k,a,b,rfl,rfl,g⟩:=jk (f:=fun k a b=>K (.sy (.bool (jf o a b)))) h1 h2 g
  refine⟨_,_,rfl,g,fun w=> ?_⟩
  match o with
  |0=>simp[gB,jf,eqGuard,binOp,Op.intCmp,gJ]
  |1=>simp[gB,jf,eqGuard,binOp,Op.intCmp,gJ]
  |2=>simp[gB,jf,eqGuard,binOp,Op.intCmp,gJ]
  |3=>simp[gB,jf,eqGuard,binOp,Op.intCmp,gJ]
  |4=>simp[gB,jf,eqGuard,binOp,Op.intCmp,gJ,iD]
  |o+5=>simp[gB,jf,eqGuard,binOp,Op.intCmp,gJ,bne,iD]
 ·exact ZV h1 h2 g t p q
theorem VW (l m:List UInt8):(⟨l.toArray⟩:ByteArray)++⟨m.toArray⟩=⟨(l++m).toArray⟩:=by
 apply ByteArray.ext
 simp
noncomputable def Hp (u v:AV) (K:AV→Bool):Bool:=aM (uc u v) (qT u fun l=>qT v fun m=>ae (aq (l.length+m.length≤9223372036854775807)) (K (.sy (.str (l++m))))) (TR u v K)
theorem NY {v1 v2:AV} {K:AV→Bool} {x y:Value} (h1:den E ρ v1=some x) (h2:den E ρ v2=some y) (h:Hp v1 v2 K=true) (t:TypeId) (p q:Operand):
  ∃v z,den E ρ v=some z∧K v=true∧∀w,((do eqGuard .add t p q x y;binOp .add t x y):Sem Value).run P w= .ok z w:=by
 rcases aL h with⟨_,g⟩|⟨_,g⟩
 ·obtain⟨l,rfl,g1⟩:=gW h1 g
  obtain⟨m,rfl,g2⟩:=gW h2 g1
  obtain⟨hb,g⟩:=ai g2
  refine⟨_,_,rfl,g,fun w=> ?_⟩
  have e1:ByteArray.size ⟨l.toArray⟩=l.length:=by simp[ByteArray.size]
  have e2:ByteArray.size ⟨m.toArray⟩=m.length:=by simp[ByteArray.size]
  simp[eqGuard,binOp,Op.stringOp,e1,e2,VW]
  omega
 ·exact NZ h1 h2 g t p q
noncomputable def NI (ne:Bool) (u v:AV) (K:AV→Bool):Bool:=aM (uc u v) (qT u fun l=>qT v fun m=>Bool.rec (K (.sy (.bool (l=m)))) (K (.sy (.bool (¬l=m)))) ne) (aem ne u v K)
theorem Wf {ne:Bool} {v1 v2:AV} {K:AV→Bool} {x y:Value} (h1:den E ρ v1=some x) (h2:den E ρ v2=some y) (h:NI ne v1 v2 K=true) (t:TypeId) (p q:Operand):
  ∃v z,den E ρ v=some z∧K v=true∧∀w,((do eqGuard (bif ne then .neq else .eql) t p q x y;binOp (bif ne then .neq else .eql) t x y):Sem Value).run P w= .ok z w:=by
 rcases aL h with⟨_,g⟩|⟨_,g⟩
 ·obtain⟨l,rfl,g1⟩:=gW h1 g
  obtain⟨m,rfl,g2⟩:=gW h2 g1
  cases ne
  ·refine⟨.sy (.bool (l=m)),_,rfl,g2,fun w=> ?_⟩
   simp only[cond_false,eqGuard,binOp,Op.stringOp,iq,amf,Sem.run_pure,ame,gJ]
   by_cases h:l=m<;>simp[h]
  ·refine⟨.sy (.bool (¬l=m)),_,rfl,g2,fun w=> ?_⟩
   simp only[cond_true,eqGuard,binOp,Op.stringOp,iq,amf,Sem.run_pure,ame,gJ]
   by_cases h:l=m<;>simp[h]
 ·exact Wg h1 h2 g t p q
noncomputable def aeS (u:AV) (K:AV→Bool):Bool:=aM (dx u) (Rq u fun p=>K (.sy (.bool (¬p)))) (aeT u K)
theorem WC {v:AV} {K:AV→Bool} {x:Value} (h1:den E ρ v=some x) (h:aeS v K=true):∃u z,den E ρ u=some z∧K u=true∧∀w,(Op.unary .not x).run P w= .ok z w:=by
 rcases aL h with⟨_,g⟩|⟨_,g⟩
 ·obtain⟨p,rfl,g⟩:=Gz h1 g
  refine⟨_,_,rfl,g,fun w=> ?_⟩
  have:aq (¬p)= !aq p:=by
   by_cases hp:p
   ·rw[prB_true.2 hp,prB_false.2 (fun q=>q hp)];rfl
   ·rw[prB_false.2 hp,prB_true.2 hp];rfl
  simp[Op.unary,this]
 ·exact WD h1 g
noncomputable def aeZ (u:AV) (K:AV→Bool):Bool:=aM (dx u) (iE u fun k z=>lW k (-z) K) (ae0 u K)
theorem WF {v:AV} {K:AV→Bool} {x:Value} (h1:den E ρ v=some x) (h:aeZ v K=true):∃u z,den E ρ u=some z∧K u=true∧∀w,(Op.unary .neg x).run P w= .ok z w:=by
 rcases aL h with⟨_,g⟩|⟨_,g⟩
 ·obtain⟨k,z,rfl,g⟩:=fA h1 g
  obtain⟨g1,g2,g3⟩:=lx (E:=E) (ρ:=ρ) g
  exact⟨_,_,g3,g2,fun w=>by simp[Op.unary,Op.intArith,g1]⟩
 ·exact WG h1 g
noncomputable def ag1 (k:Nat) (u:AV) (K:AV→Bool):Bool:=aM (dx u) (iE u fun _ z=>lW k z K) (ag2 k u K)
theorem ZR {k:Nat} {v:AV} {K:AV→Bool} {x:Value} (h1:den E ρ v=some x) (h:ag1 k v K=true) {src dst:TypeId} (hs:(P.underlying src).isSome=true) (hd:P.underlying dst=some (.int (ca k))):
  ∃u z,den E ρ u=some z∧K u=true∧∀w,(convert src dst x).run P w= .ok z w:=by
 rcases aL h with⟨_,g⟩|⟨_,g⟩
 ·obtain⟨k0,z,rfl,g⟩:=fA h1 g
  obtain⟨g1,g2,g3⟩:=lx (E:=E) (ρ:=ρ) g
  obtain⟨d,hs⟩:=Option.isSome_iff_exists.1 hs
  exact⟨_,_,g3,g2,fun w=>by simp[convert,run_underlying hs,run_underlying hd,Conv.intToInt,g1]⟩
 ·exact ZS h1 g hs hd
noncomputable def ag0 (k:Nat) (u:AV) (K:AV→Bool):Bool:=iE u fun _ z=>K (.sy (.int k ((ca k).wrap z)))
theorem ZQ {k:Nat} {v:AV} {K:AV→Bool} {x:Value} (h1:den E ρ v=some x) (h:ag0 k v K=true) {src dst:TypeId} (hs:(P.underlying src).isSome=true) (hd:P.underlying dst=some (.int (ca k))):
  ∃u z,den E ρ u=some z∧K u=true∧∀w,(convert src dst x).run P w= .ok z w:=by
 obtain⟨k0,z,rfl,g⟩:=fA h1 h
 obtain⟨d,hs⟩:=Option.isSome_iff_exists.1 hs
 exact⟨_,_,rfl,g,fun w=>by simp[convert,run_underlying hs,run_underlying hd,Conv.intToInt]⟩
noncomputable def TP (u:AV) (K:AV→Bool):Bool:=aM (dx u) (qT u fun l=>K (.sy (.int 0 (l.length:Int)))) (TQ u K)
theorem NG {v:AV} {K:AV→Bool} {x:Value} {t ty:TypeId} (ht:P.underlying t=some .string) (hv:den E ρ v=some x) (hk:TP v K=true):∃u z,den E ρ u=some z∧K u=true∧∀(cs:Array Bool) w,(builtin .len #[t] ty cs #[x]).run P w= .ok (.value z) w:=by
 rcases aL hk with⟨_,g⟩|⟨_,g⟩
 ·obtain⟨l,rfl,g⟩:=gW hv g
  refine⟨_,_,rfl,g,fun cs w=> ?_⟩
  have e:ByteArray.size ⟨l.toArray⟩=l.length:=by simp[ByteArray.size]
  simp[builtin,Builtin.len_,goInt,run_underlying ht,ca,e]
 ·exact NH ht hv g
noncomputable def mxY (mx:Bool) (u v:AV) (K:AV→Bool):Bool:=aM (uc u v) (iE u fun k a=>iE v fun k2 b=>ae (Nat.beq k k2) (Bool.rec (K (.sy (.int k (min a b)))) (K (.sy (.int k (max a b)))) mx)) (mxX mx u v K)
theorem afn {mx:Bool} {v1 v2:AV} {K:AV→Bool} {x y:Value} {ta:Array TypeId} {ty:TypeId} (h1:den E ρ v1=some x) (h2:den E ρ v2=some y) (hk:mxY mx v1 v2 K=true):
  ∃u z,den E ρ u=some z∧K u=true∧∀(cs:Array Bool) w,(builtin (bif mx then .max else .min) ta ty cs #[x,y]).run P w= .ok (.value z) w:=by
 rcases aL hk with⟨_,g⟩|⟨_,g⟩
 ·obtain⟨k,m,n,rfl,rfl,g⟩:=jk (f:=fun k a b=>Bool.rec (K (.sy (.int k (min a b)))) (K (.sy (.int k (max a b)))) mx) h1 h2 g
  cases mx
  ·refine⟨.sy (.int k (min m n)),_,rfl,g,fun cs w=> ?_⟩
   have e:(if n<m then n else m)=min m n:=by simp only[Int.min_def];split<;>split<;>omega
   simp[builtin,Builtin.min_,Builtin.min2,e]
  ·refine⟨.sy (.int k (max m n)),_,rfl,g,fun cs w=> ?_⟩
   have e:(if n > m then n else m)=max m n:=by simp only[Int.max_def];split<;>split<;>omega
   simp[builtin,Builtin.max_,Builtin.max2,e]
 ·exact afo h1 h2 g
noncomputable def aeg (u v:AV) (K:AV→Bool):Bool:=aM (uc u v) (qT u fun l=>iE v fun _ z=>ae (aq (0≤z∧z<(l.length:Int))) (K (.sy (.int 1 ((l.getD z.toNat 0).toNat:Int))))) (aeh u v K)
theorem Wb {v iv:AV} {K:AV→Bool} {x y:Value} {t:TypeId} (ht:P.underlying t=some .string) (hv:den E ρ v=some x) (hi:den E ρ iv=some y) (hk:aeg v iv K=true):∃u z,den E ρ u=some z∧K u=true∧∀w,(Instr.index t x y).run P w= .ok z w:=by
 rcases aL hk with⟨_,g⟩|⟨_,g⟩
 ·obtain⟨l,rfl,g1⟩:=gW hv g
  obtain⟨kd,z,rfl,g2⟩:=fA hi g1
  obtain⟨⟨z0,zl⟩,g⟩:=ai g2
  obtain⟨n,rfl⟩:=Int.eq_ofNat_of_zero_le z0
  have hlt:n<l.length:=by omega
  refine⟨_,_,rfl,g,fun w=> ?_⟩
  have h1:ByteArray.size ⟨l.toArray⟩=l.length:=by simp[ByteArray.size]
  simp[Instr.index,run_underlying ht,asIntOf,h1,hlt,ca]
  rfl
 ·exact Wc ht hv hi g
end
section
variable {P:Program} {E:Env} {ρ:Ren} {G:GS} {F:List aH} {M:T} {nx:Nat} {w:World}
noncomputable def SZ (v:AV) (K:PL→Bool):Bool:=AV.casesOn v false (fun k z=>K (.int k z)) (fun b=>K (.bool b)) (fun l=>K (.str l)) (fun _ _=>false) (fun _ _ _ _=>false) (fun _=>false) (K .nilP) (K .nilS) (K .nilM) (K .nilF) (K .nilI) (fun _ _=>false) (fun _ _=>false) (fun _=>false) (fun _=>false) (fun _=>false) (fun _=>false)
 fun s=>SY.casesOn s (fun k z=>K (.sint k z)) (fun p=>K (.sbool p)) (fun l=>K (.sstr l)) (fun h sz α l enc=>K (.imm h sz α l enc)) (fun _ _ _=>false) (fun _ _=>false) (fun _ _ _ _ _ _=>false) (fun _ _ _ _=>false) (fun _ _ _=>false) (fun _=>false) (fun h f _ _ _=>Bool.rec (K (.raw h)) false f)
theorem JE {v:AV} {x:Value} {K:PL→Bool} (hd:den E ρ v=some x) (h:SZ v K=true):∃p,OkP E.M p∧x=aQ p∧K p=true:=by
 cases v<;>first|(cases h;done)|skip
 case int k z=>cases hd;exact⟨.int k z,.int k z,rfl,h⟩
 case bool b=>cases hd;exact⟨.bool b,.bool b,rfl,h⟩
 case str l=>cases hd;exact⟨.str l,.str l,rfl,h⟩
 case nilP=>cases hd;exact⟨.nilP,.nilP,rfl,h⟩
 case nilS=>cases hd;exact⟨.nilS,.nilS,rfl,h⟩
 case nilM=>cases hd;exact⟨.nilM,.nilM,rfl,h⟩
 case nilF=>cases hd;exact⟨.nilF,.nilF,rfl,h⟩
 case nilI=>cases hd;exact⟨.nilI,.nilI,rfl,h⟩
 case sy s=>
  cases s<;>first|(cases h;done)|skip
  case int k z=>cases hd;exact⟨.sint k z,.sint k z,rfl,h⟩
  case bool p=>cases hd;exact⟨.sbool p,.sbool p,rfl,h⟩
  case str l=>cases hd;exact⟨.sstr l,.sstr l,rfl,h⟩
  case imm hh sz α l enc=>
   obtain⟨h1,h2⟩:=ep (show dQ E (.imm hh sz α l enc)=some x from hd)
   exact⟨_,h1,h2,h⟩
  case vl hh f α y enc=>
   cases f with
   |true=>cases h
   |false=>
    simp only[den,aJ]at hd
    split at hd
    ·rename_i hc
     cases hd;exact⟨.raw _,.raw hc.1,rfl,h⟩
    ·cases hd
noncomputable def Ak (vs:List AV):(List PL→Bool)→Bool:=List.rec (fun K=>K []) (fun v _ ih K=>SZ v fun p=>ih fun ps=>K (p::ps)) vs
theorem ri:∀{vs:List AV} {xs:List Value} {K:List PL→Bool},ay E ρ vs=some xs→Ak vs K=true→∃ps,(∀p∈ps,OkP E.M p)∧xs=ps.map aQ∧K ps=true∧ps.length=vs.length
 |[],xs,K,hd,h=>by
  simp[ay]at hd
  subst hd
  exact⟨[],by simp,rfl,h,rfl⟩
 |v::vs,xs,K,hd,h=>by
  obtain⟨x,ys,h1,h2,rfl⟩:=bf hd
  obtain⟨p,p1,rfl,p2⟩:=JE (K:=fun p=>Ak vs fun ps=>K (p::ps)) h1 h
  obtain⟨ps,q1,rfl,q2,q3⟩:=ri h2 p2
  exact⟨p::ps,fun q hq=>by
   rcases List.mem_cons.1 hq with rfl|hq
   ·exact p1
   ·exact q1 q hq,rfl,q2,by simp[q3]⟩
theorem oz {p:PL} {M:dS} (h:OkP M p):Value.oneCell' (aQ p)=true:=by
 cases h with
 |imm ao cap hh=>subst hh;rfl
 |raw h=>exact h
 |_=>rfl
theorem mR {M:dS} {h:Value} {sz:Nat} {α:Type} {l:List α} {enc:α→List PL} (hp:OkP M (.imm h sz α l enc)):∃ao cap,h= .slice ao l.length cap∧l.length≤cap∧cap≤maxLen∧0<sz∧
  (0<l.length→ao=some ⟨blk ao,lS ao,none⟩)∧(∀x∈l,(enc x).length=sz)∧(∀x∈l,∀p∈enc x,OkP M p)∧(∀i x,l[i]?=some x→MRow M (blk ao) (lS ao+i*sz) ((enc x).map aQ)):=by
 cases hp with
 |imm ao cap hh h1 h2 h3 ha hl ho hr=>exact⟨ao,cap,hh,h1,h2,h3,ha,hl,ho,hr⟩
theorem cZ {e:cM} {n:Nat} {x:Value} (h:ii e n=some x):(e.cap=0∧n=0∧x= .slice none 0 0)∨∃c,e.cap=c+1∧x= .slice (some ⟨e.b,0,none⟩) n c:=by
 unfold ii at h
 split at h
 ·rename_i hc
  split at h
  ·rename_i hn;cases h;exact .inl ⟨hc,hn,rfl⟩
  ·cases h
 ·rename_i c hc;cases h;exact .inr ⟨c,hc,rfl⟩
theorem dP {e:cM} {n m:Nat} {x:Value} (h:kx e n m=some x):(e.cap=0∧n=0∧m=0∧x= .slice none 0 0)∨∃c,e.cap=c+1∧x= .slice (some ⟨e.b,0,none⟩) n m:=by
 unfold kx at h
 split at h
 ·rename_i hc
  split at h
  ·rename_i hn;cases h;exact .inl ⟨hc,hn.1,hn.2,rfl⟩
  ·cases h
 ·rename_i c hc;cases h;exact .inr ⟨c,hc,rfl⟩
theorem dp {e:cM} {sz a n o:Nat} {oc:Option Nat} {x:Value} (h:gQ e sz a n o oc=some x):(e.cap=0∧n=0∧a=0∧x= .slice none 0 0)∨∃c,e.cap=c+1∧x= .slice (some ⟨e.b,if c=a then o else a*sz,none⟩) n (c - a)∧a+n≤c∧(∀q,oc=some q→q=c):=by
 unfold gQ at h
 split at h
 ·rename_i hc
  split at h
  ·rename_i hn;cases h;exact .inl ⟨hc,hn.1,hn.2.1,rfl⟩
  ·cases h
 ·rename_i c hc
  split at h
  ·rename_i hn;cases h;exact .inr ⟨c,hc,rfl,hn⟩
  ·cases h
theorem BY {e:cM} {sz a n o q:Nat} {x:Value} (h:gQ e sz a n o (some q)=some x) (hc:e.cap=0):q=0:=by
 unfold gQ at h
 rw[hc]at h
 simp only at h
 split at h
 ·rename_i hn;exact hn.2.2 q rfl
 ·cases h
theorem oF {t ty e:TypeId} (ht:P.underlying t=some (.slice e)) (ao:Option Addr) (n c:Nat) (cs:Array Bool) (w:World):(builtin .len #[t] ty cs #[.slice ao n c]).run P w= .ok (.value (.int .i64 n)) w:=by
 simp[builtin,Builtin.len_,goInt,run_underlying ht]
noncomputable def alw (u:AV) (K:AV→Bool):Bool:=ej u fun s=>SY.casesOn s (fun _ _=>false) (fun _=>false) (fun _=>false) (fun _ _ _ l _=>K (.sy (.int 0 (l.length:Int)))) (fun _ _ _=>false) (fun _ n=>K (.sy (.int 0 (n:Int)))) (fun _ _ _ n _ _=>K (.sy (.int 0 (n:Int)))) (fun _ _ _ _=>false) (fun _ n _=>K (.sy (.int 0 (n:Int)))) (fun _=>false) (fun _ _ _ _ _=>false)
noncomputable def afW (u:AV) (K:AV→Bool):Bool:=aM (dx u) (alw u K) (afX u K)
theorem Yt {v:AV} {K:AV→Bool} {x:Value} {t ty e:TypeId} (ht:P.underlying t=some (.slice e)) (hv:den E ρ v=some x) (hk:afW v K=true):∃u z,den E ρ u=some z∧K u=true∧∀(cs:Array Bool) w,(builtin .len #[t] ty cs #[x]).run P w= .ok (.value z) w:=by
 rcases aL hk with⟨-,g⟩|⟨-,g⟩
 ·replace g:=co g
  obtain⟨s,rfl,g⟩:=g
  cases s<;>first|(cases g;done)|skip
  case imm h sz α l enc=>
   obtain⟨h1,rfl⟩:=ep (show dQ E (.imm h sz α l enc)=some x from hv)
   obtain⟨ao,cap,rfl,_⟩:=mR h1
   exact⟨_,.int .i64 (l.length:Int),rfl,g,fun cs w=>oF ht _ _ _ cs w⟩
  case prow i n=>
   refine⟨.sy (.int 0 (n:Int)),.int .i64 (n:Int),rfl,g,fun cs w=> ?_⟩
   simp only[den,aJ]at hv
   split at hv
   ·rcases cZ hv with⟨_,rfl,rfl⟩|⟨c,_,rfl⟩<;>rw[oF ht]
   ·cases hv
  case psub i sz a n o oc=>
   refine⟨.sy (.int 0 (n:Int)),.int .i64 (n:Int),rfl,g,fun cs w=> ?_⟩
   simp only[den,aJ]at hv
   split at hv
   ·rcases dp hv with⟨_,rfl,rfl,rfl⟩|⟨c,_,rfl,_,_⟩<;>rw[oF ht]
   ·cases hv
  case pfix i n c=>
   refine⟨.sy (.int 0 (n:Int)),.int .i64 (n:Int),rfl,g,fun cs w=> ?_⟩
   simp only[den,aJ]at hv
   split at hv
   ·rcases dP hv with⟨_,rfl,rfl,rfl⟩|⟨c,_,rfl⟩<;>rw[oF ht]
   ·cases hv
 ·exact Yu ht hv g
noncomputable def faS (off:Nat) (v:AV) (K:AV→Bool):Bool:=ej v fun s=>SY.casesOn s (fun _ _=>false) (fun _=>false) (fun _=>false) (fun _ _ _ _ _=>false) (fun b o cs=>K (.sy (.pim b (o+off) (ou cs off)))) (fun _ _=>false) (fun _ _ _ _ _ _=>false) (fun i sz q o=>K (.sy (.rptr i sz q (o+off)))) (fun _ _ _=>false) (fun _=>false) (fun _ _ _ _ _=>false)
noncomputable def faY (off:Nat) (v:AV) (K:AV→Bool):Bool:=aM (dx v) (faS off v K) (faX off v K)
theorem sk {t i off b o:Nat} (h:qH P t i=some off) (w:World):(Instr.fieldAt t (.pointer (some ⟨b,o,none⟩)) i).run P w= .ok (.pointer (some ⟨b,o+off,none⟩)) w:=by
 have h':=h
 unfold qH at h'
 rcases ht:P.underlying t with _|d
 ·simp[ht]at h'
 rw[ht]at h'
 cases d<;>simp at h'
 rename_i fs
 rcases hf:fs[i]? with _|f
 ·simp[hf]at h'
 simp[Instr.fieldAt,Instr.sureAddr,run_underlying ht,hf,nR ht hf h]
theorem Og {b o:Nat} {cs:List PL} (off:Nat) (h:(∀p∈cs,OkP E.M p)∧MRow E.M b o (cs.map aQ)):(∀p∈cs.drop off,OkP E.M p)∧MRow E.M b (o+off) ((cs.drop off).map aQ):=
 ⟨fun p hp=>h.1 p (List.mem_of_mem_drop hp),fun j v hv=>by
  have:=h.2 (off+j) v (by rw[List.map_drop,List.getElem?_drop]at hv;exact hv)
  rwa[←Nat.add_assoc]at this⟩
theorem tT {b o:Nat} {cs:List PL} {x:Value} (h:aJ E ρ (.pim b o cs)=some x):((∀p∈cs,OkP E.M p)∧MRow E.M b o (cs.map aQ))∧x= .pointer (some ⟨b,o,none⟩):=by
 simp only[aJ]at h
 split at h
 ·exact⟨‹_›,(amp h).symm⟩
 ·cases h
theorem sH {b o:Nat} {cs:List PL} (h:(∀p∈cs,OkP E.M p)∧MRow E.M b o (cs.map aQ)):aJ E ρ (.pim b o cs)=some (.pointer (some ⟨b,o,none⟩)):=by
 simp only[aJ];rw[if_pos h]
theorem nq {i sz q o:Nat} {x:Value} (h:aJ E ρ (.rptr i sz q o)=some x):∃e,ρ i=some e∧x= .pointer (some ⟨e.b,q*sz+o,none⟩):=by
 simp only[aJ]at h
 split at h
 ·rename_i e he;exact⟨e,he,(amp h).symm⟩
 ·cases h
theorem agG {off:Nat} {v:AV} {K:AV→Bool} {x:Value} {t i:Nat} (h:qH P t i=some off) (hv:den E ρ v=some x) (hk:faY off v K=true):∃u z,den E ρ u=some z∧K u=true∧∀w,(Instr.fieldAt t x i).run P w= .ok z w:=by
 rcases aL hk with⟨-,g⟩|⟨-,g⟩
 ·replace g:=co g
  obtain⟨s,rfl,g⟩:=g
  cases s<;>first|(cases g;done)|skip
  case pim b o cs=>
   obtain⟨h1,rfl⟩:=tT (show aJ E ρ (.pim b o cs)=some x from hv)
   replace g:K (.sy (.pim b (o+off) (ou cs off)))=true:=g
   rw[mp]at g
   exact⟨_,_,show den E ρ (.sy (.pim b (o+off) (cs.drop off)))=_ from sH (Og off h1),g,fun w=>sk h w⟩
  case rptr j sz q o=>
   obtain⟨e,he,rfl⟩:=nq (show aJ E ρ (.rptr j sz q o)=some x from hv)
   exact⟨_,.pointer (some ⟨e.b,q*sz+(o+off),none⟩),by simp only[den,aJ,he],g,fun w=>by rw[sk h,Nat.add_assoc]⟩
 ·exact agH h hv g
noncomputable def alo (v:AV) (K:AV→Bool):Bool:=ej v fun s=>SY.casesOn s (fun _ _=>false) (fun _=>false) (fun _=>false) (fun _ _ _ _ _=>false) (fun _ _ _=>K v) (fun _ _=>false) (fun _ _ _ _ _ _=>false) (fun _ _ _ _=>K v) (fun _ _ _=>false) (fun _=>false) (fun _ _ _ _ _=>false)
noncomputable def ae1 (v:AV) (K:AV→Bool):Bool:=aM (dx v) (alo v K) (ae2 v K)
theorem WI {v:AV} {K:AV→Bool} {x:Value} (hv:den E ρ v=some x) (hk:ae1 v K=true) {a:Act} {o:Operand} (ha:a.eval o=x) {dst:Option Tmp} {ty:TypeId} {pos:String} {af:Array Edge} {g:Option (Nat×Bool)}:
  K v=true∧∀w,(execOp a.eval ⟨dst,.nilCheck o,ty,pos,af,g⟩).run P w= .ok (.value x) w:=by
 rcases aL hk with⟨-,k⟩|⟨-,k⟩
 ·replace k:=co k
  obtain⟨s,rfl,k⟩:=k
  cases s<;>first|(cases k;done)|skip
  case pim b o cs=>
   obtain⟨h1,rfl⟩:=tT (show aJ E ρ (.pim b o cs)=some x from hv)
   exact⟨k,fun w=>by simp[execOp,ha]⟩
  case rptr j sz q o=>
   obtain⟨e,he,rfl⟩:=nq (show aJ E ρ (.rptr j sz q o)=some x from hv)
   exact⟨k,fun w=>by simp[execOp,ha]⟩
 ·exact WJ hv k ha
noncomputable def qE (n:Nat) (z:Int) (K:Nat→Bool):Nat→Bool:=Nat.rec (fun _=>ae (aq False) true) (fun _ ih k=>aM (aq (z=Int.ofNat k)) (K k) (ih (Nat.succ k))) n
theorem oh {z:Int} {K:Nat→Bool}:∀{n k:Nat},qE n z K k=true→∃j:Nat,z=(j:Int)∧j<k+n∧K j=true
 |0,k,h=>absurd (ai (show ae (aq False) true=true from h)).1 id
 |n+1,k,h=>by
  have h':aM (aq (z=Int.ofNat k)) (K k) (qE n z K (Nat.succ k))=true:=h
  rcases eG h' with⟨q,g⟩|⟨_,g⟩
  ·exact⟨k,q,by omega,g⟩
  ·obtain⟨j,h1,h2,h3⟩:=oh g
   exact⟨j,h1,by omega,h3⟩
noncomputable def alz (n sz:Nat) (v iv:AV) (K:AV→Bool):Bool:=fO v fun i o=>iE iv fun _ z=>qE n z (fun k=>fN (Nat.add o (Nat.mul k sz)) fun o=>K (.ptr i o)) 0
noncomputable def af6 (n sz:Nat) (v iv:AV) (K:AV→Bool):Bool:=aM (dx iv) (alz n sz v iv K) (af7 n sz v iv K)
theorem YG {n sz:Nat} {v iv:AV} {K:AV→Bool} {x y:Value} {t e:TypeId} (ht:P.underlying t=some (.array n e)) (hs:bH P e=some sz) (hv:den E ρ v=some x) (hi:den E ρ iv=some y) (hk:af6 n sz v iv K=true):
  ∃u z,den E ρ u=some z∧K u=true∧∀w,(Instr.indexAt t x y).run P w= .ok z w:=by
 rcases aL hk with⟨-,g⟩|⟨-,g⟩
 ·obtain⟨j,o,rfl,k1⟩:=eK g
  obtain⟨kd,z,rfl,k2⟩:=fA hi k1
  obtain⟨q,rfl,hq,k3⟩:=oh k2
  rw[bt]at k3
  simp only[den]at hv
  split at hv
  ·rename_i f hf
   cases hv
   have hq:q<n:=by omega
   refine⟨_,.pointer (some ⟨f.b,o+q*sz,none⟩),by simp only[den,hf];rfl,k3,fun w=> ?_⟩
   simp[Instr.indexAt,Instr.sureAddr,asIntOf,run_underlying ht,Go.Eng.run_sizeOf hs,hq,bQ]
  ·cases hv
 ·exact YH ht hs hv hi g
def ahc:Value→Nat
 |.slice ao _ _=>blk ao
 |_=>0
def aeE:Value→Nat
 |.slice ao _ _=>lS ao
 |_=>0
noncomputable def alx (sz:Nat) (v iv:AV) (K:AV→Bool):Bool:=iE iv fun _ z=>ej v fun s=>SY.casesOn s (fun _ _=>false) (fun _=>false) (fun _=>false)
 (fun h sz' _ l enc=>ae (Nat.beq sz sz') (ae (aq (0≤z∧z<(l.length:Int))) (aj fun x=>aM (aq (l[z.toNat]?=some x)) (K (.sy (.pim (ahc h) (aeE h+z.toNat*sz) (enc x)))) true)))
 (fun _ _ _=>false) (fun i n=>ae (aq (0≤z∧z<(n:Int))) (K (.sy (.rptr i sz z.toNat 0)))) (fun i sz' a n _ _=>ae (Nat.beq sz sz') (ae (aq (0≤z∧z<(n:Int))) (K (.sy (.rptr i sz (a+z.toNat) 0))))) (fun _ _ _ _=>false)
 (fun i n _=>ae (aq (0≤z∧z<(n:Int))) (K (.sy (.rptr i sz z.toNat 0)))) (fun _=>false) (fun _ _ _ _ _=>false)
noncomputable def aly (sz:Nat) (v iv:AV) (K:AV→Bool):Bool:=kz v false fun i o n _=>iE iv fun _ z=>qE n z (fun k=>fN (Nat.add o (Nat.mul k sz)) fun o=>K (.ptr i o)) 0
noncomputable def af4 (sz:Nat) (v iv:AV) (K:AV→Bool):Bool:=aM (dx v) (alx sz v iv K) (aM (dx iv) (aly sz v iv K) (af5 sz v iv K))
theorem iM {t e sz n c i:Nat} {k:IntKind} {b o:Nat} (ht:P.underlying t=some (.slice e)) (hs:bH P e=some sz) (hi:i<n) (w:World):(Instr.indexAt t (.slice (some ⟨b,o,none⟩) n c) (.int k (i:Int))).run P w= .ok (.pointer (some ⟨b,o+i*sz,none⟩)) w:=by
 simp[Instr.indexAt,asIntOf,run_underlying ht,Go.Eng.run_sizeOf hs,hi,bQ]
theorem YE {sz:Nat} {v iv:AV} {K:AV→Bool} {x y:Value} {t e:TypeId} (ht:P.underlying t=some (.slice e)) (hs:bH P e=some sz) (hv:den E ρ v=some x) (hi:den E ρ iv=some y) (hk:af4 sz v iv K=true):
  ∃u z,den E ρ u=some z∧K u=true∧∀w,(Instr.indexAt t x y).run P w= .ok z w:=by
 rcases aL hk with⟨-,g⟩|⟨-,g⟩
 ·replace g:=fA hi g
  obtain⟨kd,z,rfl,g⟩:=g
  replace g:=co g
  obtain⟨s,rfl,g⟩:=g
  cases s<;>first|(cases g;done)|skip
  case imm h sz' α l enc=>
   obtain⟨g1,g2⟩:=ac g
   have g1:=al6 g1
   subst g1
   obtain⟨⟨z0,zl⟩,g3⟩:=ai g2
   obtain⟨n,rfl⟩:=Int.eq_ofNat_of_zero_le z0
   have hlt:n<l.length:=by omega
   obtain⟨h1,rfl⟩:=ep (show dQ E (.imm h sz α l enc)=some x from hv)
   obtain⟨ao,cap,rfl,c1,c2,c3,ha,hl,ho,hr⟩:=mR h1
   ·
    have g4:=aV g3 l[n]
    rcases eG g4 with⟨q,g5⟩|⟨q,_⟩
    ·have hx:l[n]?=some l[n]:=List.getElem?_eq_getElem hlt
     have hao:=ha (by omega)
     refine⟨.sy (.pim _ _ _),_,sH (ρ:=ρ) ⟨ho _ (List.getElem_mem hlt),?_⟩,g5,fun w=> ?_⟩
     ·simpa[ahc,aeE] using hr n _ hx
     ·show(Instr.indexAt t (.slice ao l.length cap) (.int (ca kd) (n:Int))).run P w=_
      rw[hao,iM ht hs hlt]
      rfl
    ·exact absurd (by simp[hlt]) q
  case prow i n=>
   obtain⟨⟨z0,zl⟩,g3⟩:=ai g
   obtain⟨m,rfl⟩:=Int.eq_ofNat_of_zero_le z0
   have hlt:m<n:=by omega
   simp only[den,aJ]at hv
   split at hv
   case h_2=>cases hv
   rename_i f hf
   rcases cZ hv with⟨_,q,rfl⟩|⟨c,_,rfl⟩
   ·omega
   ·exact⟨_,.pointer (some ⟨f.b,m*sz+0,none⟩),by simp only[den,aJ,hf];rfl,g3,fun w=>by rw[iM ht hs hlt,Nat.zero_add,Nat.add_zero]⟩
  case psub i sz' a n o oc=>
   obtain⟨g1,g2⟩:=ac g
   have g1:=al6 g1
   subst g1
   obtain⟨⟨z0,zl⟩,g3⟩:=ai g2
   obtain⟨m,rfl⟩:=Int.eq_ofNat_of_zero_le z0
   have hlt:m<n:=by omega
   simp only[den,aJ]at hv
   split at hv
   case h_2=>cases hv
   rename_i f hf
   rcases dp hv with⟨_,q,_,rfl⟩|⟨c,_,rfl,hc,_⟩
   ·omega
   ·have hne:¬c=a:=by omega
    rw[if_neg hne]
    refine⟨_,.pointer (some ⟨f.b,(a+m)*sz+0,none⟩),by simp only[den,aJ,hf];rfl,g3,fun w=> ?_⟩
    rw[iM ht hs hlt,Nat.add_mul,Nat.add_zero]
  case pfix i n cc=>
   obtain⟨⟨z0,zl⟩,g3⟩:=ai g
   obtain⟨m,rfl⟩:=Int.eq_ofNat_of_zero_le z0
   have hlt:m<n:=by omega
   simp only[den,aJ]at hv
   split at hv
   case h_2=>cases hv
   rename_i f hf
   rcases dP hv with⟨_,q,_,rfl⟩|⟨c,_,rfl⟩
   ·omega
   ·exact⟨_,.pointer (some ⟨f.b,m*sz+0,none⟩),by simp only[den,aJ,hf];rfl,g3,fun w=>by rw[iM ht hs hlt,Nat.zero_add,Nat.add_zero]⟩
 ·rcases aL g with⟨-,g⟩|⟨-,g⟩
  ·rcases fC g with⟨_,k1⟩|⟨j,o,n,c,rfl,k1⟩
   ·cases k1
   obtain⟨kd,z,rfl,k2⟩:=fA hi k1
   obtain⟨q,rfl,hq,k3⟩:=oh k2
   rw[bt]at k3
   simp only[den]at hv
   split at hv
   ·rename_i f hf
    cases hv
    have hq:q<n:=by omega
    exact⟨_,.pointer (some ⟨f.b,o+q*sz,none⟩),by simp only[den,hf];rfl,k3,fun w=>iM ht hs hq w⟩
   ·cases hv
  ·exact YF ht hs hv hi g
end
section
variable {P:Program} {E:Env} {ρ:Ren} {G:GS} {F:List aH} {M:T} {nx:Nat} {w:World}
noncomputable def Hv (agg:Bool) (n:Nat) (cs:List PL) (o:Nat) (K:AV→Bool):Bool:=aM agg (tak (ou cs o) n fun l=>K (.agg (kw l))) (bF (bS cs o) fun p=>K (rZ p))
theorem AF {agg:Bool} {n:Nat} {cs:List PL} {o b base:Nat} {K:AV→Bool} {t:TypeId} (hk:Hv agg n cs o K=true) (hp:∀p∈cs,OkP E.M p) (hc:∀j v,(cs.map aQ)[j]?=some v→w.cell? ⟨b,base+j,none⟩=some v)
  (hag:fG P t=some agg) (hs:bH P t=some n):∃u z,den E ρ u=some z∧K u=true∧(Instr.loadAt t (.pointer (some ⟨b,base+o,none⟩))).run P w= .ok z w:=by
 rcases aL hk with⟨rfl,g⟩|⟨rfl,g⟩
 ·obtain⟨g1,hle⟩:=iL g
  rw[mp]at g1 hle
  have hl:∀p∈(cs.drop o).take n,OkP E.M p:=fun p q=>hp p (List.mem_of_mem_drop (List.mem_of_mem_take q))
  refine⟨.agg (kw ((cs.drop o).take n)),.agg (((cs.drop o).take n).map aQ).toArray,by simp only[den,Bu hl],g1,?_⟩
  have hlen:(((cs.drop o).take n).map aQ).length=n:=by simp only[al4,ami];omega
  have:=Go.Eng.run_loadCells (P:=P) (w:=w) b (base+o) (((cs.drop o).take n).map aQ) 0 #[] (fun j v hv=>by
   rw[Nat.zero_add,Nat.add_assoc]
   refine hc (o+j) v ?_
   rw[List.map_take,List.map_drop]at hv
   have hj:j<n:=by
    have:=(List.getElem?_eq_some_iff.1 hv).1
    rw[ami]at this;omega
   rw[amk hj,List.getElem?_drop]at hv
   exact hv)
  rw[hlen]at this
  simp[Instr.loadAt,Instr.sureAddr,loadVar,Go.Eng.run_isAgg hag,Go.Eng.run_sizeOf hs,loadCells,this]
 ·obtain⟨p,h1,g1⟩:=aT g
  rw[cx]at h1
  have hm:=al7 h1
  have:=hc o (aQ p) (by rw[amn,h1];rfl)
  exact⟨rZ p,aQ p,EG (hp p hm),g1,by simp[Instr.loadAt,Instr.sureAddr,loadVar,run_isAgg hag,load,Sem.run,this]⟩
noncomputable def cV (M:T) (i:Nat) (K:Nat→Nat→(α:Type)→List α→(α→List PL)→Bool):Bool:=bF (M.get i) fun ob=>AObj.casesOn ob (fun _ _ _ _=>false) (fun _ _=>false) (fun _ _ _ _=>false) false K (fun _ _ _ _ _ _ _=>false) (fun _ _ _ _ _ _ _ _ _ _=>false) (fun _ _ _=>false)
theorem bP {M:T} {i:Nat} {K:Nat→Nat→(α:Type)→List α→(α→List PL)→Bool} (h:cV M i K=true):∃Ty sz α l enc,M.get i=some (.prow Ty sz α l enc)∧K Ty sz α l enc=true:=by
 obtain⟨ob,h1,h2⟩:=aT h
 cases ob<;>first|exact⟨_,_,_,_,_,h1,h2⟩|cases h2
theorem bW {e:cM} {c Ty sz:Nat} {α:Type} {l:List α} {enc:α→List PL} (h:e.cap=c+1):bC e (.prow Ty sz α l enc)=true:=by
 unfold bC;rw[h];rfl
structure RowAt (E:Env) (w:World) (e:cM) (Ty sz:Nat) (ps:List PL) (n c:Nat) (arr:Array Value):Prop where
 heap:w.heap[e.b]?=some (.cells arr Ty (0,0))
 ok:∀p∈ps,OkP E.M p
 len:ps.length=n*sz
 size:arr.size=c*sz
 take:arr.toList.take (n*sz)=ps.map aQ
 le:n≤c
 max:c≤maxLen
theorem db {α:Type} {enc:α→List PL} {sz:Nat}:∀{l:List α},(∀x∈l,(enc x).length=sz)→(l.flatMap enc).length=l.length*sz
 |[],_=>by simp
 |x::l,h=>by
  rw[List.flatMap_cons,al2,h x (by simp),db fun y hy=>h y (by simp[hy]),List.length_cons,Nat.add_mul]
  omega
theorem ORel.take {e:cM} {Ty sz:Nat} {α:Type} {l:List α} {enc:α→List PL} {ob:Obj} {n:Nat} (hn:n≤l.length) (hr:ORel E ρ e (.prow Ty sz α l enc) ob):ORel E ρ e (.prow Ty sz α (l.take n) enc) ob:=by
 obtain⟨arr,xs,h1,h2,h3,h4,h5,h6,h7,h8⟩:=hr
 obtain⟨o1,o2⟩:=pq h4
 have hlen:(l.take n).length=n:=by rw[ami];omega
 have hsp:(l.take n).flatMap enc++(l.drop n).flatMap enc=l.flatMap enc:=by rw[←List.flatMap_append,List.take_append_drop]
 have htl:((l.take n).flatMap enc).length=n*sz:=by rw[db fun x hx=>h3 x (List.mem_of_mem_take hx),hlen]
 refine⟨arr,((l.take n).flatMap enc).map aQ,h1,h2,fun x hx=>h3 x (List.mem_of_mem_take hx),eI fun p hp=>o1 p ?_,h5,?_,?_,h8⟩
 ·rw[←hsp];exact amh.2 (.inl hp)
 ·rw[hlen]
  have e1:(arr.toList.take (l.length*sz)).take (n*sz)=arr.toList.take (n*sz):=by rw[List.take_take];congr 1;exact Nat.min_eq_left (Nat.mul_le_mul_right _ hn)
  rw[←e1,h6,o2,←hsp,amg,List.take_left' (by rw[al4,htl])]
 ·rw[hlen];omega
theorem Sim.reobj (h:Sim E ρ G F M nx w) {i:Nat} {o o':AObj} (hi:M.get i=some o) (hB:∀e,bC e o'=bC e o) (hr:∀e ob,ρ i=some e→ORel E ρ e o ob→ORel E ρ e o' ob) (hn:uf o→uf o') {M':T} (h1:M'.get i=some o') (h2:∀m,m≠i→M'.get m=M.get m) (hQ:¬BR o':=by exact id):Sim E ρ G F M' nx w:=by
 obtain⟨D_,F_,c,hF_,hq_,hh,hob,hinj⟩:=h.ex
 have old:∀m o2,M'.get m=some o2→∃o3,M.get m=some o3∧∀e,bC e o2=bC e o3:=fun m o2 hm=>by
  by_cases q1:m=i
  ·subst q1
   rw[h1]at hm;cases hm
   exact⟨_,hi,hB⟩
  ·rw[h2 m q1]at hm
   exact⟨o2,hm,fun e=>rfl⟩
 refine⟨⟨D_,F_,c,hF_,hq_.at_ h1 hQ (fun m_ q_ o_ hm_=>by rw[←h2 m_ q_];exact hm_),hh,fun m o2 hm=> ?_,fun m k e f o2 o3 hm hk he hf hb1 hb2 hb=> ?_⟩,h.mem,h.fresh⟩
 ·by_cases q1:m=i
  ·subst q1
   rw[h1]at hm;cases hm
   obtain⟨e,a1,⟨b1,ob,b2,b3⟩|⟨b1,b2⟩⟩:=hob m _ hi
   ·exact⟨e,a1,.inl ⟨by rw[hB];exact b1,ob,b2,hr e ob a1 b3⟩⟩
   ·exact⟨e,a1,.inr ⟨by rw[hB];exact b1,hn b2⟩⟩
  ·rw[h2 m q1]at hm
   exact hob m o2 hm
 ·obtain⟨o4,f1,f2⟩:=old m o2 hm
  obtain⟨o5,f3,f4⟩:=old k o3 hk
  rw[f2]at hb1
  rw[f4]at hb2
  exact hinj m k e f o4 o5 f1 f3 he hf hb1 hb2 hb
theorem Sim.prow (h:Sim E ρ G F M nx w) {i Ty sz:Nat} {α:Type} {l:List α} {enc:α→List PL} (hi:M.get i=some (.prow Ty sz α l enc)):
  ∃e,ρ i=some e∧0<sz∧((e.cap=0∧l=[])∨∃c arr,e.cap=c+1∧(∀x∈l,(enc x).length=sz)∧RowAt E w e Ty sz (l.flatMap enc) l.length c arr):=by
 obtain⟨e,h1,⟨q,ob,h2,arr,xs,rfl,h4,h5,h6,h7,h8,h9,h10⟩|⟨q,h3,h4⟩⟩:=h.objP hi
 ·have hc:e.cap≠0:=by
   intro hc
   simp[bC,hc]at q
  obtain⟨c,hc⟩:=Nat.exists_eq_succ_of_ne_zero hc
  obtain⟨p1,rfl⟩:=pq h6
  rw[hc]at h7 h9 h10
  exact⟨e,h1,h4,.inr ⟨c,arr,hc,h5,h2,p1,db h5,by simpa using h7,h8,by simpa using h9,by simpa using h10⟩⟩
 ·refine⟨e,h1,h4,.inl ⟨?_,h3⟩⟩
  simp[bC]at q
  exact q
theorem RowAt.cell {e:cM} {Ty sz n c:Nat} {ps:List PL} {arr:Array Value} (r:RowAt E w e Ty sz ps n c arr) {j:Nat} {v:Value} (hv:(ps.map aQ)[j]?=some v):w.cell? ⟨e.b,j,none⟩=some v:=by
 rw[←r.take]at hv
 have hlt:j<n*sz:=by
  have:=(List.getElem?_eq_some_iff.1 hv).1
  rw[ami]at this;omega
 rw[amk hlt]at hv
 simp only[World.cell?,r.heap]
 simpa using hv
theorem pm {α:Type} {enc:α→List PL} {sz:Nat} {l:List α} {q:Nat} {x:α} (hl:∀x∈l,(enc x).length=sz) (hx:l[q]?=some x) {j:Nat} {p:PL} (hp:(enc x)[j]?=some p):(l.flatMap enc)[q*sz+j]?=some p:=by
 have:=qF (els:=l.map enc) (sz:=sz) (q:=q) (r:=j) (el:=enc x) (v:=p) (fun e he=>by
  obtain⟨y,hy,rfl⟩:=List.mem_map.1 he
  exact hl y hy) (by rw[amn,hx];rfl) hp
 rwa[←List.flatMap_def]at this
noncomputable def ldS (agg:Bool) (n:Nat) (v:AV) (M:T) (K:AV→Bool):Bool:=ej v fun s=>SY.casesOn s (fun _ _=>false) (fun _=>false) (fun _=>false) (fun _ _ _ _ _=>false) (fun _ _ cs=>Hv agg n cs 0 K) (fun _ _=>false) (fun _ _ _ _ _ _=>false)
 (fun i sz q o=>cV M i fun _ sz' _ l enc=>ae (Nat.beq sz sz') (ae (aq (q<l.length)) (aj fun x=>aM (aq (l[q]?=some x)) (Hv agg n (enc x) o K) true))) (fun _ _ _=>false) (fun _=>false) (fun _ _ _ _ _=>false)
theorem afZ (h:Sim E ρ G F M nx w) {agg:Bool} {n:Nat} {v:AV} {K:AV→Bool} {x:Value} (hv:den E ρ v=some x) (hk:ldS agg n v M K=true) {t:TypeId} (hag:fG P t=some agg) (hs:bH P t=some n):∃u z,den E ρ u=some z∧K u=true∧(Instr.loadAt t x).run P w= .ok z w:=by
 replace hk:=co hk
 obtain⟨s,rfl,g⟩:=hk
 cases s<;>first|(cases g;done)|skip
 case pim b o cs=>
  obtain⟨⟨h1,h2⟩,rfl⟩:=tT (show aJ E ρ (.pim b o cs)=some x from hv)
  exact AF (b:=b) (base:=o) (o:=0) g h1 (fun j v hv=>h.cellM (h2 j v hv)) hag hs
 case rptr i sz q o=>
  obtain⟨e,he,rfl⟩:=nq (show aJ E ρ (.rptr i sz q o)=some x from hv)
  obtain⟨Ty,sz',α,l,enc,hi,g1⟩:=bP g
  obtain⟨g2,g3⟩:=ac g1
  have g2:=al6 g2
  subst g2
  obtain⟨hlt,g4⟩:=ai g3
  have hx:l[q]?=some l[q]:=List.getElem?_eq_getElem hlt
  obtain⟨e',q1,hsz,⟨_,q2⟩|⟨c,arr,q2,q3,r⟩⟩:=h.prow hi
  ·subst q2;simp at hlt
  rw[he]at q1;cases q1
  rcases eG (aV g4 l[q]) with⟨_,g5⟩|⟨q,_⟩
  ·exact AF (b:=e.b) (base:=q*sz) (o:=o) g5 (fun p hp=>r.ok p (List.mem_flatMap.2 ⟨_,List.getElem_mem hlt,hp⟩)) (fun j v hv=>by
    rw[amn]at hv
    rcases hp:(enc l[q])[j]? with _|p
    ·rw[hp]at hv;cases hv
    ·rw[hp]at hv
     have:=r.cell (j:=q*sz+j) (v:=v) (by rw[amn,pm q3 hx hp];exact hv)
     exact this) hag hs
  ·exact absurd hx q
noncomputable def uZ (agg:Bool) (n:Nat) (v:AV) (M:T) (K:AV→Bool):Bool:=aM (dx v) (ldS agg n v M K) (aM agg (afY n v M K) (af0 v M K))
theorem uY (h:Sim E ρ G F M nx w) {agg:Bool} {n:Nat} {v:AV} {K:AV→Bool} {x:Value} (hv:den E ρ v=some x) (hk:uZ agg n v M K=true) {t:TypeId} (hag:fG P t=some agg) (hs:bH P t=some n):∃u z,den E ρ u=some z∧K u=true∧(Instr.loadAt t x).run P w= .ok z w:=by
 rcases aL hk with⟨-,g⟩|⟨-,g⟩
 ·exact afZ h hv g hag hs
 ·rcases aL g with⟨rfl,g⟩|⟨rfl,g⟩
  ·exact Yx h hv g hag hs
  ·exact Yz h hv g hag
def ko (p q:PL):Prop:=p=q∨(∃k z,p= .sint k z∧q= .int k z)∨(∃(sz:Nat) (α:Type) (enc:α→List PL),0<sz∧p= .imm (.slice none 0 0) sz α [] enc∧q= .nilS)∨(∃(b:Bool) (P:Prop),p= .sbool P∧q= .bool b∧(P↔b=true))
def Aq:List PL→List PL→Prop
 |[],[]=>True
 |p::a,q::b=>ko p q∧Aq a b
 |_,_=>False
theorem pT:∀(a:List PL),Aq a a
 |[]=>trivial
 |p::a=>⟨.inl rfl,pT a⟩
theorem abk {p q:PL} (h:ko p q):aQ p=aQ q∧∀M,OkP M q→OkP M p:=by
 rcases h with rfl|⟨k,z,rfl,rfl⟩|⟨sz,α,enc,h1,rfl,rfl⟩|⟨b,P,rfl,rfl,hb⟩
 ·exact⟨rfl,fun _ h=>h⟩
 ·exact⟨rfl,fun _ _=>.sint k z⟩
 ·exact⟨rfl,fun _ _=>.imm none 0 rfl (by simp) (by decide) h1 (fun q=>by simp at q) (fun x hx=>by simp at hx) (fun x hx=>by simp at hx) (fun i x hx=>by simp at hx)⟩
 ·refine⟨?_,fun _ _=>.sbool P⟩
  show Value.bool (aq P)= .bool b
  cases b with
  |true=>rw[prB_true.2 (hb.2 rfl)]
  |false=>rw[prB_false.2 fun q=>by cases hb.1 q]
theorem sS:∀{a b:List PL},Aq a b→a.map aQ=b.map aQ∧a.length=b.length∧∀M,(∀q∈b,OkP M q)→∀p∈a,OkP M p
 |[],[],_=>⟨rfl,rfl,fun M _ p hp=>by simp at hp⟩
 |p::a,q::b,h=>by
  obtain⟨h1,h2⟩:=h
  obtain⟨g1,g2⟩:=abk h1
  obtain⟨g3,g4,g5⟩:=sS h2
  refine⟨by simp[g1,g3],by simp[g4],fun M hb x hx=> ?_⟩
  rcases List.mem_cons.1 hx with rfl|hx
  ·exact g2 M (hb q (by simp))
  ·exact g5 M (fun y hy=>hb y (by simp[hy])) x hx
 |[],_::_,h=>h.elim
 |_::_,[],h=>h.elim
noncomputable def stS (n:Nat) (v x:AV) (M:T) (K:T→Bool):Bool:=ej v fun s=>SY.casesOn s (fun _ _=>false) (fun _=>false) (fun _=>false) (fun _ _ _ _ _=>false) (fun _ _ _=>false) (fun _ _=>false) (fun _ _ _ _ _ _=>false)
 (fun i sz q o=>cV M i fun Ty sz' α l enc=>ae (Nat.beq sz sz') (ae (Nat.beq (cj (bD x)) n) (ae (aq (q<l.length)) (Ak (bD x) fun ps=>aj fun y=>aM (aq (l[q]?=some y)) (ee fun y'=>ae (aq (o+ps.length≤sz∧∃qs,Aq qs ps∧enc y'=(enc y).take o++qs++(enc y).drop (o+ps.length)))
  (T.set aP M i (some (.prow Ty sz α (l.set q y') enc)) K)) true)))) (fun _ _ _=>false) (fun _=>false) (fun _ _ _ _ _=>false)
noncomputable def stY (n:Nat) (v x:AV) (M:T) (K:T→Bool):Bool:=aM (dx v) (stS n v x M K) (cU n v x M K)
theorem Es {α:Type} {enc:α→List PL} {sz:Nat} {l:List α} {q o:Nat} {y y':α} {ps:List PL} (hl:∀x∈l,(enc x).length=sz) (hx:l[q]?=some y) (ho:o+ps.length≤sz) (he:enc y'=(enc y).take o++ps++(enc y).drop (o+ps.length)):
  (l.set q y').flatMap enc=(l.flatMap enc).take (q*sz+o)++ps++(l.flatMap enc).drop (q*sz+o+ps.length):=by
 have hmem:∀e∈l.map enc,e.length=sz:=fun e he=>by
  obtain⟨y,hy,rfl⟩:=List.mem_map.1 he
  exact hl y hy
 have hy:=hl y (al7 hx)
 have:=Cn (els:=l.map enc) (sz:=sz) (q:=q) (r:=o) (el:=enc y) (vs:=ps) hmem (by rw[amn,hx];rfl) (by omega)
 rw[List.flatMap_def,List.flatMap_def,←this,List.map_set]
 congr 1
 have hq:=(List.getElem?_eq_some_iff.1 hx).1
 rw[List.set_eq_take_append_cons_drop,if_pos (by simpa using hq),he]
 simp
theorem aeb (hE:cK E) (h:Sim E ρ G F M nx w) {n:Nat} {v x:AV} {K:T→Bool} {p y:Value} (hv:den E ρ v=some p) (hx:den E ρ x=some y) (hk:stY n v x M K=true) {t:TypeId} (hs:bH P t=some n):
  ∃M' w',Sim E ρ G F M' nx w'∧K M'=true∧(Instr.storeAt t p y).run P w= .ok () w':=by
 rcases aL hk with⟨-,g⟩|⟨-,g⟩
 ·replace g:=co g
  obtain⟨s,rfl,g⟩:=g
  cases s<;>first|(cases g;done)|skip
  case rptr i sz q o=>
   obtain⟨e,he,rfl⟩:=nq (show aJ E ρ (.rptr i sz q o)=some p from hv)
   obtain⟨Ty,sz',α,l,enc,hi,g1⟩:=bP g
   obtain⟨g2,g3⟩:=ac g1
   have g2:=al6 g2
   subst g2
   obtain⟨g4,g5⟩:=ac g3
   obtain⟨hlt,g6⟩:=ai g5
   have hcx:=jg hE hx
   have hcl:=bA hcx
   have hn':(bD x).length=n:=by rw[←bB];exact al6 g4
   obtain⟨ps,p1,p2,g7,p3⟩:=ri hcx g6
   have hlx:l[q]?=some l[q]:=List.getElem?_eq_getElem hlt
   rcases eG (aV g7 l[q]) with⟨_,g8⟩|⟨q,_⟩
   case inr=>exact absurd hlx q
   obtain⟨y',g9⟩:=bk g8
   obtain⟨⟨ho,qs,hrow,henc⟩,g10⟩:=ai g9
   obtain⟨v1,v2,v3⟩:=sS hrow
   replace p1:=v3 _ p1
   replace p2:=p2.trans v1.symm
   rw[←v2]at ho henc
   clear hrow v1 v2 v3 g9 g8 p3 g7
   obtain⟨M',hK,hg1,hg2⟩:=T.set_ok _ _ _ _ _ g10
   obtain⟨e',q1,hsz,⟨_,q2⟩|⟨c,arr,q2,q3,r⟩⟩:=h.prow hi
   ·subst q2;simp at hlt
   rw[he]at q1;cases q1
   have hlen:q*sz+o+y.cells.toList.length≤l.length*sz:=by
    rw[p2,al4]
    have:(q+1)*sz≤l.length*sz:=Nat.mul_le_mul_right _ (by omega)
    rw[Nat.add_mul,Nat.one_mul]at this
    omega
   have hle:l.length*sz≤arr.size:=by rw[r.size];exact Nat.mul_le_mul_right _ r.le
   obtain⟨w',hr,w1,w2,w3,w4,w5,w6⟩:=kI (P:=P) (q*sz+o) y.cells.toList 0 w arr r.heap (by omega) (by
    rw[p2,List.all_map]
    exact List.all_eq_true.2 fun u hu=>oz (p1 u hu))
   rw[Nat.add_zero]at w1
   have hB:bC e (.prow Ty sz α l enc)=true:=bW q2
   have hsp:=jN y.cells.toList arr (q*sz+o) (by omega)
   have hfm:=Es q3 hlx ho henc
   refine⟨M',w',h.turn (o':=.prow Ty sz α (l.set q y') enc) (ob':=.cells (ed arr (q*sz+o) y.cells.toList) Ty (0,0)) hi he w2 w3 w4 (fun b _ hb=>w6 b hb) w1 ⟨ed arr (q*sz+o) y.cells.toList,((l.set q y').flatMap enc).map aQ,rfl,hsz,?_,eI ?_,?_,?_,?_,?_⟩ hg1 hg2 hB (bW q2),hK,?_⟩
   ·intro x hx
    rcases List.mem_or_eq_of_mem_set hx with hx|rfl
    ·exact q3 x hx
    ·rw[henc]
     have:=q3 _ (al7 hlx)
     simp only[al2,ami,amr]
     omega
   ·intro p hp
    rw[hfm]at hp
    simp only[amh]at hp
    rcases hp with(hp|hp)|hp
    ·exact r.ok p (List.mem_of_mem_take hp)
    ·exact p1 p hp
    ·exact r.ok p (List.mem_of_mem_drop hp)
   ·rw[gV,r.size,q2];simp
   ·rw[List.length_set,hsp,hfm,amg,amg,List.map_take,List.map_drop,p2,al4]
    have hlen':q*sz+o+(qs.map aQ).length≤l.length*sz:=by rw[←p2];exact hlen
    rw[al4]at hlen'
    have:=sc (arr:=arr.toList) (xs:=(l.flatMap enc).map aQ) (ys:=qs.map aQ) (o:=q*sz+o) (L:=l.length*sz) r.take (by rw[al4];exact hlen') (by rw[Array.length_toList];exact hle)
    rw[al4]at this
    exact this
   ·rw[List.length_set,q2];simpa using r.le
   ·rw[q2];simpa using r.max
   ·have hsz2:y.cells.size=n:=by rw[←Array.length_toList,hcl,hn']
    simp[Instr.storeAt,Instr.sureAddr,storeVar,Go.Eng.run_sizeOf hs,hsz2,hr]
 ·exact aec hE h hv hx g hs
end
section
variable {P:Program} {E:Env} {ρ:Ren} {G:GS} {F:List aH} {M:T} {nx:Nat} {w:World}
def tM (ao:Option Addr) (sz a b m:Nat):Value:=.slice (if m=a then ao else ao.map (·.add (a*sz))) (b - a) (m - a)
def hsl (h:Value) (sz a b:Nat):Value:=match h with|.slice ao _ cap=>tM ao sz a b cap|v=>v
def alD (h:Value) (sz a b m:Nat):Value:=match h with|.slice ao _ _=>tM ao sz a b m|v=>v
theorem Kk {M:dS} {ao:Option Addr} {n cap sz a b m:Nat} {α:Type} {l:List α} {enc:α→List PL} (h:OkP M (.imm (.slice ao n cap) sz α l enc)) (h1:a≤b) (h2:b≤l.length) (h3:b≤m) (h4:m≤cap):
  OkP M (.imm (tM ao sz a b m) sz α ((l.drop a).take (b - a)) enc):=by
 obtain⟨ao',cap',hh,c1,c2,c3,ha,hl,ho,hr⟩:=mR h
 injection hh with e1 e2 e3
 subst e1;subst e2;subst e3
 have hlen:((l.drop a).take (b - a)).length=b - a:=by rw[ami,amr];omega
 refine .imm (if m=a then ao else ao.map (·.add (a*sz))) (m - a) (by rw[hlen];rfl) (by rw[hlen];omega) (by omega) c3 (fun q=> ?_) (fun x hx=>hl x (List.mem_of_mem_drop (List.mem_of_mem_take hx))) (fun x hx=>ho x (List.mem_of_mem_drop (List.mem_of_mem_take hx))) (fun i x hx=> ?_)
 ·rw[hlen]at q
  rw[if_neg (by omega),ha (by omega)]
  simp[bQ,blk,lS]
 ·have hi:i<b - a:=by
   have:=(List.getElem?_eq_some_iff.1 hx).1
   omega
  rw[amk hi,List.getElem?_drop]at hx
  have:=hr (a+i) x hx
  rw[if_neg (by omega),ha (by omega)]
  rw[ha (by omega)]at this
  simp only[Option.map_some,bQ,blk,lS]at this ⊢
  rw[Nat.add_mul,←Nat.add_assoc]at this
  exact this
noncomputable def iT (d:Int) (o:Option AV) (K:Int→Bool):Bool:=Option.casesOn o (K d) fun v=>iE v fun _ z=>K z
theorem ew {d:Int} {o:Option AV} {xo:Option Value} {K:Int→Bool} (hd:mq E ρ o xo) (h:iT d o K=true):∃z,K z=true∧((o=none∧xo=none∧z=d)∨∃k,xo=some (.int (ca k) z)):=by
 rcases hd with⟨rfl,rfl⟩|⟨v,y,rfl,rfl,hv⟩
 ·exact⟨d,h,.inl ⟨rfl,rfl,rfl⟩⟩
 ·obtain⟨k,z,rfl,g⟩:=fA (K:=fun _ z=>K z) hv h
  exact⟨z,g,.inr ⟨k,rfl⟩⟩
noncomputable def ald (sz:Nat) (v:AV) (lo hi mx:Option AV) (M:T) (K:AV→Bool):Bool:=ej v fun s=>SY.casesOn s (fun _ _=>false) (fun _=>false) (fun _=>false)
 (fun h sz' α l enc=>ae (Nat.beq sz sz') (iT 0 lo fun a=>iT (l.length:Int) hi fun b=>Option.casesOn mx
  (ae (aq (0≤a∧a≤b∧b≤(l.length:Int))) (K (.sy (.imm (hsl h sz a.toNat b.toNat) sz α ((l.drop a.toNat).take (b.toNat - a.toNat)) enc))))
  (fun _=>ae (fw hi) (iT 0 mx fun m=>ae (aq (0≤a∧a≤b∧b≤m∧m≤(l.length:Int))) (K (.sy (.imm (alD h sz a.toNat b.toNat m.toNat) sz α ((l.drop a.toNat).take (b.toNat - a.toNat)) enc)))))))
 (fun _ _ _=>false)
 (fun i n=>cV M i fun _ sz' _ l _=>ae (Nat.beq sz sz') (iT 0 lo fun a=>iT (n:Int) hi fun b=>Option.casesOn mx
  (ae (aq (0≤a∧a≤b∧b≤(l.length:Int))) (K (.sy (.psub i sz a.toNat (b.toNat - a.toNat) 0 none))))
  (fun _=>ae (fw hi) (iT 0 mx fun m=>ae (aq (n=l.length∧a=0∧b=(n:Int)∧m=(n:Int))) (K (.sy (.pfix i n n)))))))
 (fun i sz0 a n o oc=>cV M i fun _ sz' _ _ _=>ae (Nat.beq sz sz') (ae (Nat.beq sz sz0) (iT 0 lo fun x=>iT (n:Int) hi fun y=>Option.casesOn mx (ae (aq (0≤x∧x≤y∧y≤(n:Int))) (Option.casesOn oc (aj fun o:Nat=>K (.sy (.psub i sz (a+x.toNat) (y.toNat - x.toNat) o none))) (fun c=>K (.sy (.psub i sz (a+x.toNat) (y.toNat - x.toNat) (if c=a then o else a*sz) (some c)))))) (fun _=>ae (fw hi) (iT 0 mx fun m=>ae (aq (a=0∧o=0∧x=0∧y=(n:Int)∧m=(n:Int)∧oc=some n)) (K (.sy (.prow i n)))))))) (fun _ _ _ _=>false) (fun i n c=>iT 0 lo fun a=>iT (n:Int) hi fun b=>Option.casesOn mx (ae (aq (a=0∧0≤b∧b≤(n:Int)∧n≤c)) (K (.sy (.pfix i b.toNat c)))) (fun _=>false)) (fun _=>false) (fun _ _ _ _ _=>false)
noncomputable def aee (sz:Nat) (v:AV) (lo hi mx:Option AV) (M:T) (K:AV→Bool):Bool:=aM (dx v) (ald sz v lo hi mx M K) (aef sz v lo hi mx M K)
theorem cI {o:Option AV} {xo:Option Value} {z d:Int} {n dn:Nat} (hz:z=(n:Int)) (hd:d=(dn:Int)) (h:(o=none∧xo=none∧z=d)∨∃k,xo=some (.int (ca k) z)):(xo=none∧n=dn)∨∃k,xo=some (.int k (.ofNat n)):=by
 rcases h with⟨_,h1,h2⟩|⟨k,h1⟩
 ·exact .inl ⟨h1,by omega⟩
 ·exact .inr ⟨ca k,by rw[h1,hz];rfl⟩
theorem VZ (h:Sim E ρ G F M nx w) {sz:Nat} {v:AV} {lo hi mx:Option AV} {K:AV→Bool} {x:Value} {xl xh xm:Option Value} {t e:TypeId} (ht:P.underlying t=some (.slice e)) (hs:bH P e=some sz) (hv:den E ρ v=some x)
  (hlo:mq E ρ lo xl) (hhi:mq E ρ hi xh) (hmx:mq E ρ mx xm) (hk:aee sz v lo hi mx M K=true):∃u z,den E ρ u=some z∧K u=true∧(Instr.sliceAt t x xl xh xm).run P w= .ok z w:=by
 rcases aL hk with⟨-,g⟩|⟨-,g⟩
 case inr=>exact Wa h ht hs hv hlo hhi hmx g
 have hrun:∀(ao:Option Addr) (n c l hh m:Nat),(Instr.sliceBounds true n c xl xh xm).run P w= .ok (l,hh,m) w→(Instr.sliceAt t (.slice ao n c) xl xh xm).run P w= .ok (.slice (if m=l then ao else ao.map (·.add (l*sz))) (hh - l) (m - l)) w:=by
  intro ao n c l hh m hb
  simp[Instr.sliceAt,Instr.slice,run_underlying ht,hb,Go.Eng.run_sizeOf hs]
 have hno:mx=none→xm=none:=fun q=>by
  rcases hmx with⟨_,h2⟩|⟨_,_,h2,_⟩
  ·exact h2
  ·rw[q]at h2;cases h2
 have hsome:fw hi=true→xh≠none:=fun q=>by
  rcases hhi with⟨p,_⟩|⟨_,_,_,p,_⟩
  ·rw[p]at q;cases q
  ·rw[p];simp
 replace g:=co g
 obtain⟨s,rfl,g⟩:=g
 cases s<;>first|(cases g;done)|skip
 case imm hh sz' α l enc=>
  obtain⟨g1,g2⟩:=ac g
  have g1:=al6 g1
  subst g1
  obtain⟨a,g3,ha⟩:=ew hlo g2
  obtain⟨b,g4,hb⟩:=ew hhi g3
  obtain⟨h1,rfl⟩:=ep (show dQ E (.imm hh sz α l enc)=some x from hv)
  obtain⟨ao,cap,rfl,c1,c2,_⟩:=mR h1
  cases mx with
  |none=>
   have hxm:=hno rfl
   subst hxm
   obtain⟨⟨b1,b2,b3⟩,g5⟩:=ai g4
   obtain⟨a,rfl⟩:=Int.eq_ofNat_of_zero_le b1
   obtain⟨b,rfl⟩:=Int.eq_ofNat_of_zero_le (show 0≤b by omega)
   have hbd:=ck (P:=P) (isS:=true) (len:=l.length) (cap:=cap) (cI rfl (show(0:Int)=((0:Nat):Int) from rfl) ha) (cI rfl rfl hb) (.inl ⟨rfl,rfl⟩) (fun q=>absurd rfl q) (by omega) (by omega) (amj cap) w
   exact⟨.sy (.imm (tM ao sz a b cap) sz α ((l.drop a).take (b - a)) enc),tM ao sz a b cap,fy (Kk h1 (by omega) (by omega) (by omega) (amj cap)),g5,hrun ao l.length cap a b cap hbd⟩
  |some mv=>
   obtain⟨q1,g5⟩:=ac (b:=fw hi) g4
   obtain⟨m,g6,hm⟩:=ew hmx g5
   obtain⟨⟨b1,b2,b3,b4⟩,g7⟩:=ai g6
   obtain⟨a,rfl⟩:=Int.eq_ofNat_of_zero_le b1
   obtain⟨b,rfl⟩:=Int.eq_ofNat_of_zero_le (show 0≤b by omega)
   obtain⟨m,rfl⟩:=Int.eq_ofNat_of_zero_le (show 0≤m by omega)
   have hm':∃k,xm=some (.int k (.ofNat m)):=by
    rcases hm with⟨q,_⟩|⟨k,q⟩
    ·cases q
    ·exact⟨ca k,q⟩
   have hbd:=ck (P:=P) (isS:=true) (len:=l.length) (cap:=cap) (cI rfl (show(0:Int)=((0:Nat):Int) from rfl) ha) (cI rfl rfl hb) (.inr hm') (fun _=>hsome q1) (by omega) (by omega) (by omega) w
   exact⟨.sy (.imm (tM ao sz a b m) sz α ((l.drop a).take (b - a)) enc),tM ao sz a b m,fy (Kk h1 (by omega) (by omega) (by omega) (by omega)),g7,hrun ao l.length cap a b m hbd⟩
 case psub i sz0 d n o oc=>
  obtain⟨Ty,sz',α,l,enc,hi',g1⟩:=bP g
  obtain⟨g2,g3⟩:=ac g1
  have g2:=al6 g2
  subst g2
  obtain⟨g5,g6⟩:=ac g3
  have g5:=al6 g5
  subst g5
  obtain⟨a,g7,ha⟩:=ew hlo g6
  obtain⟨b,g4,hb⟩:=ew hhi g7
  simp only[den,aJ]at hv
  obtain⟨f,q1,hsz,hrow⟩:=h.prow hi'
  rw[q1]at hv
  cases mx with
  |some mv=>
   obtain⟨p1,g5⟩:=ac (b:=fw hi) g4
   obtain⟨m,g6,hm⟩:=ew hmx g5
   obtain⟨⟨rfl,rfl,rfl,rfl,rfl,rfl⟩,g8⟩:=ai g6
   have hm':∃k,xm=some (.int k (.ofNat n)):=by
    rcases hm with⟨q,_⟩|⟨k,q⟩
    ·cases q
    ·exact⟨ca k,q⟩
   rcases dp hv with⟨q2,rfl,_,rfl⟩|⟨c,q2,rfl,hc,hq⟩
   ·have hbd:=ck (P:=P) (isS:=true) (len:=0) (cap:=0) (cI (n:=0) rfl (show(0:Int)=((0:Nat):Int) from rfl) ha) (cI rfl rfl hb) (.inr hm') (fun _=>hsome p1) (by omega) (by omega) (amj 0) w
    refine⟨_,_,?_,g8,hrun none 0 0 0 0 0 hbd⟩
    simp[den,aJ,q1,ii,q2]
   ·obtain rfl:=hq n rfl
    have hbd:=ck (P:=P) (isS:=true) (len:=n) (cap:=n - 0) (cI (n:=0) rfl (show(0:Int)=((0:Nat):Int) from rfl) ha) (cI rfl rfl hb) (.inr hm') (fun _=>hsome p1) (by omega) (by omega) (by omega) w
    refine⟨_,_,?_,g8,hrun _ n (n - 0) 0 n n hbd⟩
    simp only[den,aJ,q1,ii,q2]
    by_cases q:n=0
    ·simp[q]
    ·simp[q,bQ]
  |none=>
   have hxm:=hno rfl
   subst hxm
   obtain⟨⟨b1,b2,b3⟩,g9⟩:=ai g4
   obtain⟨a,rfl⟩:=Int.eq_ofNat_of_zero_le b1
   obtain⟨b,rfl⟩:=Int.eq_ofNat_of_zero_le (show 0≤b by omega)
   rcases dp hv with⟨q2,rfl,rfl,rfl⟩|⟨c,q2,rfl,hc,hq⟩
   ·have ea:a=0:=by omega
    have eb:b=0:=by omega
    subst ea;subst eb
    have hbd:=ck (P:=P) (isS:=true) (len:=0) (cap:=0) (cI rfl (show(0:Int)=((0:Nat):Int) from rfl) ha) (cI rfl rfl hb) (.inl ⟨rfl,rfl⟩) (fun q=>absurd rfl q) (by omega) (by omega) (amj 0) w
    cases oc with
    |none=>
     refine⟨_,_,?_,aV g9 0,hrun none 0 0 0 0 0 hbd⟩
     simp[den,aJ,q1,gQ,q2]
    |some c=>
     obtain rfl:=BY hv q2
     refine⟨_,_,?_,g9,hrun none 0 0 0 0 0 hbd⟩
     simp[den,aJ,q1,gQ,q2]
   ·have hbd:=ck (P:=P) (isS:=true) (len:=n) (cap:=c - d) (cI rfl (show(0:Int)=((0:Nat):Int) from rfl) ha) (cI rfl rfl hb) (.inl ⟨rfl,rfl⟩) (fun q=>absurd rfl q) (by omega) (by omega) (by omega) w
    have e1:(a:Int).toNat=a:=Int.toNat_natCast a
    have e2:(b:Int).toNat=b:=Int.toNat_natCast b
    have key:∀oc':Option Nat,(∀q,oc'=some q→q=c)→den E ρ (.sy (.psub i sz (d+(a:Int).toNat) ((b:Int).toNat - (a:Int).toNat) (if c=d then o else d*sz) oc'))=some (.slice (if c - d=a then some ⟨f.b,if c=d then o else d*sz,none⟩ else (some ⟨f.b,if c=d then o else d*sz,none⟩:Option Addr).map (·.add (a*sz))) (b - a) (c - d - a)):=fun oc' hoc=>by
     simp only[den,aJ,q1,gQ,q2]
     rw[if_pos ⟨by simp;omega,hoc⟩]
     by_cases q:c=d+a
     ·rw[if_pos (by omega),if_pos (show c - d=a by omega),e1,e2,Nat.sub_sub]
     ·rw[if_neg (by omega),if_neg (show¬c - d=a by omega),e1,e2,Nat.sub_sub]
      have hne:¬c=d:=by omega
      simp[hne,bQ,Nat.add_mul]
    cases oc with
    |none=>exact⟨_,_,key none (fun q e=>by cases e),aV g9 _,hrun _ n (c - d) a b (c - d) hbd⟩
    |some c0=>
     obtain rfl:=hq c0 rfl
     exact⟨_,_,key (some c0) (fun q e=>by cases e;rfl),g9,hrun _ n (c0 - d) a b (c0 - d) hbd⟩
 case pfix i n c=>
  obtain⟨a,g3,ha⟩:=ew hlo g
  obtain⟨b,g4,hb⟩:=ew hhi g3
  simp only[den,aJ]at hv
  cases mx with
  |some mv=>cases g4
  |none=>
   have hxm:=hno rfl
   subst hxm
   obtain⟨⟨rfl,b1,b2,b3⟩,g5⟩:=ai g4
   obtain⟨b,rfl⟩:=Int.eq_ofNat_of_zero_le b1
   split at hv
   case h_2=>cases hv
   rename_i f q1
   have hbd:=ck (P:=P) (isS:=true) (len:=n) (cap:=c) (cI (n:=0) rfl (show(0:Int)=((0:Nat):Int) from rfl) ha) (cI rfl rfl hb) (.inl ⟨rfl,rfl⟩) (fun q=>absurd rfl q) (by omega) (by omega) (amj c) w
   have e2:(b:Int).toNat=b:=Int.toNat_natCast b
   unfold kx at hv
   split at hv
   ·rename_i q2
    split at hv
    case isFalse=>cases hv
    rename_i q3
    obtain⟨rfl,rfl⟩:=q3
    cases hv
    have eb:b=0:=by omega
    subst eb
    refine⟨_,_,?_,g5,hrun none 0 0 0 0 0 hbd⟩
    simp[den,aJ,q1,kx,q2]
   ·rename_i c' q2
    cases hv
    refine⟨_,_,?_,g5,hrun _ n c 0 b c hbd⟩
    simp only[den,aJ,q1,kx,q2,e2]
    by_cases q:c=0
    ·simp[q]
    ·simp[q,bQ]
 case prow i n=>
  obtain⟨Ty,sz',α,l,enc,hi',g1⟩:=bP g
  obtain⟨g2,g3⟩:=ac g1
  have g2:=al6 g2
  subst g2
  obtain⟨a,g3,ha⟩:=ew hlo g3
  obtain⟨b,g4,hb⟩:=ew hhi g3
  simp only[den,aJ]at hv
  obtain⟨f,q1,hsz,hrow⟩:=h.prow hi'
  rw[q1]at hv
  cases mx with
  |none=>
   have hxm:=hno rfl
   subst hxm
   obtain⟨⟨b1,b2,b3⟩,g5⟩:=ai g4
   obtain⟨a,rfl⟩:=Int.eq_ofNat_of_zero_le b1
   obtain⟨b,rfl⟩:=Int.eq_ofNat_of_zero_le (show 0≤b by omega)
   rcases hrow with⟨q2,q3⟩|⟨c,arr,q2,q3,r⟩
   ·rcases cZ hv with⟨_,rfl,rfl⟩|⟨c,q4,_⟩
    ·have q3l:l.length=0:=by rw[q3];rfl
     have ea:a=0:=by omega
     have eb:b=0:=by omega
     subst ea;subst eb
     have hbd:=ck (P:=P) (isS:=true) (len:=0) (cap:=0) (cI rfl (show(0:Int)=((0:Nat):Int) from rfl) ha) (cI rfl rfl hb) (.inl ⟨rfl,rfl⟩) (fun q=>absurd rfl q) (by omega) (by omega) (amj 0) w
     refine⟨_,_,?_,g5,hrun none 0 0 0 0 0 hbd⟩
     simp[den,aJ,q1,gQ,q2]
    ·omega
   ·rcases cZ hv with⟨q4,_⟩|⟨c',q4,rfl⟩
    ·omega
    ·have:c'=c:=by omega
     subst this
     have hle:=r.le
     have hbd:=ck (P:=P) (isS:=true) (len:=n) (cap:=c') (cI rfl (show(0:Int)=((0:Nat):Int) from rfl) ha) (cI rfl rfl hb) (.inl ⟨rfl,rfl⟩) (fun q=>absurd rfl q) (by omega) (by omega) (amj c') w
     refine⟨_,_,?_,g5,hrun _ n c' a b c' hbd⟩
     simp only[den,aJ,q1,gQ,q2]
     rw[if_pos ⟨by omega,fun q e=>by cases e⟩]
     by_cases q:c'=a
     ·simp[q]
     ·simp[q,bQ]
  |some mv=>
   obtain⟨p1,g5⟩:=ac (b:=fw hi) g4
   obtain⟨m,g6,hm⟩:=ew hmx g5
   obtain⟨⟨b0,b1,b2,b3⟩,g7⟩:=ai g6
   subst b1;subst b2;subst b3
   have hm':∃k,xm=some (.int k (.ofNat n)):=by
    rcases hm with⟨q,_⟩|⟨k,q⟩
    ·cases q
    ·exact⟨ca k,q⟩
   rcases hrow with⟨q2,q3⟩|⟨c,arr,q2,q3,r⟩
   ·rcases cZ hv with⟨_,rfl,rfl⟩|⟨c,q4,_⟩
    ·have hbd:=ck (P:=P) (isS:=true) (len:=0) (cap:=0) (cI (n:=0) rfl (show(0:Int)=((0:Nat):Int) from rfl) ha) (cI rfl rfl hb) (.inr hm') (fun _=>hsome p1) (by omega) (by omega) (amj 0) w
     refine⟨_,_,?_,g7,hrun none 0 0 0 0 0 hbd⟩
     simp[den,aJ,q1,kx,q2]
    ·omega
   ·rcases cZ hv with⟨q4,_⟩|⟨c',q4,rfl⟩
    ·omega
    ·have:c'=c:=by omega
     subst this
     have hle:=r.le
     have hbd:=ck (P:=P) (isS:=true) (len:=n) (cap:=c') (cI (n:=0) rfl (show(0:Int)=((0:Nat):Int) from rfl) ha) (cI rfl rfl hb) (.inr hm') (fun _=>hsome p1) (by omega) (by omega) (by omega) w
     refine⟨_,_,?_,g7,hrun _ n c' 0 n n hbd⟩
     simp only[den,aJ,q1,kx,q2]
     by_cases q:n=0
     ·simp[q]
     ·simp[q,bQ]
def ku (h:Value):Prop:=∃n c,h= .slice none n c
noncomputable def aed (v:AV) (lo hi:Option AV) (K:AV→Bool):Bool:=qT v fun l=>iT 0 lo fun a=>iT (l.length:Int) hi fun b=>ae (aq (0≤a∧a≤b∧b≤(l.length:Int))) (K (.sy (.str ((l.drop a.toNat).take (b.toNat - a.toNat)))))
theorem VY {v:AV} {lo hi:Option AV} {K:AV→Bool} {x:Value} {xl xh:Option Value} {t:TypeId} (ht:P.underlying t=some .string) (hv:den E ρ v=some x)
  (hlo:mq E ρ lo xl) (hhi:mq E ρ hi xh) (hk:aed v lo hi K=true):∃u z,den E ρ u=some z∧K u=true∧∀w,(Instr.sliceAt t x xl xh none).run P w= .ok z w:=by
 obtain⟨l,rfl,g1⟩:=gW hv hk
 obtain⟨a,g3,ha⟩:=ew hlo g1
 obtain⟨b,g4,hb⟩:=ew hhi g3
 obtain⟨⟨b1,b2,b3⟩,g5⟩:=ai g4
 obtain⟨a,rfl⟩:=Int.eq_ofNat_of_zero_le b1
 obtain⟨b,rfl⟩:=Int.eq_ofNat_of_zero_le (show 0≤b by omega)
 refine⟨_,_,rfl,g5,fun w=> ?_⟩
 have hsz:ByteArray.size ⟨l.toArray⟩=l.length:=by simp[ByteArray.size]
 have hbd:=ck (P:=P) (isS:=false) (len:=l.length) (cap:=l.length) (cI rfl (show(0:Int)=((0:Nat):Int) from rfl) ha) (cI rfl rfl hb) (.inl ⟨rfl,rfl⟩) (fun q=>absurd rfl q) (by omega) (by omega) (amj _) w
 have hx:ByteArray.extract ⟨l.toArray⟩ a b=⟨((l.drop a).take (b - a)).toArray⟩:=by
  apply ByteArray.ext
  rw[ByteArray.data_extract]
  apply Array.ext'
  simp[List.extract]
 simp[Instr.sliceAt,Instr.slice,run_underlying ht,hsz,hbd,hx,S]
noncomputable def alA (ne:Bool) (kd:Nat) (v:AV) (K:AV→Bool):Bool:=ae (Nat.beq kd 2) (ej v fun s=>SY.casesOn s (fun _ _=>false) (fun _=>false) (fun _=>false)
 (fun h _ _ l _=>aM (aq (ku h→l=[])) (Bool.rec (K (.sy (.bool (ku h)))) (K (.sy (.bool (¬ku h)))) ne) true) (fun _ _ _=>false) (fun _ n=>aj fun p:Prop=>aM (aq (p→n=0)) (Bool.rec (K (.sy (.bool p))) (K (.sy (.bool (¬p)))) ne) true) (fun _ _ _ _ _ _=>false) (fun _ _ _ _=>false) (fun _ _ _=>false) (fun _=>false) (fun _ _ _ _ _=>false))
noncomputable def agc (ne:Bool) (v:AV) (K:AV→Bool):Bool:=ej v fun s=>SY.casesOn s (fun _ _=>false) (fun _=>false) (fun _=>false) (fun _ _ _ _ _=>false) (fun _ _ _=>K (.bool ne)) (fun _ _=>false) (fun _ _ _ _ _ _=>false) (fun _ _ _ _=>false) (fun _ _ _=>false) (fun _=>false)
 (fun _ f _ x _=>ae f (Bool.rec (K (.sy (.bool (x=none)))) (K (.sy (.bool (¬x=none)))) ne))
noncomputable def aga (ne:Bool) (kd:Nat) (v:AV) (K:AV→Bool):Bool:=aM (dx v) (aM (Nat.beq kd 1) (agc ne v K) (alA ne kd v K)) (agb ne kd v K)
theorem rr (p:Prop):aq (¬p)= !aq p:=by
 by_cases hp:p
 ·rw[prB_true.2 hp,prB_false.2 (fun q=>q hp)];rfl
 ·rw[prB_false.2 hp,prB_true.2 hp];rfl
open Classical in
theorem YN {ne:Bool} {v:AV} {K:AV→Bool} {x:Value} {t:TypeId} {y:Value} (hn:tp P t 1=some y) (h1:den E ρ v=some x) (h:agc ne v K=true) (p:Operand) (c:Value):
  ∃u z,den E ρ u=some z∧K u=true∧∀w,((do eqGuard (bif ne then .neq else .eql) t p (.const c) x y;binOp (bif ne then .neq else .eql) t x y):Sem Value).run P w= .ok z w:=by
 have hty:∃e,P.underlying t=some (.pointer e)∧y= .pointer none:=by
  unfold tp at hn
  split at hn<;>first|(cases hn;done)|skip
  all_goals(rename_i q;first|(cases hn;exact⟨_,by assumption,rfl⟩)|skip)
  all_goals simp_all
 obtain⟨e,hu,rfl⟩:=hty
 have hr:∀(ao:Option Addr) (w:World),((do eqGuard (bif ne then .neq else .eql) t p (.const c) (.pointer ao) (.pointer none);binOp (bif ne then .neq else .eql) t (.pointer ao) (.pointer none)):Sem Value).run P w= .ok (.bool (bif ne then !ao.isNone else ao.isNone)) w:=by
  intro ao w
  have ho:∀x y:Value,Op.equal t x y=Op.equalIn (9999+1) t x y:=fun _ _=>rfl
  cases ne<;>simp[eqGuard,binOp,ho,oq hu]
 obtain⟨s,rfl,g⟩:=co h
 cases s<;>first|(cases g;done)|skip
 case pim b o cs=>
  have h1:(if (∀p∈cs,OkP E.M p)∧MRow E.M b o (cs.map aQ) then some (Value.pointer (some ⟨b,o,none⟩)) else none)=some x:=h1
  split at h1
  ·cases h1
   refine⟨_,_,rfl,g,fun w=> ?_⟩
   rw[hr]
   cases ne<;>rfl
  ·cases h1
 case vl hh f α xo enc=>
  obtain⟨rfl,g⟩:=ac g
  have h1:(if Value.oneCell' hh=true∧(true=true→IptOk E.M hh α xo enc) then some hh else none)=some x:=h1
  split at h1
  ·rename_i hq
   cases h1
   have hi:=hq.2 rfl
   cases xo with
   |none=>
    obtain rfl:x= .pointer none:=hi
    cases ne with
    |false=>exact⟨.sy (.bool ((none:Option α)=none)),_,rfl,g,fun w=>by rw[hr,prB_true.2 rfl];rfl⟩
    |true=>exact⟨.sy (.bool (¬(none:Option α)=none)),_,rfl,g,fun w=>by rw[hr,rr,prB_true.2 rfl];rfl⟩
   |some yv=>
    obtain⟨b,o,rfl,_⟩:=hi
    have hno:aq (some yv=none)=false:=prB_false.2 (by simp)
    cases ne with
    |false=>exact⟨.sy (.bool (some yv=none)),_,rfl,g,fun w=>by rw[hr,hno];rfl⟩
    |true=>exact⟨.sy (.bool (¬some yv=none)),_,rfl,g,fun w=>by rw[hr,rr,hno];rfl⟩
  ·cases h1
theorem YL {ne:Bool} {kd:Nat} {v:AV} {K:AV→Bool} {x:Value} {t:TypeId} {y:Value} (hn:tp P t kd=some y) (h1:den E ρ v=some x) (h:aga ne kd v K=true) (p:Operand) (c:Value):
  ∃u z,den E ρ u=some z∧K u=true∧∀w,((do eqGuard (bif ne then .neq else .eql) t p (.const c) x y;binOp (bif ne then .neq else .eql) t x y):Sem Value).run P w= .ok z w:=by
 rcases aL h with⟨-,g⟩|⟨-,g⟩
 case inr=>exact YM hn h1 g p c
 rcases aL g with⟨hk,g3⟩|⟨-,g3⟩
 ·have:=al6 hk
  subst this
  exact YN hn h1 g3 p c
 replace g:=g3
 clear g3
 obtain⟨g1,g2⟩:=ac g
 have g1:=al6 g1
 subst g1
 have hty:∃e,P.underlying t=some (.slice e)∧y= .slice none 0 0:=by
  unfold tp at hn
  split at hn<;>first|(cases hn;done)|skip
  all_goals(rename_i q;first|(cases hn;exact⟨_,by assumption,rfl⟩)|skip)
  all_goals simp_all
 obtain⟨e,hu,rfl⟩:=hty
 have hr:∀(ao:Option Addr) (n cc:Nat) (w:World),((do eqGuard (bif ne then .neq else .eql) t p (.const c) (.slice ao n cc) (.slice none 0 0);binOp (bif ne then .neq else .eql) t (.slice ao n cc) (.slice none 0 0)):Sem Value).run P w= .ok (.bool (bif ne then !ao.isNone else ao.isNone)) w:=by
  intro ao n cc w
  have ho:∀x y:Value,Op.equal t x y=Op.equalIn (9999+1) t x y:=fun _ _=>rfl
  cases ne<;>simp[eqGuard,binOp,ho,qJ hu]
 replace g2:=co g2
 clear g h
 obtain⟨s,rfl,g⟩:=g2
 cases s<;>first|(cases g;done)|skip
 case imm hh sz α l enc=>
  obtain⟨h1,rfl⟩:=ep (show dQ E (.imm hh sz α l enc)=some x from h1)
  obtain⟨ao,cap,rfl,_,_,_,ha,_⟩:=mR h1
  have hl0:ku (.slice ao l.length cap)→l=[]:=fun⟨_,_,q⟩=>by
   injection q with q
   subst q
   rcases Nat.eq_zero_or_pos l.length with z|z
   ·exact amo z
   ·exact absurd (ha z) (by simp)
  have g:(Bool.rec (K (.sy (.bool (ku (.slice ao l.length cap))))) (K (.sy (.bool (¬ku (.slice ao l.length cap))))) ne:Bool)=true:=by
   have g':aM (aq (ku (.slice ao l.length cap)→l=[])) (Bool.rec (K (.sy (.bool (ku (.slice ao l.length cap))))) (K (.sy (.bool (¬ku (.slice ao l.length cap))))) ne) true=true:=g
   rwa[prB_true.2 hl0]at g'
  have hnil:aq (ku (.slice ao l.length cap))=ao.isNone:=by
   cases ao with
   |none=>exact prB_true.2 ⟨_,_,rfl⟩
   |some a=>exact prB_false.2 (fun⟨_,_,q⟩=>by injection q with q;cases q)
  cases ne with
  |false=>exact⟨.sy (.bool (ku (.slice ao l.length cap))),_,rfl,g,fun w=>by rw[hnil];exact hr ao _ _ w⟩
  |true=>exact⟨.sy (.bool (¬ku (.slice ao l.length cap))),_,rfl,g,fun w=>by rw[rr,hnil];exact hr ao _ _ w⟩
 case prow i n=>
  simp only[den,aJ]at h1
  split at h1
  case h_2=>cases h1
  have key:∃ao n' c',x= .slice ao n' c'∧(ao.isNone=true→n=0):=by
   rcases cZ h1 with⟨_,rfl,rfl⟩|⟨c,_,rfl⟩
   ·exact⟨_,_,_,rfl,fun _=>rfl⟩
   ·exact⟨_,_,_,rfl,fun q=>by cases q⟩
  obtain⟨ao,n',c',rfl,hn0⟩:=key
  rcases eG (aV g (ao.isNone=true)) with⟨_,g⟩|⟨q,_⟩
  ·cases ne with
   |false=>exact⟨.sy (.bool (ao.isNone=true)),_,rfl,g,fun w=>by rw[oH];exact hr ao _ _ w⟩
   |true=>exact⟨.sy (.bool (¬ao.isNone=true)),_,rfl,g,fun w=>by rw[rr,oH];exact hr ao _ _ w⟩
  ·exact absurd hn0 q
theorem Sim.freeze (h:Sim E ρ G F M nx w) {i:Nat} {o:AObj} {e:cM} {M':T} (hi:M.get i=some o) (he:ρ i=some e) (hB:bC e o=true) (h1:M'.get i=none) (h2:∀m,m≠i→M'.get m=M.get m):
  ∃ob E',kG ρ E E'∧E'.at_=E.at_∧E'.M e.b=some ob∧ORel E ρ e o ob∧Sim E' ρ G F M' nx w:=by
 obtain⟨D_,F_,c,hF_,hq_,hh,ho,hinj⟩:=h.ex
 obtain⟨f,a1,⟨_,ob,a2,a3⟩|⟨q,_⟩⟩:=ho i o hi
 case inr=>rw[he]at a1;cases a1;rw[hB]at q;cases q
 rw[he]at a1;cases a1
 obtain⟨A,B,rfl⟩:=List.append_of_mem a2
 have hh':Holds {G with M:=E.M} w ([(e.b,ob)]::(A++B)::F_):=hh.perm (by
  simp only[al8,List.cons_append,amc,List.append_assoc]
  exact List.perm_middle.symm)
 obtain⟨t1,t2,t3⟩:=hh'.toG
 refine⟨ob,⟨E.at_,(GS.add {G with M:=E.M} [(e.b,ob)]).M⟩,⟨fun _ _ _=>rfl,t1.mem⟩,rfl,t3 (e.b,ob) (by simp),a3,⟨D_,F_,A++B,hF_,hq_.sub t1.mem (fun m_ o_ hm_=>by
  by_cases q_:m_=i
  ·subst q_
   rw[h1]at hm_;cases hm_
  ·rw[←h2 m_ q_];exact hm_),t2,fun k o2 hk=> ?_,fun k l e' f' o1 o2 hk hl he' hf' hb1 hb2 hb=> ?_⟩,MLe.trans h.mem t1.mem,h.fresh⟩
 ·have hki:k≠i:=fun q=>by subst q;rw[h1]at hk;cases hk
  rw[h2 k hki]at hk
  obtain⟨f,b1,⟨b0,ob2,b2,b3⟩|b4⟩:=ho k o2 hk
  ·refine⟨f,b1,.inl ⟨b0,ob2,?_,ORel.env (E:=E) (E':=⟨E.at_,(GS.add {G with M:=E.M} [(e.b,ob)]).M⟩) ⟨fun _ _ _=>rfl,t1.mem⟩ b3⟩⟩
   simp only[amh,List.mem_cons]at b2 ⊢
   rcases b2 with b2|b2|b2
   ·exact .inl b2
   ·exfalso
    injection b2 with b2 _
    exact hki (hinj k i f e _ _ hk hi b1 he b0 hB b2)
   ·exact .inr b2
  ·exact⟨f,b1,.inr b4⟩
 ·have hki:k≠i:=fun q=>by subst q;rw[h1]at hk;cases hk
  have hli:l≠i:=fun q=>by subst q;rw[h1]at hl;cases hl
  rw[h2 k hki]at hk
  rw[h2 l hli]at hl
  exact hinj k l e' f' _ _ hk hl he' hf' hb1 hb2 hb
theorem AI {E':Env} {e:cM} {Ty sz c m:Nat} {α:Type} {l:List α} {enc:α→List PL} {arr:Array Value} (hm:MLe E.M E'.M) (hM:E'.M e.b=some (.cells arr Ty (0,0))) (hsz:0<sz) (hl:∀x∈l,(enc x).length=sz) (r:RowAt E w e Ty sz (l.flatMap enc) l.length c arr) (h1:l.length≤m) (h2:m≤c):
  OkP E'.M (.imm (.slice (some ⟨e.b,0,none⟩) l.length m) sz α l enc):=by
 refine .imm (some ⟨e.b,0,none⟩) m rfl h1 (Nat.le_trans h2 r.max) hsz (fun _=>rfl) hl (fun x hx p hp=>(r.ok p (List.mem_flatMap.2 ⟨x,hx,hp⟩)).mono hm) (fun i x hx j v hv=> ?_)
 rw[amn]at hv
 rcases hp:(enc x)[j]? with _|p
 ·rw[hp]at hv;cases hv
 rw[hp]at hv
 have hf:=pm hl hx hp
 have:((l.flatMap enc).map aQ)[i*sz+j]?=some v:=by rw[amn,hf];exact hv
 rw[←r.take]at this
 have hlt:i*sz+j<l.length*sz:=by
  have:=(List.getElem?_eq_some_iff.1 this).1
  rw[ami]at this;omega
 rw[amk hlt]at this
 simp only[blk,lS,Nat.zero_add,gn,hM]
 simpa using this
noncomputable def QN (i n:Nat) (M:T) (K:AV→T→Bool):Bool:=cV M i fun _ sz α l enc=>ae (aq (n=l.length)) (T.set aP M i none fun M'=>aj fun h:Value=>K (.sy (.imm h sz α l enc)) M')
noncomputable def xz (v:AV) (M:T) (K:AV→T→Bool):Bool:=aM (dx v) (ej v fun s=>SY.casesOn s (fun _ _=>K v M) (fun _=>K v M) (fun _=>K v M) (fun _ _ _ _ _=>K v M) (fun _ _ _=>false) (fun i n=>QN i n M K) (fun _ _ _ _ _ _=>false) (fun _ _ _ _=>false) (fun i n m=>ae (aq (n=m)) (QN i n M K)) (fun _=>false) (fun _ _ _ _ _=>false))
 (SZ v fun _=>K v M)
theorem NC {v:AV} {x:Value} {K:PL→Bool} (hd:den E ρ v=some x) (h:SZ v K=true):den E (fun _=>none) v=some x:=by
 cases v<;>first|(cases h;done)|exact hd|skip
 case sy s=>
  cases s<;>first|(cases h;done)|exact hd
theorem FR (h:Sim E ρ G F M nx w) {i n m:Nat} {x:Value} {K:AV→T→Bool} (hd:aJ E ρ (.prow i n)=some x∨(n=m∧aJ E ρ (.pfix i n m)=some x)) (hkk:QN i n M K=true):
  ∃E' M' v,kG ρ E E'∧E'.at_=E.at_∧Sim E' ρ G F M' nx w∧den E' (fun _=>none) v=some x∧K v M'=true:=by
 obtain⟨Ty,sz,α,l,enc,hi,g1⟩:=bP hkk
 obtain⟨hn,g2⟩:=ai g1
 obtain⟨M',g3,s1,s2⟩:=T.set_ok _ _ _ _ _ g2
 obtain⟨e,q1,hsz,hrow⟩:=h.prow hi
 have hform:(e.cap=0∧n=0∧x= .slice none 0 0)∨∃c mm,e.cap=c+1∧x= .slice (some ⟨e.b,0,none⟩) n mm∧(mm=c∨mm=n):=by
  rcases hd with hd|⟨rfl,hd⟩
  ·simp only[aJ,q1]at hd
   rcases cZ hd with q|⟨c,q2,q3⟩
   ·exact .inl q
   ·exact .inr ⟨c,c,q2,q3,.inl rfl⟩
  ·simp only[aJ,q1]at hd
   rcases dP hd with⟨q,q2,_,q3⟩|⟨c,q2,q3⟩
   ·exact .inl ⟨q,q2,q3⟩
   ·exact .inr ⟨c,n,q2,q3,.inr rfl⟩
 rcases hrow with⟨q2,q3⟩|⟨c,arr,q2,q3,r⟩
 ·rcases hform with⟨_,_,rfl⟩|⟨c,_,q4,_⟩
  ·subst q3
   refine⟨E,M',_,⟨fun _ _ _=>rfl,MLe.refl _⟩,rfl,?_,?_,aV g3 (.slice none 0 0)⟩
   ·obtain⟨D_,F_,cc,hF_,hq_,hh,ho,hinj⟩:=h.ex
    refine⟨⟨D_,F_,cc,hF_,hq_.sub (MLe.refl _) (fun m_ o_ hm_=>by
     by_cases q_:m_=i
     ·subst q_
      rw[s1]at hm_;cases hm_
     ·rw[←s2 m_ q_];exact hm_),hh,fun k o2 hk=> ?_,fun k l e' f' o1 o2 hk hl=> ?_⟩,h.mem,h.fresh⟩
    ·have hki:k≠i:=fun q=>by subst q;rw[s1]at hk;cases hk
     rw[s2 k hki]at hk
     exact ho k o2 hk
    ·have hki:k≠i:=fun q=>by subst q;rw[s1]at hk;cases hk
     have hli:l≠i:=fun q=>by subst q;rw[s1]at hl;cases hl
     rw[s2 k hki]at hk
     rw[s2 l hli]at hl
     exact hinj k l e' f' o1 o2 hk hl
   ·show dQ E _=_
    exact fy (.imm none 0 rfl (by simp) (by decide) hsz (fun q=>by simp at q) (fun x hx=>by simp at hx) (fun x hx=>by simp at hx) (fun i x hx=>by simp at hx))
  ·omega
 ·rcases hform with⟨q4,_⟩|⟨c',mm,q4,rfl,q5⟩
  ·omega
  ·have:c'=c:=by omega
   subst this
   have hB:bC e (.prow Ty sz α l enc)=true:=bW q2
   obtain⟨ob,E',f1,f2,f3,f4,f5⟩:=h.freeze hi q1 hB s1 s2
   have hob:ob= .cells arr Ty (0,0):=by
    obtain⟨G',_,hh,hM⟩:=f5.holds
    have:=hh.mem e.b ob (by rw[hM];exact f3)
    rw[r.heap]at this
    exact(amp this).symm
   subst hob
   subst hn
   refine⟨E',M',_,f1,f2,f5,?_,aV g3 (.slice (some ⟨e.b,0,none⟩) l.length mm)⟩
   show dQ E' _=_
   have hle:=r.le
   exact fy (AI f1.mem f3 hsz q3 r (by rcases q5 with rfl|rfl<;>omega) (by rcases q5 with rfl|rfl<;>omega))
theorem rD (h:Sim E ρ G F M nx w) {v:AV} {x:Value} {K:AV→T→Bool} (hd:den E ρ v=some x) (hk:xz v M K=true):
  ∃E' M' u,kG ρ E E'∧E'.at_=E.at_∧Sim E' ρ G F M' nx w∧den E' (fun _=>none) u=some x∧K u M'=true:=by
 rcases aL hk with⟨-,g⟩|⟨-,g⟩
 ·replace g:=co g
  obtain⟨s,rfl,g⟩:=g
  cases s<;>first|(cases g;done)|skip
  case int=>exact⟨E,M,.sy (.int _ _),⟨fun _ _ _=>rfl,MLe.refl _⟩,rfl,h,hd,g⟩
  case bool=>exact⟨E,M,.sy (.bool _),⟨fun _ _ _=>rfl,MLe.refl _⟩,rfl,h,hd,g⟩
  case str=>exact⟨E,M,.sy (.str _),⟨fun _ _ _=>rfl,MLe.refl _⟩,rfl,h,hd,g⟩
  case imm=>exact⟨E,M,.sy (.imm _ _ _ _ _),⟨fun _ _ _=>rfl,MLe.refl _⟩,rfl,h,hd,g⟩
  case prow i n=>exact FR (m:=0) h (.inl hd) g
  case pfix i n m=>
   obtain⟨g1,g2⟩:=ai g
   exact FR (m:=m) h (.inr ⟨g1,hd⟩) g2
 ·have:=NC hd g
  obtain⟨p,_,_,g⟩:=JE (K:=fun _=>K v M) hd g
  exact⟨E,M,_,⟨fun _ _ _=>rfl,MLe.refl _⟩,rfl,h,this,g⟩
end
section
variable {P:Program} {E:Env} {ρ:Ren} {G:GS} {F:List aH} {M:T} {nx:Nat} {w:World}
structure Ju (E:Env) (w:World) (x:Value) (sz m:Nat) (ps:List PL):Prop where
 form:∃ao c,x= .slice ao m c∧(0<m→∃b o,ao=some ⟨b,o,none⟩∧∀j u,(ps.map aQ)[j]?=some u→w.cell? ⟨b,o+j,none⟩=some u)
 len:ps.length=m*sz
 ok:∀p∈ps,OkP E.M p
noncomputable def Hi (sz:Nat) (v:AV) (M:T) (K:(α:Type)→List α→(α→List PL)→Bool):Bool:=ej v fun s=>SY.casesOn s (fun _ _=>false) (fun _=>false) (fun _=>false)
 (fun _ sz' α l enc=>ae (Nat.beq sz sz') (K α l enc)) (fun _ _ _=>false)
 (fun i n=>cV M i fun _ sz' α l enc=>ae (Nat.beq sz sz') (ae (aq (n=l.length)) (K α l enc)))
 (fun i sz0 a n _ _=>cV M i fun _ sz' α l enc=>ae (Nat.beq sz sz') (ae (Nat.beq sz sz0) (ae (aq (a+n≤l.length)) (K α ((l.drop a).take n) enc))))
 (fun _ _ _ _=>false)
 (fun i n _=>cV M i fun _ sz' α l enc=>ae (Nat.beq sz sz') (ae (aq (n=l.length)) (K α l enc))) (fun _=>false) (fun _ _ _ _ _=>false)
theorem RowAt.cells {e:cM} {Ty sz n c:Nat} {ps:List PL} {arr:Array Value} (r:RowAt E w e Ty sz ps n c arr) (a:Nat):∀j v,((ps.drop a).map aQ)[j]?=some v→w.cell? ⟨e.b,a+j,none⟩=some v:=fun j v hv=>by
 rw[List.map_drop,List.getElem?_drop]at hv
 exact r.cell hv
theorem jb {α:Type} {enc:α→List PL} {sz:Nat}:∀{l:List α} (a:Nat),(∀x∈l,(enc x).length=sz)→(l.drop a).flatMap enc=(l.flatMap enc).drop (a*sz)
 |l,0,_=>by simp
 |[],a+1,_=>by simp
 |x::l,a+1,h=>by
  rw[List.drop_succ_cons,jb a fun y hy=>h y (by simp[hy]),List.flatMap_cons,List.drop_append,List.drop_eq_nil_of_le (as:=enc x) (by rw[h x (by simp),Nat.add_mul];omega),h x (by simp)]
  rw[show(a+1)*sz - sz=a*sz by rw[Nat.add_mul];omega]
  simp
theorem qG {α:Type} {enc:α→List PL} {sz:Nat}:∀{l:List α} (a:Nat),(∀x∈l,(enc x).length=sz)→(l.take a).flatMap enc=(l.flatMap enc).take (a*sz)
 |l,0,_=>by simp
 |[],a+1,_=>by simp
 |x::l,a+1,h=>by
  rw[List.take_succ_cons,List.flatMap_cons,qG a fun y hy=>h y (by simp[hy]),List.flatMap_cons,List.take_append,List.take_of_length_le (l:=enc x) (by rw[h x (by simp),Nat.add_mul];omega),h x (by simp)]
  rw[show(a+1)*sz - sz=a*sz by rw[Nat.add_mul];omega]
theorem rk (h:Sim E ρ G F M nx w) {sz:Nat} {v:AV} {K:(α:Type)→List α→(α→List PL)→Bool} {x:Value} (hv:den E ρ v=some x) (hk:Hi sz v M K=true):
  ∃α l enc,K α l enc=true∧(∀x∈l,(enc x).length=sz)∧0<sz∧Ju E w x sz l.length (l.flatMap enc):=by
 replace hk:=co hk
 obtain⟨s,rfl,g⟩:=hk
 cases s<;>first|(cases g;done)|skip
 case imm hh sz' α l enc=>
  obtain⟨g1,g2⟩:=ac g
  have g1:=al6 g1
  subst g1
  obtain⟨h1,rfl⟩:=ep (show dQ E (.imm hh sz α l enc)=some x from hv)
  obtain⟨ao,cap,rfl,c1,c2,c3,ha,hl,ho,hr⟩:=mR h1
  refine⟨α,l,enc,g2,hl,c3,⟨ao,cap,rfl,fun q=>⟨_,_,ha q,fun j u hu=> ?_⟩⟩,db hl,fun p hp=> ?_⟩
  ·rw[amn]at hu
   rcases hp:(l.flatMap enc)[j]? with _|p
   ·rw[hp]at hu;cases hu
   rw[hp]at hu
   have hj:=(List.getElem?_eq_some_iff.1 hp).1
   rw[db hl]at hj
   have hq:j / sz<l.length:=Nat.div_lt_of_lt_mul (by rw[Nat.mul_comm];exact hj)
   have hx:l[j / sz]?=some l[j / sz]:=List.getElem?_eq_getElem hq
   have hm:=Nat.mod_lt j c3
   have hp2:(enc l[j / sz])[j % sz]?=some ((enc l[j / sz])[j % sz]'(by rw[hl _ (List.getElem_mem hq)];exact hm)):=List.getElem?_eq_getElem _
   have h3:=pm hl hx hp2
   have e0:j / sz*sz+j % sz=j:=by rw[Nat.mul_comm];exact Nat.div_add_mod j sz
   rw[e0,hp]at h3
   have h4:=hr (j / sz) _ hx (j % sz) u (by rw[amn,hp2,←amp h3];exact hu)
   rw[Nat.add_assoc,e0]at h4
   exact h.cellM h4
  ·obtain⟨y,hy,hp⟩:=List.mem_flatMap.1 hp
   exact ho y hy p hp
 case prow i n=>
  obtain⟨Ty,sz',α,l,enc,hi',g1⟩:=bP g
  obtain⟨g2,g3⟩:=ac g1
  have g2:=al6 g2
  subst g2
  obtain⟨rfl,g4⟩:=ai g3
  obtain⟨f,q1,hsz,hrow⟩:=h.prow hi'
  simp only[den,aJ,q1]at hv
  rcases hrow with⟨q2,rfl⟩|⟨c,arr,q2,q3,r⟩
  ·rcases cZ hv with⟨_,_,rfl⟩|⟨c,q4,_⟩
   ·exact⟨α,[],enc,g4,by simp,hsz,⟨none,0,rfl,fun q=>by simp at q⟩,by simp,by simp⟩
   ·omega
  ·rcases cZ hv with⟨q4,_⟩|⟨c',q4,rfl⟩
   ·omega
   ·exact⟨α,l,enc,g4,q3,hsz,⟨_,c',rfl,fun _=>⟨f.b,0,rfl,fun j u hu=>by rw[Nat.zero_add];exact r.cell hu⟩⟩,r.len,r.ok⟩
 case pfix i n cc=>
  obtain⟨Ty,sz',α,l,enc,hi',g1⟩:=bP g
  obtain⟨g2,g3⟩:=ac g1
  have g2:=al6 g2
  subst g2
  obtain⟨rfl,g4⟩:=ai g3
  obtain⟨f,q1,hsz,hrow⟩:=h.prow hi'
  simp only[den,aJ,q1]at hv
  rcases hrow with⟨q2,rfl⟩|⟨c,arr,q2,q3,r⟩
  ·rcases dP hv with⟨_,_,_,rfl⟩|⟨c,q4,_⟩
   ·exact⟨α,[],enc,g4,by simp,hsz,⟨none,0,rfl,fun q=>by simp at q⟩,by simp,by simp⟩
   ·omega
  ·rcases dP hv with⟨q4,_⟩|⟨c',q4,rfl⟩
   ·omega
   ·exact⟨α,l,enc,g4,q3,hsz,⟨_,cc,rfl,fun _=>⟨f.b,0,rfl,fun j u hu=>by rw[Nat.zero_add];exact r.cell hu⟩⟩,r.len,r.ok⟩
 case psub i sz0 a n o oc=>
  obtain⟨Ty,sz',α,l,enc,hi',g1⟩:=bP g
  obtain⟨g2,g3⟩:=ac g1
  have g2:=al6 g2
  subst g2
  obtain⟨g5,g6⟩:=ac g3
  have g5:=al6 g5
  subst g5
  obtain⟨hle,g4⟩:=ai g6
  obtain⟨f,q1,hsz,hrow⟩:=h.prow hi'
  simp only[den,aJ,q1]at hv
  have hlen:((l.drop a).take n).length=n:=by rw[ami,amr];omega
  have hsub:∀x∈(l.drop a).take n,x∈l:=fun x hx=>List.mem_of_mem_drop (List.mem_of_mem_take hx)
  rcases hrow with⟨q2,rfl⟩|⟨c,arr,q2,q3,r⟩
  ·simp at hle
   obtain⟨rfl,rfl⟩:a=0∧n=0:=by omega
   rcases dp hv with⟨_,_,_,rfl⟩|⟨c,q4,_⟩
   ·exact⟨α,_,enc,g4,by simp,hsz,⟨none,0,rfl,fun q=>by simp at q⟩,by simp,by simp⟩
   ·omega
  ·rcases dp hv with⟨q4,_⟩|⟨c',q4,rfl,_⟩
   ·omega
   ·have:=r.le
    have e1:((l.drop a).take n).flatMap enc=((l.flatMap enc).drop (a*sz)).take (n*sz):=by
     rw[qG (sz:=sz) n fun x hx=>q3 x (List.mem_of_mem_drop hx),jb a q3]
    refine⟨α,_,enc,g4,fun x hx=>q3 x (hsub x hx),hsz,⟨_,c' - a,by rw[hlen],fun hn=>⟨f.b,a*sz,?_,fun j u hu=> ?_⟩⟩,db fun x hx=>q3 x (hsub x hx),fun p hp=> ?_⟩
    ·rw[hlen]at hn
     rw[if_neg (by omega)]
    ·refine r.cells (a*sz) j u ?_
     rw[e1,List.map_take]at hu
     have hj:=(List.getElem?_eq_some_iff.1 hu).1
     rw[ami]at hj
     rw[amk (by omega)]at hu
     exact hu
    ·obtain⟨y,hy,hp⟩:=List.mem_flatMap.1 hp
     exact r.ok p (List.mem_flatMap.2 ⟨y,hsub y hy,hp⟩)
noncomputable def uh (els:List (List AV)):(List (List PL)→Bool)→Bool:=List.rec (fun K=>K []) (fun v _ ih K=>Ak v fun p=>ih fun ps=>K (p::ps)) els
theorem oA {sz:Nat}:∀{els:List (List AV)} {xs:List Value} {K:List (List PL)→Bool},ay E ρ els.flatten=some xs→(∀l∈els,l.length=sz)→uh els K=true→∃pss,K pss=true∧xs=pss.flatten.map aQ∧(∀p∈pss.flatten,OkP E.M p)∧(∀l∈pss,l.length=sz)∧pss.length=els.length
 |[],xs,K,hd,_,h=>by
  simp[ay]at hd
  subst hd
  exact⟨[],h,rfl,by simp,by simp,rfl⟩
 |v::els,xs,K,hd,hl,h=>by
  obtain⟨xs1,xs2,h1,h2,rfl⟩:=dy (l:=v) (m:=els.flatten) (by simpa using hd)
  obtain⟨ps,p1,rfl,g,p3⟩:=ri (K:=fun p=>uh els fun ps=>K (p::ps)) h1 h
  obtain⟨pss,g1,rfl,q2,q3,q4⟩:=oA h2 (fun l hl'=>hl l (by simp[hl'])) g
  refine⟨ps::pss,g1,by simp,fun p hp=> ?_,fun l hl'=> ?_,by simp[q4]⟩
  ·simp only[al8,amh]at hp
   exact hp.elim (p1 p) (q2 p)
  ·rcases List.mem_cons.1 hl' with rfl|hl'
   ·rw[p3];exact hl v (by simp)
   ·exact q3 l hl'
noncomputable def NF (sz:Nat) (v:AV) (M:T) (K:List (List PL)→(Bool→Bool→Bool)→Bool):Bool:=aM (dx v) (Hi sz v M fun _ l enc=>K (l.map enc) fun x y=>aM (aq (l=[])) x y) (Jc sz v M fun els=>uh els fun pss=>K pss fun x y=>List.casesOn pss x fun _ _=>y)
theorem EO (h:Sim E ρ G F M nx w) {sz:Nat} (hsz:0<sz) {v:AV} {K:List (List PL)→(Bool→Bool→Bool)→Bool} {x:Value} (hv:den E ρ v=some x) (hk:NF sz v M K=true):
  ∃R empt,K R empt=true∧Ju E w x sz R.length R.flatten∧(∀l∈R,l.length=sz)∧∀a b,empt a b=true→(R=[]∧a=true)∨(R≠[]∧b=true):=by
 rcases aL hk with⟨-,g⟩|⟨-,g⟩
 ·obtain⟨α,l,enc,g1,g2,g3,g4⟩:=rk h hv g
  refine⟨_,_,g1,?_,fun e he=> ?_,fun a b q=> ?_⟩
  ·rw[al4,←List.flatMap_def];exact g4
  ·obtain⟨y,hy,rfl⟩:=List.mem_map.1 he
   exact g2 y hy
  ·rcases eG q with⟨q1,q2⟩|⟨q1,q2⟩
   ·exact .inl ⟨by rw[q1];rfl,q2⟩
   ·exact .inr ⟨fun q3=>q1 (List.map_eq_nil_iff.1 q3),q2⟩
 ·obtain⟨els,xs,ao,n,c,g1,g2,rfl,g4,g5,g6,g7⟩:=xD h hv g
  obtain⟨pss,p1,rfl,p3,p4,p5⟩:=oA g2 g5 g1
  refine⟨_,_,p1,⟨⟨ao,c,by rw[p5,g4],fun q=>g7 (by omega)⟩,dk p4,p3⟩,p4,fun a b q=> ?_⟩
  cases pss with
  |nil=>exact .inl ⟨rfl,q⟩
  |cons p ps=>exact .inr ⟨by simp,q⟩
def jC:List (List PL)→List (List PL)→Prop
 |[],[]=>True
 |p::a,q::b=>Aq p q∧jC a b
 |_,_=>False
theorem uj:∀(a:List (List PL)),jC a a
 |[]=>trivial
 |p::a=>⟨pT p,uj a⟩
theorem pS:∀{a b:List (List PL)},jC a b→a.flatten.map aQ=b.flatten.map aQ∧a.length=b.length∧(∀sz,(∀x∈b,x.length=sz)→∀x∈a,x.length=sz)∧∀M,(∀q∈b.flatten,OkP M q)→∀p∈a.flatten,OkP M p
 |[],[],_=>⟨rfl,rfl,fun _ _ x hx=>by simp at hx,fun M _ p hp=>by simp at hp⟩
 |p::a,q::b,h=>by
  obtain⟨h1,h2⟩:=h
  obtain⟨g1,g2,g3⟩:=sS h1
  obtain⟨g4,g5,g6,g7⟩:=pS h2
  refine⟨by simp only[al8,amg,g1,g4],by simp[g5],fun sz hb x hx=> ?_,fun M hb x hx=> ?_⟩
  ·rcases List.mem_cons.1 hx with rfl|hx
   ·rw[g2];exact hb q (by simp)
   ·exact g6 sz (fun y hy=>hb y (by simp[hy])) x hx
  ·rw[al8]at hx hb
   rcases amh.1 hx with hx|hx
   ·exact g3 M (fun y hy=>hb y (amh.2 (.inl hy))) x hx
   ·exact g7 M (fun y hy=>hb y (amh.2 (.inr hy))) x hx
 |[],_::_,h=>h.elim
 |_::_,[],h=>h.elim
noncomputable def bR (bytes a:Nat):Prop:=a≤9223372036854775807∧a*bytes≤140737488355328
noncomputable def ww (Ty sz:Nat) (α:Type) (l:List α) (enc:α→List PL) (M:T) (nx:Nat) (K:AV→T→Nat→Bool):Bool:=T.set aP M nx (some (.prow Ty sz α l enc)) fun M'=>fN (Nat.succ nx) fun q=>K (.sy (.prow nx l.length)) M' q
noncomputable def alJ (Ty sz bytes:Nat) (v1:AV) (R:List (List PL)) (empt:Bool→Bool→Bool) (M:T) (nx:Nat) (K:AV→T→Nat→Bool):Bool:=ej v1 fun s=>SY.casesOn s (fun _ _=>false) (fun _=>false) (fun _=>false)
 (fun h sz' α l enc=>ae (Nat.beq sz sz') (ae (aq (∃ao,h= .slice ao l.length l.length)) (empt (K v1 M nx) (ee fun m:List α=>ae (aq (jC (m.map enc) R)) (ae (aq (bR bytes (l.length+m.length))) (ww Ty sz α (l++m) enc M nx K))))))
 (fun _ _ _=>false)
 (fun i n=>cV M i fun Ty' sz' α l enc=>ae (Nat.beq Ty Ty') (ae (Nat.beq sz sz') (ae (aq (n=l.length)) (empt (K v1 M nx) (ee fun m:List α=>ae (aq (jC (m.map enc) R)) (ae (aq (bR bytes (l.length+m.length))) (T.set aP M i none fun M1=>ww Ty sz α (l++m) enc M1 nx K)))))))
 (fun i sz0 a n _ _=>cV M i fun Ty' sz' α l enc=>ae (Nat.beq Ty Ty') (ae (Nat.beq sz sz') (ae (Nat.beq sz sz0) (ae (aq (a+n=l.length)) (empt (K v1 M nx) (ee fun m:List α=>ae (aq (jC (m.map enc) R)) (ae (aq (bR bytes (l.length+m.length))) (T.set aP M i none fun M1=>aj fun L:List α=>aj fun d:Nat=>aj fun o:Nat=>aj fun c:Nat=>aM (aq (d≤L.length∧L.length≤l.length+m.length∧L.drop d=l.drop a++m)) (T.set aP M1 nx (some (.prow Ty sz α L enc)) fun M'=>fN (Nat.succ nx) fun q=>K (.sy (.psub nx sz d (L.length - d) o (some c))) M' q) true)))))))) (fun _ _ _ _=>false)
 (fun i n c=>cV M i fun Ty' sz' α l enc=>ae (Nat.beq Ty Ty') (ae (Nat.beq sz sz') (ae (aq (n≤c)) (empt (K v1 M nx) (ee fun m:List α=>ae (aq (jC (m.map enc) R)) (aM (aq (n+m.length≤c)) (ae (aq (n+m.length≤l.length)) (T.set aP M i (some (.prow Ty sz α (l.take n++m++l.drop (n+m.length)) enc)) fun M'=>K (.sy (.pfix i (n+m.length) c)) M' nx)) (ae (aq (n≤l.length∧bR bytes (n+m.length))) (ww Ty sz α (l.take n++m) enc M nx K)))))))) (fun _=>false) (fun _ _ _ _ _=>false)
noncomputable def px (Ty sz bytes:Nat) (v1 v2:AV) (M:T) (nx:Nat) (K:AV→T→Nat→Bool):Bool:=
 aM (dx v1) (NF sz v2 M fun R empt=>alJ Ty sz bytes v1 R empt M nx K)
  (kz v1 (Hi sz v2 M fun α l enc=>aM (aq (l=[])) (K .nilS M nx) (ae (aq (bR bytes l.length)) (ww Ty sz α l enc M nx K))) (fun _ _ n c=>ae (Nat.beq n 0) (ACap.casesOn c (fun k=>ae (Nat.beq k 0) (Hi sz v2 M fun α l enc=>aM (aq (l=[])) (K v1 M nx) (ae (aq (bR bytes l.length)) (ww Ty sz α l enc M nx K)))) (fun _=>false))))
noncomputable def ahm (Ty sz bytes:Nat) (v1 v2:AV) (M:T) (nx:Nat) (K:AV→T→Nat→Bool):Bool:=aM (uc v1 v2) (px Ty sz bytes v1 v2 M nx K) (ahn Ty sz bytes v1 v2 M nx K)
theorem aak (hE:cK E) (h:Sim E ρ G F M nx w) {t ty Ty sz bytes:Nat} (ht:P.underlying t=some (.slice Ty)) (he:fS P Ty sz bytes=true) {v1 v2:AV} {K:AV→T→Nat→Bool} {x1 x2:Value} (h1:den E ρ v1=some x1) (h2:den E ρ v2=some x2)
  (hk:ahm Ty sz bytes v1 v2 M nx K=true):∃v M' nx' ρ' w' x,ρ.Le ρ'∧Sim E ρ' G F M' nx' w'∧K v M' nx'=true∧den E ρ' v=some x∧(Builtin.append_ #[t,t] ty #[x1,x2]).run P w= .ok x w':=by
 rcases aL hk with⟨-,g⟩|⟨-,g⟩
 case inr=>exact aal hE h ht he h1 h2 g
 obtain⟨inf,z,i1,i2,i3,i4,i5,i6⟩:=fH he
 have hs:bH P Ty=some sz:=by simp[bH,i1,i3]
 have hm63:maxLen=9223372036854775807:=rfl
 have h0:=h.fresh nx (amj _)
 clear hk
 -- a new row of terms
 have fin:∀{i:Nat} {old:Option Nat} {M0:T} {v':Value} {w':World} {base:Nat} {α:Type} {l:List α} {enc:α→List PL},(∀b,old=some b→∃e o,M.get i=some o∧ρ i=some e∧e.b=b∧bC e o=true)→w.grownBy w' old→w'.ownsRow base Ty sz v' l.length ((l.flatMap enc).map aQ)→0<l.length→
   (v'.ownBlock=old∨v'.ownBlock=some w.heap.size∨w.heap.size≤base)→(∀p∈l.flatMap enc,OkP E.M p)→(∀x∈l,(enc x).length=sz)→(∀m,m≠nx→m≠i→M0.get m=M.get m)→(i≠nx→M0.get i=none)→ww Ty sz α l enc M0 nx K=true→
   (Builtin.append_ #[t,t] ty #[x1,x2]).run P w= .ok v' w'→∃v M' nx' ρ' w' x,ρ.Le ρ'∧Sim E ρ' G F M' nx' w'∧K v M' nx'=true∧den E ρ' v=some x∧(Builtin.append_ #[t,t] ty #[x1,x2]).run P w= .ok x w':=by
  intro i old M0 v' w' base α l enc g1 g2 g3 g4 g5 g6 g7 g10 g11 g12 g13
  obtain⟨M',k1,s1,s2⟩:=T.set_ok _ _ _ _ _ g12
  rw[bt]at k1
  obtain⟨b,cap,cur,rfl,r1,r2,r3,r4,r5,r6,r7⟩:=wl g3 g4
  have hb':old=some b∨w.heap.size≤b:=by
   rcases g5 with e|e|e
   ·exact .inl (by rw[←e];rfl)
   ·simp[Value.ownBlock]at e;exact .inr (by omega)
   ·exact .inr (by omega)
  refine⟨.sy (.prow nx l.length),M',nx+1,ρ.set nx ⟨b,cap+1⟩,w',_,Ren.le_set _ h0,h.regrow (i:=i) (o':=.prow Ty sz α l enc) (ob':=.cells cur Ty (0,0)) h0 (Nat.le_succ _) (Nat.lt_succ_self _) g1 g2 r2 hb' ⟨cur,_,rfl,i6,g7,eI g6,by simpa using r5,r6,by simpa using r3,by simpa using r4⟩ s1 (fun m q1 q2=>by rw[s2 m q1,g10 m q1 q2]) (fun q=>by rw[s2 i q,g11 q]) (bW rfl),k1,?_,g13⟩
  simp only[den,aJ,Ren.set_self,ii]
 have IY:∀{i:Nat} {old:Option Nat} {M0:T} {v' xr:Value} {w':World} {base:Nat} {α:Type} {L:List α} {enc:α→List PL} {d o':Nat},(∀b,old=some b→∃e o,M.get i=some o∧ρ i=some e∧e.b=b∧bC e o=true)→w.grownBy w' old→w'.ownsRow base Ty sz v' L.length ((L.flatMap enc).map aQ)→0<L.length→
   (v'.ownBlock=old∨v'.ownBlock=some w.heap.size∨w.heap.size≤base)→(∀p∈L.flatMap enc,OkP E.M p)→(∀x∈L,(enc x).length=sz)→(∀m,m≠nx→m≠i→M0.get m=M.get m)→(i≠nx→M0.get i=none)→
   (∀cc:Nat,(T.set aP M0 nx (some (.prow Ty sz α L enc)) fun M'=>fN (Nat.succ nx) fun q=>K (.sy (.psub nx sz d (L.length - d) o' (some cc))) M' q)=true)→d≤L.length→(∀b cap,v'= .slice (some ⟨b,0,none⟩) L.length cap→xr= .slice (some ⟨b,if cap=d then o' else d*sz,none⟩) (L.length - d) (cap - d))→
   (Builtin.append_ #[t,t] ty #[x1,x2]).run P w= .ok xr w'→∃v M' nx' ρ' w' x,ρ.Le ρ'∧Sim E ρ' G F M' nx' w'∧K v M' nx'=true∧den E ρ' v=some x∧(Builtin.append_ #[t,t] ty #[x1,x2]).run P w= .ok x w':=by
  intro i old M0 v' xr w' base α L enc d o' g1 g2 g3 g4 g5 g6 g7 g10 g11 g12 gd gx g13
  obtain⟨b,cap,cur,rfl,r1,r2,r3,r4,r5,r6,r7⟩:=wl g3 g4
  obtain⟨M',k1,s1,s2⟩:=T.set_ok _ _ _ _ _ (g12 cap)
  rw[bt]at k1
  have hb':old=some b∨w.heap.size≤b:=by
   rcases g5 with e|e|e
   ·exact .inl (by rw[←e];rfl)
   ·simp[Value.ownBlock]at e;exact .inr (by omega)
   ·exact .inr (by omega)
  refine⟨.sy (.psub nx sz d (L.length - d) o' (some cap)),M',nx+1,ρ.set nx ⟨b,cap+1⟩,w',_,Ren.le_set _ h0,h.regrow (i:=i) (o':=.prow Ty sz α L enc) (ob':=.cells cur Ty (0,0)) h0 (Nat.le_succ _) (Nat.lt_succ_self _) g1 g2 r2 hb' ⟨cur,_,rfl,i6,g7,eI g6,by simpa using r5,r6,by simpa using r3,by simpa using r4⟩ s1 (fun m q1 q2=>by rw[s2 m q1,g10 m q1 q2]) (fun q=>by rw[s2 i q,g11 q]) (bW rfl),k1,?_,g13⟩
  simp only[den,aJ,Ren.set_self,gQ]
  rw[if_pos ⟨by omega,fun q e=>by cases e;rfl⟩,gx b cap rfl]
 have news_ok:∀{R:List (List PL)} {m:Nat},Ju E w x2 sz R.length R.flatten→R≠[]→∃b o c,x2= .slice (some ⟨b,o,none⟩) R.length c∧(∀j u,(R.flatten.map aQ)[j]?=some u→w.cell? (Addr.add ⟨b,o,none⟩ j)=some u)∧(∀u∈R.flatten.map aQ,Value.oneCell' u=true)∧(R.flatten.map aQ).length=R.length*sz:=by
  intro R m hS hne
  obtain⟨ao,c,hx,hc⟩:=hS.form
  obtain⟨b,o,rfl,hcc⟩:=hc (List.length_pos_iff.2 hne)
  refine⟨b,o,c,hx,fun j u hu=>by rw[bQ];exact hcc j u hu,fun u hu=> ?_,by rw[al4];exact hS.len⟩
  obtain⟨p,hp,rfl⟩:=List.mem_map.1 hu
  exact oz (hS.ok p hp)
 replace g:=aL g
 rcases g with⟨-,g⟩|⟨-,g⟩
 ·obtain⟨R,empt,g1,hS,hR,hE'⟩:=EO h i6 h2 g
  replace g1:=co g1
  clear g
  obtain⟨s,rfl,g⟩:=g1
  have flatR:∀{α:Type} {m:List α} {enc:α→List PL},jC (m.map enc) R→R.flatten.map aQ=(m.flatMap enc).map aQ∧R.length=m.length∧(∀x∈m,(enc x).length=sz)∧∀p∈m.flatMap enc,OkP E.M p:=by
   intro α m enc q
   obtain⟨q1,q2,q3,q4⟩:=pS q
   rw[←List.flatMap_def]at q1 q4
   exact⟨q1.symm,by rw[←q2,al4],fun x hx=>q3 sz hR _ (List.mem_map.2 ⟨x,hx,rfl⟩),q4 E.M hS.ok⟩
  have none_ok:R=[]→∀{ao n c},x1= .slice ao n c→n≤c→(Builtin.append_ #[t,t] ty #[x1,x2]).run P w= .ok x1 w:=by
   intro q ao n c hx hle
   obtain⟨ao2,c2,hx2,_⟩:=hS.form
   subst q
   rw[hx,hx2]
   exact cX t ty Ty ht hs ao n c hle ao2 c2
  cases s<;>first|(cases g;done)|skip
  case imm hh sz' α l enc=>
   obtain⟨g1,g2⟩:=ac g
   have g1:=al6 g1
   subst g1
   obtain⟨⟨ao,rfl⟩,g3⟩:=ai g2
   obtain⟨hok,rfl⟩:=ep (show dQ E (.imm (.slice ao l.length l.length) sz α l enc)=some x1 from h1)
   rcases hE' _ _ g3 with⟨q,g4⟩|⟨q,g4⟩
   ·exact⟨_,M,nx,ρ,w,_,Ren.Le.refl _,h,g4,h1,none_ok q rfl (amj _)⟩
   ·obtain⟨m,g5⟩:=bk g4
    obtain⟨hm,g6⟩:=ai g5
    obtain⟨⟨l1,l2⟩,g7⟩:=ai g6
    obtain⟨f1,f2,f3,f4⟩:=flatR hm
    obtain⟨b,o,c,rfl,n1,n2,n3⟩:=news_ok (m:=0) hS q
    have hpos:=List.length_pos_iff.2 q
    obtain⟨ao',cap',hh,_,_,_,ha,hl,ho,hr⟩:=mR hok
    injection hh with e1 e2 e3
    subst e1
    have hSl:=rk h (v:=.sy (.imm (.slice ao l.length l.length) sz α l enc)) (sz:=sz) (K:=fun α' l' enc'=>aq ((⟨α',(l',enc')⟩:(β:Type)×(List β×(β→List PL)))=⟨α,(l,enc)⟩)) h1 (by
     show ae (Nat.beq sz sz) _=true
     exact dI (Nat.beq_refl sz) (prB_true.2 rfl))
    obtain⟨α',l',enc',e,hl',_,hS1⟩:=hSl
    have e:=prB_true.1 e
    cases e
    obtain⟨v',w',r1,r2,r3⟩:∃v' w',(Builtin.append_ #[t,t] ty #[.slice ao l.length l.length,.slice (some ⟨b,o,none⟩) R.length c]).run P w= .ok v' w'∧w'.ownsRow w.heap.size Ty sz v' (l.length+R.length) (((l.flatMap enc).map aQ)++R.flatten.map aQ)∧w.grownBy w' none:=by
     rcases Nat.eq_zero_or_pos l.length with q0|q0
     ·have hl0:l=[]:=amo q0
      subst hl0
      cases ao with
      |none=>
       obtain⟨v',w',r1,r2,r3,_,r5⟩:=run_append_own_at (P:=P) w w.heap.size t ty Ty inf z sz bytes ht i1 i2 i3 i5 i4 i6 (.slice none 0 0) 0 [] (World.ownsRow_nil w _ Ty sz) ⟨b,o,none⟩ R.length c _ n3 n1 n2 (by omega) (by rw[f2,Nat.zero_add];simpa using l2) (amj _)
       exact⟨v',w',r1,by simpa using r2,r3⟩
      |some a=>
       obtain⟨v',w',r1,r2,r3⟩:=run_append_arg_grows (P:=P) w t ty Ty inf z sz bytes ht i1 i2 i3 i5 i4 i6 a 0 0 [] (by simp) (fun j u hu=>by simp at hu) ⟨b,o,none⟩ R.length c _ n3 n1 (by omega) (by rw[f2,hm63];simpa using l1) (by rw[f2];simpa using l2)
       exact⟨v',w',r1,by simpa using r2,r3⟩
     ·have hao:=ha q0
      rw[hao]
      obtain⟨ao2,c2,hx2,hc2⟩:=hS1.form
      injection hx2 with e1 e2 e3
      obtain⟨b1,o1,e4,hc3⟩:=hc2 q0
      rw[←e1,hao]at e4
      injection e4 with e4
      obtain⟨v',w',r1,r2,r3⟩:=run_append_arg_grows (P:=P) w t ty Ty inf z sz bytes ht i1 i2 i3 i5 i4 i6 ⟨blk ao,lS ao,none⟩ l.length l.length ((l.flatMap enc).map aQ) (by rw[al4,db hl]) (fun j u hu=>by rw[e4,bQ];exact hc3 j u hu) ⟨b,o,none⟩ R.length c _ n3 n1 (by omega) (by omega) (by rw[f2];exact l2)
      exact⟨v',w',r1,r2,r3⟩
    refine fin (i:=nx) (old:=none) (M0:=M) (base:=w.heap.size) (l:=l++m) (enc:=enc) (fun b q=>by cases q) r3 ?_ (by rw[al2];omega) (.inr (.inr (amj _))) ?_ (fun x hx=> ?_) (fun _ _ _=>rfl) (fun q=>absurd rfl q) g7 r1
    ·rw[al2,List.flatMap_append,amg,←f1,←f2];exact r2
    ·intro p hp
     rw[List.flatMap_append]at hp
     rcases amh.1 hp with hp|hp
     ·exact hS1.ok p hp
     ·exact f4 p hp
    ·rcases amh.1 hx with hx|hx
     ·exact hl x hx
     ·exact f3 x hx
  case psub i sz0 a n oo oc=>
   obtain⟨Ty',sz',α,l,enc,hi',g1⟩:=bP g
   obtain⟨g2,g3⟩:=ac g1
   have g2:=al6 g2
   subst g2
   obtain⟨g4,g5⟩:=ac g3
   have g4:=al6 g4
   subst g4
   obtain⟨g6,g7⟩:=ac g5
   have g6:=al6 g6
   subst g6
   obtain⟨hal,g8⟩:=ai g7
   obtain⟨f,q1,hsz,hrow⟩:=h.prow hi'
   have h1':=h1
   simp only[den,aJ,q1]at h1
   rcases hE' _ _ g8 with⟨q,g9⟩|⟨q,g9⟩
   ·rcases dp h1 with⟨_,e0,_,hx⟩|⟨c,qc,hx,hle,_⟩
    ·exact⟨_,M,nx,ρ,w,_,Ren.Le.refl _,h,g9,h1',none_ok q hx (amj _)⟩
    ·exact⟨_,M,nx,ρ,w,_,Ren.Le.refl _,h,g9,h1',none_ok q hx (by omega)⟩
   ·obtain⟨m,g10⟩:=bk g9
    obtain⟨hm,g11⟩:=ai g10
    obtain⟨⟨l1,l2⟩,g12⟩:=ai g11
    obtain⟨f1,f2,f3,f4⟩:=flatR hm
    obtain⟨b,o,c,hx2,n1,n2,n3⟩:=news_ok (m:=0) hS q
    have hpos:=List.length_pos_iff.2 q
    obtain⟨M1,k1,s1,s2⟩:=T.set_ok _ _ _ _ _ g12
    have hinx:i≠nx:=fun q=>by rw[q,h0]at q1;cases q1
    have kk:∀(L:List α) (d o':Nat),d≤L.length→L.length≤l.length+m.length→L.drop d=l.drop a++m→∀cc:Nat,(T.set aP M1 nx (some (.prow Ty sz α L enc)) fun M'=>fN (Nat.succ nx) fun q=>K (.sy (.psub nx sz d (L.length - d) o' (some cc))) M' q)=true:=fun L d o' e1 e2 e3 cc=>by
     have:=aV (aV (aV (aV k1 L) d) o') cc
     rcases eG this with⟨_,g⟩|⟨hn,_⟩
     ·exact g
     ·exact absurd ⟨e1,e2,e3⟩ hn
    rcases hrow with⟨q2,q3⟩|⟨c',arr,q2,q3,r⟩
    ·rcases dp h1 with⟨_,e0,ea,hx⟩|⟨c,qc,_⟩
     case inr=>omega
     subst q3
     obtain⟨v',w',r1,r2,r3,_,r5⟩:=run_append_own_at (P:=P) w w.heap.size t ty Ty inf z sz bytes ht i1 i2 i3 i5 i4 i6 (.slice none 0 0) 0 [] (World.ownsRow_nil w _ Ty sz) ⟨b,o,none⟩ R.length c _ n3 n1 n2 (by omega) (by rw[f2,Nat.zero_add];simpa using l2) (amj _)
     refine IY (i:=i) (old:=none) (M0:=M1) (base:=w.heap.size) (L:=[]++m) (enc:=enc) (d:=0) (o':=0) (v':=v') (xr:=v') (fun b q=>by cases q) r3 ?_ (by simp;omega) (.inr (.inr (amj _))) (fun p hp=>f4 p (by simpa using hp)) (fun x hx=>f3 x (by simpa using hx)) (fun m' _ q=>s2 m' q) (fun _=>s1) (kk _ 0 0 (Nat.zero_le _) (by simp) (by simp)) (Nat.zero_le _) (fun b cap hv=>hv.trans (by simp)) (by rw[hx,hx2];exact r1)
     rw[amc,←f1,←f2]
     simpa using r2
    ·rcases dp h1 with⟨qc,_⟩|⟨cc,qc,hx,hle,_⟩
     ·omega
     obtain rfl:cc=c':=by omega
     have hB:bC f (.prow Ty sz α l enc)=true:=bW q2
     by_cases room:n+R.length≤cc - a
     ·have hne:¬cc=a:=by omega
      rw[if_neg hne]at hx
      obtain⟨v',w',r1,r2,r3,_,r5⟩:=run_append_own_at (P:=P) w 0 t ty Ty inf z sz bytes ht i1 i2 i3 i5 i4 i6 (.slice (some ⟨f.b,0,none⟩) l.length cc) l.length ((l.flatMap enc).map aQ)
       ⟨by rw[al4];exact r.len,.inr ⟨f.b,cc,arr,rfl,Nat.zero_le _,r.heap,r.le,r.max,r.size,r.take⟩⟩ ⟨b,o,none⟩ R.length c _ n3 n1 n2 (by omega) (by rw[f2];exact l2) (Nat.zero_le _)
      have hin:∀j,j<(R.flatten.map aQ).length→l.length*sz+j<arr.size:=fun j hj=>by
       rw[n3]at hj
       rw[r.size]
       have:(l.length+R.length)*sz≤cc*sz:=Nat.mul_le_mul_right _ (by omega)
       rw[Nat.add_mul]at this
       omega
      have hcell:∀j,j<(R.flatten.map aQ).length→(w.cell? ⟨f.b,l.length*sz+j,none⟩).isSome=true∧w.frozen? ⟨f.b,l.length*sz+j,none⟩=false:=fun j hj=>by
       have:=hin j hj
       constructor
       ·unfold World.cell?;rw[r.heap];simp[this]
       ·unfold World.frozen?;rw[r.heap];simp
      have A:=run_append_room_cells (P:=P) (w:=w) t ty Ty inf ht i1 f.b 0 l.length cc ⟨b,o,none⟩ R.length c (R.flatten.map aQ) (by rw[n3,i3]) n1 n2 (by omega) (fun j hj=>by rw[i3,Nat.zero_add];exact(hcell j hj).1) (fun j hj=>by rw[i3,Nat.zero_add];exact(hcell j hj).2)
      have eo:a*sz+n*sz=l.length*sz:=by rw[←Nat.add_mul,hal]
      have B:=run_append_room_cells (P:=P) (w:=w) t ty Ty inf ht i1 f.b (a*sz) n (cc - a) ⟨b,o,none⟩ R.length c (R.flatten.map aQ) (by rw[n3,i3]) n1 n2 (by omega) (fun j hj=>by rw[i3,eo];exact(hcell j hj).1) (fun j hj=>by rw[i3,eo];exact(hcell j hj).2)
      rw[r1]at A
      injection A with A1 A2
      subst A1
      rw[i3,Nat.zero_add]at A2
      rw[i3,eo,←A2]at B
      refine IY (i:=i) (old:=some f.b) (M0:=M1) (base:=0) (L:=l++m) (enc:=enc) (d:=a) (o':=0) (fun b q=>⟨f,_,hi',q1,amp q,hB⟩) r3 ?_ (by rw[al2];omega) (r5.imp id .inl) ?_ (fun x hx=> ?_) (fun m' _ q=>s2 m' q) (fun _=>s1) (kk _ a 0 (by rw[al2];omega) (by rw[al2];omega) (List.drop_append_of_le_length (by omega))) (by rw[al2];omega) (fun b' cap hv=> ?_) (by rw[hx,hx2];exact B)
      ·rw[al2,List.flatMap_append,amg,←f1,←f2];exact r2
      ·intro p hp
       rw[List.flatMap_append]at hp
       rcases amh.1 hp with hp|hp
       ·exact r.ok p hp
       ·exact f4 p hp
      ·rcases amh.1 hx with hx|hx
       ·exact q3 x hx
       ·exact f3 x hx
      ·injection hv with hv1 hv2 hv3
       injection hv1 with hv1
       injection hv1 with hv1
       subst hv1;subst hv3
       rw[if_neg hne,al2,←f2,show l.length+R.length - a=n+R.length by omega]
     ·have hsub:∀x∈l.drop a,x∈l:=fun x hx=>List.mem_of_mem_drop hx
      have hld:(l.drop a).length=n:=by rw[amr];omega
      obtain⟨v',w',r1,r2,r3⟩:=run_append_arg_grows (P:=P) w t ty Ty inf z sz bytes ht i1 i2 i3 i5 i4 i6 ⟨f.b,if cc=a then oo else a*sz,none⟩ n (cc - a) (((l.drop a).flatMap enc).map aQ) (by rw[al4,db (fun x hx=>q3 x (hsub x hx)),hld]) (fun j u hu=>by
       by_cases ha:cc=a
       ·have:l.drop a=[]:=amo (by omega)
        rw[this]at hu
        simp at hu
       ·rw[if_neg ha,bQ]
        rw[jb a q3]at hu
        exact r.cells (a*sz) j u hu) ⟨b,o,none⟩ R.length c _ n3 n1 (by omega) (by rw[f2,hm63];omega) (by rw[f2];exact Nat.le_trans (Nat.mul_le_mul_right _ (by omega)) l2)
      refine IY (i:=i) (old:=none) (M0:=M1) (base:=w.heap.size) (L:=l.drop a++m) (enc:=enc) (d:=0) (o':=0) (v':=v') (xr:=v') (fun b q=>by cases q) r3 ?_ (by rw[al2];omega) (.inr (.inr (amj _))) ?_ (fun x hx=> ?_) (fun m' _ q=>s2 m' q) (fun _=>s1) (kk _ 0 0 (Nat.zero_le _) (by rw[al2];omega) (by simp)) (Nat.zero_le _) (fun b cap hv=>hv.trans (by simp)) (by rw[hx,hx2];exact r1)
      ·rw[al2,List.flatMap_append,amg,←f1,←f2,hld];exact r2
      ·intro p hp
       rw[List.flatMap_append]at hp
       rcases amh.1 hp with hp|hp
       ·obtain⟨y,hy,hp⟩:=List.mem_flatMap.1 hp
        exact r.ok p (List.mem_flatMap.2 ⟨y,hsub y hy,hp⟩)
       ·exact f4 p hp
      ·rcases amh.1 hx with hx|hx
       ·exact q3 x (hsub x hx)
       ·exact f3 x hx
  case pfix i n c0=>
   obtain⟨Ty',sz',α,l,enc,hi',g1⟩:=bP g
   obtain⟨g2,g3⟩:=ac g1
   have g2:=al6 g2
   subst g2
   obtain⟨g4,g5⟩:=ac g3
   have g4:=al6 g4
   subst g4
   obtain⟨hnc,g5⟩:=ai g5
   obtain⟨f,q1,hsz,hrow⟩:=h.prow hi'
   have h1':=h1
   simp only[den,aJ,q1]at h1
   rcases hE' _ _ g5 with⟨q,g9⟩|⟨q,g9⟩
   ·unfold kx at h1
    split at h1
    ·split at h1
     case isFalse=>cases h1
     rename_i q3
     obtain⟨rfl,rfl⟩:=q3
     exact⟨_,M,nx,ρ,w,_,Ren.Le.refl _,h,g9,h1',none_ok q (amp h1).symm (amj _)⟩
    ·exact⟨_,M,nx,ρ,w,_,Ren.Le.refl _,h,g9,h1',none_ok q (amp h1).symm hnc⟩
   ·obtain⟨m,g10⟩:=bk g9
    obtain⟨hm,g11⟩:=ai g10
    obtain⟨f1,f2,f3,f4⟩:=flatR hm
    obtain⟨b,o,c,hx2,n1,n2,n3⟩:=news_ok (m:=0) hS q
    have hpos:=List.length_pos_iff.2 q
    rcases eG g11 with⟨l1,g11⟩|⟨l1,g11⟩
    case inr=>
     obtain⟨⟨ln,l3,l2⟩,g7⟩:=ai g11
     have hlt:(l.take n).length=n:=by rw[ami];omega
     have hml:∀x∈l,(enc x).length=sz:=by
      rcases hrow with⟨_,q3⟩|⟨_,_,_,q3,_⟩
      ·subst q3;intro x hx;cases hx
      ·exact q3
     have hokl:∀p∈l.flatMap enc,OkP E.M p:=by
      rcases hrow with⟨_,q3⟩|⟨_,_,_,_,r⟩
      ·subst q3;intro p hp;simp at hp
      ·exact r.ok
     have htl:(((l.take n).flatMap enc).map aQ).length=n*sz:=by rw[al4,db (fun x hx=>hml x (List.mem_of_mem_take hx)),hlt]
     obtain⟨v',w',r1,r2,r3⟩:∃v' w',(Builtin.append_ #[t,t] ty #[x1,x2]).run P w= .ok v' w'∧w'.ownsRow w.heap.size Ty sz v' (n+R.length) ((((l.take n).flatMap enc).map aQ)++R.flatten.map aQ)∧w.grownBy w' none:=by
      rw[hx2]
      rcases hrow with⟨q2,q3⟩|⟨c',arr,q2,q3,r⟩
      ·subst q3
       have hn0:n=0:=by simpa using ln
       subst hn0
       rcases dP h1 with⟨_,_,_,rfl⟩|⟨c',q4,_⟩
       ·obtain⟨v',w',r1,r2,r3,_,r5⟩:=run_append_own_at (P:=P) w w.heap.size t ty Ty inf z sz bytes ht i1 i2 i3 i5 i4 i6 (.slice none 0 0) 0 [] (World.ownsRow_nil w _ Ty sz) ⟨b,o,none⟩ R.length c _ n3 n1 n2 (by omega) (by rw[f2,Nat.zero_add];simpa using l2) (amj _)
        exact⟨v',w',r1,by simpa using r2,r3⟩
       ·omega
      ·rcases dP h1 with⟨q4,_⟩|⟨c4,q4,rfl⟩
       ·omega
       ·obtain⟨v',w',r1,r2,r3⟩:=run_append_arg_grows (P:=P) w t ty Ty inf z sz bytes ht i1 i2 i3 i5 i4 i6 ⟨f.b,0,none⟩ n c0 (((l.take n).flatMap enc).map aQ) htl (fun j u hu=>by
          have hj:=(List.getElem?_eq_some_iff.1 hu).1
          rw[htl]at hj
          rw[bQ,Nat.zero_add]
          refine r.cell ?_
          have hsp:(l.take n).flatMap enc++(l.drop n).flatMap enc=l.flatMap enc:=by rw[←List.flatMap_append,List.take_append_drop]
          rw[←hsp,amg,List.getElem?_append_left (by rw[htl];exact hj)]
          exact hu) ⟨b,o,none⟩ R.length c _ n3 n1 (by omega) (by rw[f2,hm63];simpa using l3) (by rw[f2];exact l2)
        exact⟨v',w',r1,r2,r3⟩
     refine fin (i:=nx) (old:=none) (M0:=M) (base:=w.heap.size) (l:=l.take n++m) (enc:=enc) (fun b q=>by cases q) r3 ?_ (by rw[al2];omega) (.inr (.inr (amj _))) ?_ (fun x hx=> ?_) (fun _ _ _=>rfl) (fun q=>absurd rfl q) g7 r1
     ·rw[al2,hlt,List.flatMap_append,amg,←f1,←f2];exact r2
     ·intro p hp
      rw[List.flatMap_append]at hp
      rcases amh.1 hp with hp|hp
      ·obtain⟨y,hy,hp⟩:=List.mem_flatMap.1 hp
       exact hokl p (List.mem_flatMap.2 ⟨y,List.mem_of_mem_take hy,hp⟩)
      ·exact f4 p hp
     ·rcases amh.1 hx with hx|hx
      ·exact hml x (List.mem_of_mem_take hx)
      ·exact f3 x hx
    obtain⟨l2,g12⟩:=ai g11
    obtain⟨M1,k1,s1,s2⟩:=T.set_ok _ _ _ _ _ g12
    rcases hrow with⟨q2,q3⟩|⟨c',arr,q2,q3,r⟩
    ·subst q3;have:=List.length_nil (α:=α);omega
    have hx1:x1= .slice (some ⟨f.b,0,none⟩) n c0:=by
     simp only[kx,q2]at h1
     exact(amp h1).symm
    have hB:bC f (.prow Ty sz α l enc)=true:=bW q2
    have hle:l.length*sz≤arr.size:=by rw[r.size];exact Nat.mul_le_mul_right _ r.le
    have hfit:n*sz+(R.flatten.map aQ).length≤l.length*sz:=by
     rw[n3,←Nat.add_mul]
     exact Nat.mul_le_mul_right _ (by omega)
    have A:=run_append_room (P:=P) w t ty Ty inf ht i1 f.b n c0 arr r.heap ⟨b,o,none⟩ R.length c (R.flatten.map aQ) (by rw[n3,i3]) n1 n2 (by omega) (by rw[i3];omega)
    rw[i3]at A
    have hmem:∀x∈l.take n++m++l.drop (n+m.length),(enc x).length=sz:=by
     intro x hx
     simp only[amh]at hx
     rcases hx with(hx|hx)|hx
     ·exact q3 x (List.mem_of_mem_take hx)
     ·exact f3 x hx
     ·exact q3 x (List.mem_of_mem_drop hx)
    have hlen:(l.take n++m++l.drop (n+m.length)).length=l.length:=by
     simp only[al2,ami,amr]
     omega
    have hlt:(l.take n).length=n:=by rw[ami];omega
    have hfm:((l.take n++m++l.drop (n+m.length)).flatMap enc).map aQ=((l.flatMap enc).map aQ).take (n*sz)++R.flatten.map aQ++((l.flatMap enc).map aQ).drop ((n+m.length)*sz):=by
     have e2:(l.flatMap enc).map aQ=((l.take n).flatMap enc).map aQ++((l.drop n).flatMap enc).map aQ:=by rw[←amg,←List.flatMap_append,List.take_append_drop]
     have e3:(((l.take n).flatMap enc).map aQ).length=n*sz:=by rw[al4,db (fun x hx=>q3 x (List.mem_of_mem_take hx)),hlt]
     have hT:((l.take n).flatMap enc).map aQ=((l.flatMap enc).map aQ).take (n*sz):=by
      rw[e2,List.take_append_of_le_length (Nat.le_of_eq e3.symm),List.take_of_length_le (Nat.le_of_eq e3)]
     rw[List.flatMap_append,List.flatMap_append,amg,amg,jb _ q3,List.map_drop,f1,hT]
    obtain⟨W,hW⟩:∃W,W=w.setRow f.b (arr.toList.take (n*sz)++R.flatten.map aQ++arr.toList.drop (n*sz+(R.flatten.map aQ).length)).toArray:=⟨_,rfl⟩
    rw[←hW]at A
    refine⟨_,M1,nx,ρ,_,_,Ren.Le.refl _,h.turn (w':=W) (o':=.prow Ty sz α (l.take n++m++l.drop (n+m.length)) enc) hi' q1 (by rw[hW];rfl) (by rw[hW];rfl) (by rw[hW];rfl) (fun k _ hk=>by rw[hW];exact setRow_other w f.b k _ hk) (by rw[hW];exact setRow_heap w f.b arr _ Ty _ r.heap) ⟨_,_,rfl,hsz,hmem,eI ?_,?_,?_,?_,?_⟩ s1 s2 hB (bW q2),k1,?_,by rw[hx1,hx2];exact A⟩
    ·intro p hp
     rw[List.flatMap_append,List.flatMap_append]at hp
     simp only[amh]at hp
     rcases hp with(hp|hp)|hp
     ·obtain⟨y,hy,hp⟩:=List.mem_flatMap.1 hp
      exact r.ok p (List.mem_flatMap.2 ⟨y,List.mem_of_mem_take hy,hp⟩)
     ·exact f4 p hp
     ·obtain⟨y,hy,hp⟩:=List.mem_flatMap.1 hp
      exact r.ok p (List.mem_flatMap.2 ⟨y,List.mem_of_mem_drop hy,hp⟩)
    ·have hal:arr.toList.length=(f.cap - 1)*sz:=by rw[Array.length_toList,r.size,q2];rfl
     simp only[List.size_toArray,al2,ami,amr]
     rw[Array.length_toList]at hal ⊢
     omega
    ·rw[hlen,List.toList_toArray,hfm,←r.take,n3,←Nat.add_mul,←f2]
     refine List.ext_getElem? fun j=> ?_
     have hal:arr.toList.length=arr.size:=Array.length_toList
     have hm1:n*sz≤l.length*sz:=Nat.mul_le_mul_right _ (by omega)
     have hm2:(n+R.length)*sz≤l.length*sz:=Nat.mul_le_mul_right _ (by omega)
     have hm3:(n+R.length)*sz=n*sz+R.length*sz:=Nat.add_mul _ _ _
     simp only[List.getElem?_take,List.getElem?_append,List.getElem?_drop,al2,ami,n3,hal,Nat.min_eq_left (show n*sz≤arr.size by omega),Nat.min_eq_left hle,Nat.min_eq_left hm1]
     repeat' split
     all_goals first|rfl|omega|skip
     all_goals(rw[List.getElem?_eq_none (by rw[hal];omega)])
    ·rw[hlen,q2];have:=r.le;simpa using this
    ·rw[q2];have:=r.max;simpa using this
    ·simp only[den,aJ,q1,kx,q2,f2]
  case prow i n=>
   obtain⟨Ty',sz',α,l,enc,hi',g1⟩:=bP g
   obtain⟨g2,g3⟩:=ac g1
   have g2:=al6 g2
   subst g2
   obtain⟨g4,g5⟩:=ac g3
   have g4:=al6 g4
   subst g4
   obtain⟨rfl,g6⟩:=ai g5
   obtain⟨f,q1,hsz,hrow⟩:=h.prow hi'
   have h1':=h1
   simp only[den,aJ,q1]at h1
   rcases hE' _ _ g6 with⟨q,g4⟩|⟨q,g4⟩
   ·rcases cZ h1 with⟨_,e0,hx⟩|⟨c,qc,hx⟩
    ·exact⟨_,M,nx,ρ,w,_,Ren.Le.refl _,h,g4,h1',none_ok q hx (amj _)⟩
    ·rcases hrow with⟨q2,_⟩|⟨c',arr,q2,q3,r⟩
     ·omega
     ·have:=r.le
      exact⟨_,M,nx,ρ,w,_,Ren.Le.refl _,h,g4,h1',none_ok q hx (by omega)⟩
   ·obtain⟨m,g5⟩:=bk g4
    obtain⟨hm,g6⟩:=ai g5
    obtain⟨⟨l1,l2⟩,g7⟩:=ai g6
    obtain⟨f1,f2,f3,f4⟩:=flatR hm
    obtain⟨b,o,c,hx2,n1,n2,n3⟩:=news_ok (m:=0) hS q
    have hpos:=List.length_pos_iff.2 q
    obtain⟨M1,k1,s1,s2⟩:=T.set_ok _ _ _ _ _ g7
    have hinx:i≠nx:=fun q=>by rw[q,h0]at q1;cases q1
    rcases hrow with⟨q2,q3⟩|⟨c',arr,q2,q3,r⟩
    ·rcases cZ h1 with⟨_,e0,hx⟩|⟨c,qc,_⟩
     case inr=>omega
     subst q3
     obtain⟨v',w',r1,r2,r3,_,r5⟩:=run_append_own_at (P:=P) w w.heap.size t ty Ty inf z sz bytes ht i1 i2 i3 i5 i4 i6 (.slice none 0 0) 0 [] (World.ownsRow_nil w _ Ty sz) ⟨b,o,none⟩ R.length c _ n3 n1 n2 (by omega) (by rw[f2,Nat.zero_add];simpa using l2) (amj _)
     refine fin (i:=i) (old:=none) (M0:=M1) (base:=w.heap.size) (l:=[]++m) (enc:=enc) (fun b q=>by cases q) r3 ?_ (by simp;omega) (.inr (.inr (amj _))) (fun p hp=>f4 p (by simpa using hp)) (fun x hx=>f3 x (by simpa using hx)) (fun m' _ q=>s2 m' q) (fun _=>s1) k1 (by rw[hx,hx2];exact r1)
     rw[amc,←f1,←f2]
     simpa using r2
    ·rcases cZ h1 with⟨qc,_⟩|⟨cc,qc,hx⟩
     ·omega
     obtain rfl:cc=c':=by omega
     have hB:bC f (.prow Ty sz α l enc)=true:=bW q2
     obtain⟨v',w',r1,r2,r3,_,r5⟩:=run_append_own_at (P:=P) w 0 t ty Ty inf z sz bytes ht i1 i2 i3 i5 i4 i6 (.slice (some ⟨f.b,0,none⟩) l.length cc) l.length ((l.flatMap enc).map aQ)
      ⟨by rw[al4];exact r.len,.inr ⟨f.b,cc,arr,rfl,Nat.zero_le _,r.heap,r.le,r.max,r.size,r.take⟩⟩ ⟨b,o,none⟩ R.length c _ n3 n1 n2 (by omega) (by rw[f2];exact l2) (Nat.zero_le _)
     refine fin (i:=i) (old:=some f.b) (M0:=M1) (base:=0) (l:=l++m) (enc:=enc) (fun b q=>⟨f,_,hi',q1,amp q,hB⟩) r3 ?_ (by rw[al2];omega) (r5.imp id .inl) ?_ (fun x hx=> ?_) (fun m' _ q=>s2 m' q) (fun _=>s1) k1 (by rw[hx,hx2];exact r1)
     ·rw[al2,List.flatMap_append,amg,←f1,←f2];exact r2
     ·intro p hp
      rw[List.flatMap_append]at hp
      rcases amh.1 hp with hp|hp
      ·exact r.ok p hp
      ·exact f4 p hp
     ·rcases amh.1 hx with hx|hx
      ·exact q3 x hx
      ·exact f3 x hx
 ·rcases fC g with⟨rfl,g⟩|⟨i,o,n,c,rfl,g⟩
  case inr=>
   obtain⟨g1,g2⟩:=ac g
   have g1:=al6 g1
   subst g1
   cases c
   case rest=>cases g2
   rename_i k
   obtain⟨g3,g4⟩:=ac g2
   have g3:=al6 g3
   subst g3
   have h1':=h1
   simp only[den]at h1'
   split at h1'
   case h_2=>cases h1'
   rename_i e he'
   simp only[cw,amm]at h1'
   subst h1'
   obtain⟨α,l,enc,g1,g2,g3,hS⟩:=rk h h2 g4
   obtain⟨ao,c,hx2,hc⟩:=hS.form
   rcases eG g1 with⟨q,g4⟩|⟨q,g4⟩
   ·subst q
    refine⟨_,M,nx,ρ,w,_,Ren.Le.refl _,h,g4,h1,?_⟩
    rw[hx2]
    exact cX t ty Ty ht hs _ 0 0 (amj _) ao c
   ·obtain⟨⟨l1,l2⟩,g7⟩:=ai g4
    have hpos:=List.length_pos_iff.2 q
    obtain⟨b,o2,rfl,hcc⟩:=hc hpos
    obtain⟨v',w',r1,r2,r3⟩:=run_append_arg_grows (P:=P) w t ty Ty inf z sz bytes ht i1 i2 i3 i5 i4 i6 ⟨e.b,o,none⟩ 0 0 [] (by simp) (fun j u hu=>by simp at hu) ⟨b,o2,none⟩ l.length c ((l.flatMap enc).map aQ) (by rw[al4];exact hS.len) (fun j u hu=>by rw[bQ];exact hcc j u hu) (by omega) (by rw[Nat.zero_add,hm63];simpa using l1) (by rw[Nat.zero_add];exact l2)
    refine fin (i:=nx) (old:=none) (M0:=M) (base:=w.heap.size) (l:=l) (enc:=enc) (fun b q=>by cases q) r3 (by simpa using r2) hpos (.inr (.inr (amj _))) hS.ok g2 (fun _ _ _=>rfl) (fun q=>absurd rfl q) g7 (by rw[hx2];exact r1)
  cases h1
  obtain⟨α,l,enc,g1,g2,g3,hS⟩:=rk h h2 g
  obtain⟨ao,c,hx2,hc⟩:=hS.form
  rcases eG g1 with⟨q,g4⟩|⟨q,g4⟩
  ·subst q
   refine⟨.nilS,M,nx,ρ,w,.slice none 0 0,Ren.Le.refl _,h,g4,rfl,?_⟩
   rw[hx2]
   exact cX t ty Ty ht hs none 0 0 (amj _) ao c
  ·obtain⟨⟨l1,l2⟩,g7⟩:=ai g4
   have hpos:=List.length_pos_iff.2 q
   obtain⟨b,o,rfl,hcc⟩:=hc hpos
   obtain⟨v',w',r1,r2,r3,_,r5⟩:=run_append_own_at (P:=P) w w.heap.size t ty Ty inf z sz bytes ht i1 i2 i3 i5 i4 i6 (.slice none 0 0) 0 [] (World.ownsRow_nil w _ Ty sz) ⟨b,o,none⟩ l.length c ((l.flatMap enc).map aQ) (by rw[al4];exact hS.len) (fun j u hu=>by rw[bQ];exact hcc j u hu)
    (fun u hu=>by
     obtain⟨p,hp,rfl⟩:=List.mem_map.1 hu
     exact oz (hS.ok p hp)) (by omega) (by rw[Nat.zero_add];exact l2) (amj _)
   refine fin (i:=nx) (old:=none) (M0:=M) (base:=w.heap.size) (l:=l) (enc:=enc) (fun b q=>by cases q) r3 (by simpa using r2) hpos (.inr (.inr (amj _))) hS.ok g2 (fun _ _ _=>rfl) (fun q=>absurd rfl q) g7 (by rw[hx2];exact r1)
noncomputable def afu (Ty sz bytes:Nat) (z:List AV) (vl vc:AV) (M:T) (nx:Nat) (K:AV→T→Nat→Bool):Bool:=aM (dx vc) (fD vl fun _ l=>ej vc fun s=>SY.casesOn s (fun _ c=>ae (aq (l=0∧0≤c∧c≤9223372036854775807∧(bytes:Int)*c≤140737488355328)) (ae (Nat.blt 0 sz) (T.set aP M nx (some (.prow Ty sz Unit [] (fun _=>[]))) fun M'=>fN (Nat.succ nx) fun q=>K (.sy (.prow nx 0)) M' q))) (fun _=>false) (fun _=>false) (fun _ _ _ _ _=>false) (fun _ _ _=>false) (fun _ _=>false) (fun _ _ _ _ _ _=>false) (fun _ _ _ _=>false) (fun _ _ _=>false) (fun _=>false) (fun _ _ _ _ _=>false)) (afv Ty sz bytes z vl vc M nx K)
theorem Yb (h:Sim E ρ G F M nx w) {t Ty sz bytes:Nat} (ht:P.underlying t=some (.slice Ty)) (he:fS P Ty sz bytes=true) {z:List AV} {zs:Array Value} (hz:jA P Ty=some zs) (hzd:ay E ρ z=some zs.toList) {vl vc:AV} {xl xc:Value} (hl:den E ρ vl=some xl) (hc:den E ρ vc=some xc)
  {K:AV→T→Nat→Bool} (hk:afu Ty sz bytes z vl vc M nx K=true):∃v M' nx' ρ' w' x,ρ.Le ρ'∧Sim E ρ' G F M' nx' w'∧K v M' nx'=true∧den E ρ' v=some x∧(Instr.makeSlice t xl xc).run P w= .ok x w':=by
 rcases aL hk with⟨-,g⟩|⟨-,g⟩
 case inr=>exact Yc h ht he hz hzd hl hc g
 obtain⟨k1,l,rfl,g1⟩:=eZ g
 replace g1:=co g1
 clear g hk
 obtain⟨s,rfl,g⟩:=g1
 cases s<;>first|(cases g;done)|skip
 case int k2 c=>
  obtain⟨⟨rfl,c0,c1,c2⟩,g2⟩:=ai g
  obtain⟨g3,g4⟩:=ac g2
  rw[amq]at g3
  obtain⟨M',g5,s1,s2⟩:=T.set_ok _ _ _ _ _ g4
  rw[bt]at g5
  cases hl;cases hc
  obtain⟨inf,z0,i1,i2,i3,i4,i5,i6⟩:=fH he
  have h0:=h.fresh nx (amj _)
  have hr:=Go.run_make (P:=P) w t Ty inf z0 ht i1 i2 (ca k1) (ca k2) 0 c (Int.le_refl 0) c0 (by rw[i5];omega) c1
  refine⟨_,M',nx+1,_,_,_,Ren.le_set (ρ:=ρ) ⟨w.heap.size,c.toNat+1⟩ h0,h.alloc (cap:=c.toNat+1) (o:=.prow Ty sz Unit [] (fun _=>[])) (ob:=.cells (madeCells z0.cells (c.toNat*inf.size)) Ty (0,0)) h0 (Nat.le_succ _) (Nat.lt_succ_self _) ⟨_,[],rfl,g3,fun x hx=>(by simp at hx),by simp[jK],?_,by simp,by simp,?_⟩ s1 s2 (bW rfl),g5,?_,hr⟩
  ·rw[Go.size_madeCells,i3];simp
  ·simp only[Nat.add_sub_cancel,maxLen];omega
  ·simp[den,aJ,Ren.set_self,ii]
noncomputable def afs (Ty sz bytes:Nat) (vl vc:AV) (M:T) (nx:Nat) (K:AV→T→Nat→Bool):Bool:=fD vl fun _ l=>ej vc fun s=>SY.casesOn s (fun _ c=>ae (aq (l=0∧0≤c∧c≤9223372036854775807∧(bytes:Int)*c≤140737488355328)) (ae (Nat.blt 0 sz) (T.set aP M nx (some (.prow Ty sz Unit [] (fun _=>[]))) fun M'=>fN (Nat.succ nx) fun q=>K (.sy (.psub nx sz 0 0 0 (some c.toNat))) M' q))) (fun _=>false) (fun _=>false) (fun _ _ _ _ _=>false) (fun _ _ _=>false) (fun _ _=>false) (fun _ _ _ _ _ _=>false) (fun _ _ _ _=>false) (fun _ _ _=>false) (fun _=>false) (fun _ _ _ _ _=>false)
theorem Ya (h:Sim E ρ G F M nx w) {t Ty sz bytes:Nat} (ht:P.underlying t=some (.slice Ty)) (he:fS P Ty sz bytes=true) {vl vc:AV} {xl xc:Value} (hl:den E ρ vl=some xl) (hc:den E ρ vc=some xc)
  {K:AV→T→Nat→Bool} (hk:afs Ty sz bytes vl vc M nx K=true):∃v M' nx' ρ' w' x,ρ.Le ρ'∧Sim E ρ' G F M' nx' w'∧K v M' nx'=true∧den E ρ' v=some x∧(Instr.makeSlice t xl xc).run P w= .ok x w':=by
 obtain⟨k1,l,rfl,g1⟩:=eZ hk
 replace g1:=co g1
 clear hk
 obtain⟨s,rfl,g⟩:=g1
 cases s<;>first|(cases g;done)|skip
 case int k2 c=>
  obtain⟨⟨rfl,c0,c1,c2⟩,g2⟩:=ai g
  obtain⟨g3,g4⟩:=ac g2
  rw[amq]at g3
  obtain⟨M',g5,s1,s2⟩:=T.set_ok _ _ _ _ _ g4
  rw[bt]at g5
  cases hl;cases hc
  obtain⟨inf,z0,i1,i2,i3,i4,i5,i6⟩:=fH he
  have h0:=h.fresh nx (amj _)
  have hr:=Go.run_make (P:=P) w t Ty inf z0 ht i1 i2 (ca k1) (ca k2) 0 c (Int.le_refl 0) c0 (by rw[i5];omega) c1
  refine⟨_,M',nx+1,_,_,_,Ren.le_set (ρ:=ρ) ⟨w.heap.size,c.toNat+1⟩ h0,h.alloc (cap:=c.toNat+1) (o:=.prow Ty sz Unit [] (fun _=>[])) (ob:=.cells (madeCells z0.cells (c.toNat*inf.size)) Ty (0,0)) h0 (Nat.le_succ _) (Nat.lt_succ_self _) ⟨_,[],rfl,g3,fun x hx=>(by simp at hx),by simp[jK],?_,by simp,by simp,?_⟩ s1 s2 (bW rfl),g5,?_,hr⟩
  ·rw[Go.size_madeCells,i3];simp
  ·simp only[Nat.add_sub_cancel,maxLen];omega
  ·simp[den,aJ,Ren.set_self,gQ]
noncomputable def ahl (Ty sz:Nat) (v1 v2:AV) (M:T) (nx:Nat) (K:AV→T→Nat→Bool):Bool:=NF sz v2 M fun R empt=>ej v1 fun s=>SY.casesOn s (fun _ _=>false) (fun _=>false) (fun _=>false) (fun _ _ _ _ _=>false) (fun _ _ _=>false) (fun _ _=>false)
 (fun i sz0 a n o oc=>cV M i fun Ty' sz' α l enc=>ae (Nat.beq Ty Ty') (ae (Nat.beq sz sz') (ae (Nat.beq sz sz0) (ee fun c:Nat=>ae (aq (a=0∧o=0∧n=l.length∧oc=some c)) (empt (K v1 M nx) (ee fun m:List α=>ae (aq (jC (m.map enc) R)) (ae (aq (n+m.length≤c)) (T.set aP M i (some (.prow Ty sz α (l++m) enc)) fun M'=>K (.sy (.psub i sz0 a (l++m).length o oc)) M' nx))))))))
 (fun _ _ _ _=>false) (fun _ _ _=>false) (fun _=>false) (fun _ _ _ _ _=>false)
theorem aaj (h:Sim E ρ G F M nx w) {t ty Ty sz bytes:Nat} (ht:P.underlying t=some (.slice Ty)) (he:fS P Ty sz bytes=true) {v1 v2:AV} {K:AV→T→Nat→Bool} {x1 x2:Value} (h1:den E ρ v1=some x1) (h2:den E ρ v2=some x2)
  (hk:ahl Ty sz v1 v2 M nx K=true):∃v M' nx' ρ' w' x,ρ.Le ρ'∧Sim E ρ' G F M' nx' w'∧K v M' nx'=true∧den E ρ' v=some x∧(Builtin.append_ #[t,t] ty #[x1,x2]).run P w= .ok x w':=by
 obtain⟨inf,z,i1,i2,i3,i4,i5,i6⟩:=fH he
 have hs:bH P Ty=some sz:=by simp[bH,i1,i3]
 obtain⟨R,empt,g1,hS,hR,hE'⟩:=EO h i6 h2 hk
 replace g1:=co g1
 clear hk
 obtain⟨s,rfl,g⟩:=g1
 cases s<;>first|(cases g;done)|skip
 case psub i sz0 a n o oc=>
  obtain⟨Ty',sz',α,l,enc,hi',g1⟩:=bP g
  obtain⟨g2,g3⟩:=ac g1
  have g2:=al6 g2
  subst g2
  obtain⟨g4,g5⟩:=ac g3
  have g4:=al6 g4
  subst g4
  obtain⟨g6,g7⟩:=ac g5
  have g6:=al6 g6
  subst g6
  obtain⟨c0,g8⟩:=bk g7
  obtain⟨⟨rfl,rfl,rfl,rfl⟩,g9⟩:=ai g8
  obtain⟨f,q1,hsz,hrow⟩:=h.prow hi'
  have h1':=h1
  simp only[den,aJ,q1]at h1
  rcases hE' _ _ g9 with⟨q,g10⟩|⟨q,g10⟩
  ·obtain⟨ao2,c2,hx2,_⟩:=hS.form
   subst q
   rcases dp h1 with⟨_,e0,_,hx⟩|⟨c,qc,hx,hle,_⟩
   ·exact⟨_,M,nx,ρ,w,_,Ren.Le.refl _,h,g10,h1',by rw[hx,hx2];exact cX t ty Ty ht hs _ _ _ (amj _) ao2 c2⟩
   ·exact⟨_,M,nx,ρ,w,_,Ren.Le.refl _,h,g10,h1',by rw[hx,hx2];exact cX t ty Ty ht hs _ _ _ (by omega) ao2 c2⟩
  ·obtain⟨m,g11⟩:=bk g10
   obtain⟨hm,g12⟩:=ai g11
   obtain⟨l1,g13⟩:=ai g12
   obtain⟨r1,r2,r3,r4⟩:=pS hm
   rw[←List.flatMap_def]at r1 r4
   have f2:R.length=m.length:=by rw[←r2,al4]
   have f3:∀x∈m,(enc x).length=sz:=fun x hx=>r3 sz hR _ (List.mem_map.2 ⟨x,hx,rfl⟩)
   have f4:∀p∈m.flatMap enc,OkP E.M p:=r4 E.M hS.ok
   have hpos:=List.length_pos_iff.2 q
   obtain⟨ao,c,hx2,hcc⟩:=hS.form
   obtain⟨b,o,rfl,hcell⟩:=hcc hpos
   have n1:∀j u,(R.flatten.map aQ)[j]?=some u→w.cell? (Addr.add ⟨b,o,none⟩ j)=some u:=fun j u hu=>by rw[bQ];exact hcell j u hu
   have n2:∀u∈R.flatten.map aQ,Value.oneCell' u=true:=fun u hu=>by
    obtain⟨p,hp,rfl⟩:=List.mem_map.1 hu
    exact oz (hS.ok p hp)
   have n3:(R.flatten.map aQ).length=R.length*sz:=by rw[al4];exact hS.len
   obtain⟨M1,k1,s1,s2⟩:=T.set_ok _ _ _ _ _ g13
   rcases dp h1 with⟨qc,e0,_,_⟩|⟨cc,qc,hx,hle,hq⟩
   ·exfalso
    have:=BY h1 qc
    omega
   obtain rfl:=hq c0 rfl
   rcases hrow with⟨q2,q3⟩|⟨c',arr,q2,q3,r⟩
   ·omega
   obtain rfl:c'=c0:=by omega
   have hne:¬c'=0:=by omega
   rw[if_neg hne]at hx
   have hB:bC f (.prow Ty sz α l enc)=true:=bW q2
   have hfit:l.length*sz+(R.flatten.map aQ).length≤arr.size:=by
    rw[n3,←Nat.add_mul,r.size]
    exact Nat.mul_le_mul_right _ (by omega)
   have A:=run_append_room (P:=P) (w:=w) t ty Ty inf ht i1 f.b l.length c' arr r.heap ⟨b,o,none⟩ R.length c (R.flatten.map aQ) (by rw[n3,i3]) n1 n2 (by omega) (by rw[i3];exact hfit)
   rw[i3]at A
   have hx1:x1= .slice (some ⟨f.b,0,none⟩) l.length c':=by simpa using hx
   obtain⟨W,hW⟩:∃W,W=w.setRow f.b (arr.toList.take (l.length*sz)++R.flatten.map aQ++arr.toList.drop (l.length*sz+(R.flatten.map aQ).length)).toArray:=⟨_,rfl⟩
   rw[←hW]at A
   have hal:arr.toList.length=arr.size:=Array.length_toList
   refine⟨_,M1,nx,ρ,W,_,Ren.Le.refl _,h.turn (w':=W) (o':=.prow Ty sz α (l++m) enc) hi' q1 (by rw[hW];rfl) (by rw[hW];rfl) (by rw[hW];rfl) (fun k _ hk=>by rw[hW];exact setRow_other w f.b k _ hk) (by rw[hW];exact setRow_heap w f.b arr _ Ty _ r.heap) ⟨_,_,rfl,hsz,?_,eI ?_,?_,?_,?_,?_⟩ s1 s2 hB (bW q2),k1,?_,by rw[hx1,hx2];exact A⟩
   ·intro x hx
    rcases amh.1 hx with hx|hx
    ·exact q3 x hx
    ·exact f3 x hx
   ·intro p hp
    rw[List.flatMap_append]at hp
    rcases amh.1 hp with hp|hp
    ·exact r.ok p hp
    ·exact f4 p hp
   ·rw[q2,Nat.add_sub_cancel,←r.size]
    simp only[List.size_toArray,al2,ami,amr,hal]
    omega
   ·rw[al2,←f2,List.toList_toArray,List.flatMap_append,amg,r1,←r.take,Nat.add_mul,←n3]
    have hlt:(arr.toList.take (l.length*sz)).length=l.length*sz:=by rw[ami,hal];omega
    rw[List.take_append_of_le_length (by rw[al2,hlt];exact amj _),List.take_of_length_le (by rw[al2,hlt];exact amj _)]
   ·rw[al2,q2,←f2];simpa using(show l.length+R.length≤c' by omega)
   ·rw[q2];have:=r.max;simpa using this
   ·simp only[den,aJ,q1,gQ,q2]
    rw[if_pos ⟨by rw[al2];omega,fun q e=>by cases e;rfl⟩,if_neg hne,al2,←f2]
    simp
end
def jZ:AV→Value→Bool
 |.int k z,.int k' z'=>decide (ca k=k')&&decide (z=z')
 |.bool a,.bool b=>decide (a=b)
 |.str l,.string s=>decide (s=⟨(l.map UInt8.ofNat).toArray⟩)
 |.nilP,.pointer none=>true
 |.nilS,.slice none 0 0=>true
 |.nilM,.map none=>true
 |.nilF,.nilFunc=>true
 |.nilI,.nilIface=>true
 |_,_=>false
def xp:List AV→List Value→Bool
 |[],[]=>true
 |v::l,x::m=>jZ v x&&xp l m
 |_,_=>false
def isV:AV→Value→Bool
 |.agg l,.agg a=>xp l a.toList
 |v,x=>jZ v x
theorem oe {E:Env} {ρ:Ren} {v:AV} {x:Value} (h:jZ v x=true):den E ρ v=some x:=by
 unfold jZ at h
 split at h<;>first|(cases h;done)|rfl|skip
 ·simp only[aml,decide_eq_true_eq]at h
  rw[←h.1,←h.2];rfl
 ·rw[decide_eq_true_eq]at h
  rw[h];rfl
 ·rw[decide_eq_true_eq]at h
  rw[h];rfl
theorem rB {E:Env} {ρ:Ren}:∀{l:List AV} {m:List Value},xp l m=true→ay E ρ l=some m
 |[],[],_=>rfl
 |[],_::_,h=>by cases h
 |_::_,[],h=>by cases h
 |v::l,x::m,h=>by
  simp only[xp,aml]at h
  exact eR (oe h.1) (rB h.2)
theorem agd {E:Env} {ρ:Ren} {v:AV} {x:Value} (h:isV v x=true):den E ρ v=some x:=by
 unfold isV at h
 split at h
 ·simp only[den,rB h]
 ·exact oe h
inductive XP|t (n:Nat)|c (v:AV)|f (n:Nat)
noncomputable def nb (v:AV) (K:AV→Bool):Bool:=AV.casesOn v false (fun k z=>K (.int k z)) (fun b=>K (.bool b)) (fun l=>K (.str l)) (fun i o=>K (.ptr i o)) (fun i o n c=>K (.sl i o n c)) (fun i=>K (.map i)) (K .nilP) (K .nilS) (K .nilM) (K .nilF) (K .nilI) (fun t v=>K (.iface t v)) (fun f c=>K (.fn f c)) (fun i=>K (.yl i)) (fun l=>K (.agg l)) (fun l=>K (.tup l)) (fun i=>K (.any i)) (fun s=>K (.sy s))
theorem Ue {v:AV} {K:AV→Bool} (h:nb v K=true):v≠ .bad∧K v=true:=by
 cases v<;>first|exact⟨by simp,h⟩|cases h
noncomputable def ev (S:SL) (p:XP) (K:AV→Bool):Bool:=XP.casesOn p (fun n=>nb (aS n S) K) (fun v=>K v) (fun f=>K (.fn f []))
noncomputable def vu (S:SL) (ps:List XP):(List AV→Bool)→Bool:=List.rec (fun K=>K []) (fun p _ ih K=>ev S p fun v=>ih fun r=>K (v::r)) ps
noncomputable def FY (S:SL) (p:Option XP) (K:Option AV→Bool):Bool:=Option.casesOn p (K none) fun p=>ev S p fun v=>K (some v)
def bo:XP→Operand→Bool
 |.t n,.tmp m=>Nat.beq n m
 |.c v,.const x=>jZ v x
 |.f n,.func m=>Nat.beq n m
 |_,_=>false
def jI:List XP→List Operand→Bool
 |[],[]=>true
 |p::ps,o::os=>bo p o&&jI ps os
 |_,_=>false
def mQ:Option XP→Option Operand→Bool
 |none,none=>true
 |some p,some o=>bo p o
 |_,_=>false
structure SR (E:Env) (ρ:Ren) (N:Nat) (S:SL) (a:Act):Prop where
 size:a.tmps.size=N
 defs:a.defers=[]
 at_:∀t,aS t S= .bad∨∃x,den E ρ (aS t S)=some x∧a.tmps.getD t undef=x
section
variable {P:Program} {E:Env} {ρ ρ':Ren} {N:Nat} {S:SL} {a:Act}
theorem SR.mono (s:SR E ρ N S a) (hl:ρ.Le ρ'):SR E ρ' N S a:=⟨s.size,s.defs,fun t=>(s.at_ t).imp id fun⟨x,h1,h2⟩=>⟨x,dL hl _ _ h1,h2⟩⟩
theorem bg (s:SR E ρ N S a) {p:XP} {o:Operand} {K:AV→Bool} (ho:bo p o=true) (h:ev S p K=true):∃v x,den E ρ v=some x∧a.eval o=x∧K v=true:=by
 cases p with
 |t n=>
  cases o<;>simp only[bo]at ho<;>first|(cases ho;done)|skip
  have:=al6 ho
  subst this
  obtain⟨h1,h2⟩:=Ue h
  obtain⟨x,h3,h4⟩:=(s.at_ n).resolve_left h1
  exact⟨_,x,h3,h4,h2⟩
 |c v=>
  cases o<;>simp only[bo]at ho<;>first|(cases ho;done)|skip
  exact⟨v,_,oe ho,rfl,h⟩
 |f n=>
  cases o<;>simp only[bo]at ho<;>first|(cases ho;done)|skip
  have:=al6 ho
  subst this
  exact⟨.fn n [],.func (.func n) #[] #[],by simp[den,ay],rfl,h⟩
theorem oi (s:SR E ρ N S a):∀{ps:List XP} {os:List Operand} {K:List AV→Bool},jI ps os=true→vu S ps K=true→∃vs,ay E ρ vs=some (os.map a.eval)∧K vs=true∧vs.length=os.length
 |[],[],K,_,h=>⟨[],rfl,h,rfl⟩
 |[],_::_,K,ho,_=>by cases ho
 |_::_,[],K,ho,_=>by cases ho
 |p::ps,o::os,K,ho,h=>by
  simp only[jI,aml]at ho
  have h':ev S p (fun v=>vu S ps fun r=>K (v::r))=true:=h
  obtain⟨v,x,h1,h2,h3⟩:=bg s ho.1 h'
  obtain⟨vs,h4,h5,h6⟩:=oi s ho.2 h3
  exact⟨v::vs,eR (by rw[h1,h2]) h4,h5,by simp[h6]⟩
theorem qI (s:SR E ρ N S a) {p:Option XP} {o:Option Operand} {K:Option AV→Bool} (ho:mQ p o=true) (h:FY S p K=true):∃v,mq E ρ v (o.map a.eval)∧K v=true:=by
 cases p with
 |none=>
  cases o<;>simp only[mQ]at ho<;>first|(cases ho;done)|skip
  exact⟨none,.inl ⟨rfl,rfl⟩,h⟩
 |some p=>
  cases o<;>simp only[mQ]at ho<;>first|(cases ho;done)|skip
  rename_i o
  obtain⟨v,x,h1,h2,h3⟩:=bg (p:=p) s ho h
  exact⟨some v,.inr ⟨v,x,rfl,by simp[h2],h1⟩,h3⟩
noncomputable def aes (d:Option Nat) (v:AV) (S:SL):SL:=Option.casesOn d S fun d=>.cons d v S
theorem SR.put (s:SR E ρ N S a) {d:Option Nat} {v:AV} {z:Value} (hd:∀t,d=some t→t<N) (hv:v= .bad∨den E ρ v=some z):SR E ρ N (aes d v S) (a.put d z):=by
 cases d with
 |none=>exact s
 |some d=>
  have hlt:=hd d rfl
  refine⟨by simpa[Act.put] using s.size,s.defs,fun t=> ?_⟩
  show aS t (.cons d v S)= .bad∨∃x,den E ρ (aS t (.cons d v S))=some x∧_
  by_cases e:d=t
  ·subst e
   rw[dq]
   refine hv.imp id fun h=>⟨z,h,?_⟩
   simp[Act.put,Array.getD,s.size,hlt]
  ·rw[ey _ _ e]
   refine(s.at_ t).imp id fun⟨x,h1,h2⟩=>⟨x,h1,?_⟩
   rw[←h2]
   exact Go.Eng.getD_put (fun q=>e q.symm)
end
def hZ (P:Program) (t e:Nat):Bool:=match P.underlying t with|some (.slice e')=>Nat.beq e' e|_=>false
def zM (P:Program) (t n e:Nat):Bool:=match P.underlying t with|some (.array n' e')=>Nat.beq n' n&&Nat.beq e' e|_=>false
def kQ (P:Program) (t k e:Nat):Bool:=match P.underlying t with|some (.map k' e')=>Nat.beq k' k&&Nat.beq e' e|_=>false
def vi (P:Program) (t:Nat):Bool:=match P.underlying t with|some .string=>true|_=>false
def zL (P:Program) (t k:Nat):Bool:=match P.underlying t with|some (.int k')=>decide (k'=ca k)|_=>false
def jc (P:Program) (t:Nat):Nat:=match P.underlying t with|some (.slice e)=>e|some (.array _ e)=>e|some (.map _ e)=>e|_=>0
def sD (P:Program) (t:Nat):Nat:=match P.underlying t with|some (.map k _)=>k|_=>0
theorem dJ {P:Program} {t e:Nat} (h:hZ P t e=true):P.underlying t=some (.slice e):=by
 unfold hZ at h
 split at h
 ·rename_i h1;rw[h1,al6 h]
 ·cases h
theorem BV {P:Program} {t n e:Nat} (h:zM P t n e=true):P.underlying t=some (.array n e):=by
 unfold zM at h
 split at h
 ·rename_i h1
  simp only[aml]at h
  rw[h1,al6 h.1,al6 h.2]
 ·cases h
theorem ig {P:Program} {t k e:Nat} (h:kQ P t k e=true):P.underlying t=some (.map k e):=by
 unfold kQ at h
 split at h
 ·rename_i h1
  simp only[aml]at h
  rw[h1,al6 h.1,al6 h.2]
 ·cases h
theorem tK {P:Program} {t:Nat} (h:vi P t=true):P.underlying t=some .string:=by
 unfold vi at h
 split at h
 ·assumption
 ·cases h
theorem BT {P:Program} {t k:Nat} (h:zL P t k=true):P.underlying t=some (.int (ca k)):=by
 unfold zL at h
 split at h
 ·rename_i h1
  rw[decide_eq_true_eq]at h
  rw[h1,h]
 ·cases h
def lF (P:Program) (T:Nat) (z:List AV):Bool:=match jA P T with|some zs=>xp z zs.toList|none=>false
theorem io {P:Program} {T:Nat} {z:List AV} {E:Env} {ρ:Ren} (h:lF P T z=true):∃zs,jA P T=some zs∧ay E ρ z=some zs.toList:=by
 unfold lF at h
 split at h
 ·rename_i zs h1
  exact⟨zs,h1,rB h⟩
 ·cases h
def vT (P:Program) (Ty sz len:Nat) (z:List AV):Bool:=match rc P Ty sz len with|some zs=>xp z zs|none=>false
theorem GY {P:Program} {Ty sz len:Nat} {z:List AV} {E:Env} {ρ:Ren} (h:vT P Ty sz len z=true):∃zs,rc P Ty sz len=some zs∧ay E ρ z=some zs:=by
 unfold vT at h
 split at h
 ·rename_i zs h1
  exact⟨zs,h1,rB h⟩
 ·cases h
def Ny (P:Program) (e:Nat) (v:AV):Bool:=match (P.info? e).bind (·.zero) with|some z=>isV v z|none=>false
theorem UX {P:Program} {e:Nat} {v:AV} {E:Env} {ρ:Ren} (h:Ny P e v=true):∃z,(∀w,(zeroValue e:Sem Value).run P w= .ok z w)∧den E ρ v=some z:=by
 unfold Ny at h
 split at h
 ·rename_i z h1
  refine⟨z,fun w=> ?_,agd h⟩
  rcases hi:P.info? e with _|i
  ·simp[hi]at h1
  ·simp only[hi,Option.bind_some]at h1
   simp[zeroValue,typeInfo,hi,h1]
 ·cases h
noncomputable def ag6 (z:List AV) (v:AV) (M:T) (K:T→Bool):Bool:=ej v fun s=>SY.casesOn s (fun _ _=>false) (fun _=>false) (fun _=>false) (fun _ _ _ _ _=>false) (fun _ _ _=>false) (fun _ _=>false)
 (fun i sz0 a n _ _=>cV M i fun Ty sz α l enc=>ae (Nat.beq sz sz0) (ae (Nat.beq sz (cj z)) (ae (qV z) (ae (aq (a+n≤l.length)) (T.set aP M i (some (.prow Ty sz α (l.take a) enc)) K))))) (fun _ _ _ _=>false) (fun _ _ _=>false) (fun _=>false) (fun _ _ _ _ _=>false)
noncomputable def Rf (z:List AV) (i n:Nat):Nat→T→(T→Bool)→Bool:=Nat.rec (fun _ M K=>K M) (fun _ ih o M K=>cU (cj z) (.ptr i o) (.agg z) M fun M'=>fN (Nat.add o (cj z)) fun o'=>ih o' M' K) n
inductive XO
 |bad|mv (x:XP)|pick (c x y:XP)|bin (f o:Nat) (x y:XP)|eqs (ne:Bool) (d:Nat) (et:ET) (x y:XP)|isn (ne:Bool) (kd:Nat) (x:XP)|un (f:Nat) (x:XP)|cnv (k:Nat) (x:XP)
 |fa (off:Nat) (x:XP)|nck (x:XP)|ixa (n sz:Nat) (x i:XP)|ixs (sz:Nat) (x i:XP)|fld (agg:Bool) (off n:Nat) (x:XP)|len (f:Nat) (x:XP)|mx (b:Bool) (x y:XP)|ext (i:Nat) (x:XP)|six (x i:XP)
 |bld (z:List AV) (ps:List (Nat×Nat)) (xs:List XP)
 |ld (agg:Bool) (n:Nat) (x:XP)|mlen (x:XP)|sls (sz:Nat) (x:XP) (lo hi mx:Option XP)|lk (d:Nat) (et:ET) (zv:AV) (comma:Bool) (m k:XP)|ent (it:XP)
 |st (n:Nat) (x y:XP)|al (T:Nat) (z:List AV)|box (T:Nat) (x:XP)|bsl (Ty sz len:Nat) (z:List AV) (ps:List (Nat×Nat)) (xs:List XP)|mks (Ty sz bytes:Nat) (z:List AV) (l c:XP)|mkm
 |mu (d:Nat) (et:ET) (m k v:XP)|rng (m:XP)|nxt (it:XP)|app (Ty sz bytes:Nat) (x y:XP)|del (d:Nat) (et:ET) (m k:XP)|mkf (f:Nat) (xs:List XP)|ixv (agg:Bool) (n sz:Nat) (x i:XP)|slt (x:XP) (lo hi:Option XP)|cnw (k:Nat) (x:XP)|clr (Ty:Nat) (z:List AV) (x:XP)|mcl (m:XP)|cap (x:XP)|mkx (Ty sz bytes:Nat) (z:List AV) (l c:XP)|apr (Ty sz bytes:Nat) (x y:XP)
noncomputable def Hh (ps:List (Nat×Nat)):List AV→Bool:=List.rec (fun vs=>List.casesOn vs true fun _ _=>false) (fun p _ ih vs=>List.casesOn vs false fun v r=>Bool.and (Nat.beq (cj (bD v)) p.2) (ih r)) ps
theorem vX {E:Env} {ρ:Ren} (hE:cK E):∀{ps:List (Nat×Nat)} {vs:List AV} {ys:List Value},Hh ps vs=true→ay E ρ vs=some ys→∀(k:Nat) (p:Nat×Nat) (y:Value),ps[k]?=some p→ys[k]?=some y→y.cells.size=p.2
 |[],vs,ys,h,hd=>by intro k p y hp;simp at hp
 |q::ps,[],ys,h,hd=>by cases h
 |q::ps,v::vs,ys,h,hd=>by
  obtain⟨x,xs,h1,h2,rfl⟩:=bf hd
  obtain⟨h3,h4⟩:=mD (a:=Nat.beq (cj (bD v)) q.2) (b:=Hh ps vs) h
  intro k p y hp hy
  cases k with
  |zero=>
   simp at hp hy
   subst hp;subst hy
   have:=bA (jg hE h1)
   have h3:=al6 h3
   rw[bB]at h3
   rw[←h3,←this]
   simp
  |succ k=>exact vX hE h4 h2 k p y (by simpa using hp) (by simpa using hy)
noncomputable def TV (x:XO) (S:SL) (K:AV→Bool):Bool:=match x with
 |.mv x=>ev S x K
 |.pick c x y=>ev S c fun c=>Jn c fun b=>aM b (ev S x K) (ev S y K)
 |.bin f o x y=>ev S x fun u=>ev S y fun v=>Nat.rec (arY o u v K) (fun f _=>Nat.rec (Rj o u v K) (fun f _=>Nat.rec (shX (Nat.beq o 1) u v K) (fun f _=>Nat.rec (Re o u v K) (fun f _=>Nat.rec (Hp u v K) (fun _ _=>NI (Nat.beq o 1) u v K) f) f) f) f) f
 |.eqs ne d et x y=>ev S x fun u=>ev S y fun v=>kc d et u v fun b=>fB (Bool.rec b (Bool.not b) ne) fun r=>K (.bool r)
 |.isn ne kd x=>ev S x fun u=>aga ne kd u K
 |.un f x=>ev S x fun u=>Nat.rec (aeS u K) (fun f _=>Nat.rec (aeZ u K) (fun _ _=>agY u K) f) f
 |.cnv k x=>ev S x fun u=>ag1 k u K
 |.fa off x=>ev S x fun u=>faY off u K
 |.nck x=>ev S x fun u=>ae1 u K
 |.ixa n sz x i=>ev S x fun u=>ev S i fun v=>af6 n sz u v K
 |.ixs sz x i=>ev S x fun u=>ev S i fun v=>af4 sz u v K
 |.fld agg off n x=>ev S x fun u=>agE agg off n u K
 |.len f x=>ev S x fun u=>Nat.rec (TP u K) (fun _ _=>afW u K) f
 |.mx b x y=>ev S x fun u=>ev S y fun v=>mxY b u v K
 |.ext i x=>ev S x fun u=>agI i u K
 |.six x i=>ev S x fun u=>ev S i fun v=>aeg u v K
 |.bld z ps xs=>vu S xs fun vs=>ae (Hh ps vs) (ahd z ((ps.map (·.1)).zip vs) K)
 |.mkf f xs=>vu S xs fun vs=>K (.fn f vs)
 |.ixv agg n sz x i=>ev S x fun u=>ev S i fun v=>af3 agg n sz u v K
 |.cnw k x=>ev S x fun u=>ag0 k u K
 |.cap x=>ev S x fun u=>ag7 u K
 |.slt x lo hi=>ev S x fun u=>FY S lo fun l=>FY S hi fun h=>aed u l h K
 |_=>false
noncomputable def Fa (x:XO) (S:SL) (M:T) (K:AV→Bool):Bool:=match x with
 |.ld agg n x=>ev S x fun u=>uZ agg n u M K
 |.mlen x=>ev S x fun u=>Un u M K
 |.sls sz x lo hi mx=>ev S x fun u=>FY S lo fun l=>FY S hi fun h=>FY S mx fun m=>aee sz u l h m M K
 |.lk d et zv comma m k=>ev S m fun u=>ev S k fun v=>lkX d et zv comma u v M K
 |.ent it=>ev S it fun u=>agP u M K
 |_=>false
noncomputable def TW (x:XO) (S:SL) (M:T) (nx:Nat) (K:AV→T→Nat→Bool):Bool:=match x with
 |.st n x y=>ev S x fun u=>ev S y fun v=>stY n u v M fun M'=>K .bad M' nx
 |.al T z=>ae (Nat.blt 0 (cj z)) (AN T z M nx K)
 |.box T x=>ev S x fun u=>ahb T u M nx K
 |.bsl Ty sz len z ps xs=>vu S xs fun vs=>ae (Hh ps vs) (aha Ty sz len z ((ps.map (·.1)).zip vs) M nx K)
 |.mks Ty sz bytes z l c=>ev S l fun u=>ev S c fun v=>afu Ty sz bytes z u v M nx K
 |.mkm=>afw M nx K
 |.mu d et m k v=>ev S m fun m=>ev S k fun k=>ev S v fun v=>muX d et m k v M fun M'=>K .bad M' nx
 |.rng m=>ev S m fun u=>aeo u M nx K
 |.nxt it=>ev S it fun u=>aeH u M fun v M'=>K v M' nx
 |.app Ty sz bytes x y=>ev S x fun u=>ev S y fun v=>ahm Ty sz bytes u v M nx K
 |.del d et m k=>ev S m fun u=>ev S k fun v=>agS d et u v M fun M'=>K (.tup []) M' nx
 |.clr Ty z x=>ev S x fun u=>aM (dx u) (ag6 z u M fun M'=>K (.tup []) M' nx) (kz u false fun i o n _=>ae (Nat.blt 0 n) (ae (Nat.blt 0 (cj z)) (Rf z i n o M fun M'=>K (.tup []) M' nx)))
 |.mcl m=>ev S m fun u=>afy u M fun M'=>K (.tup []) M' nx
 |.mkx Ty sz bytes _ l c=>ev S l fun u=>ev S c fun v=>afs Ty sz bytes u v M nx K
 |.apr Ty sz _ x y=>ev S x fun u=>ev S y fun v=>ahl Ty sz u v M nx K
 |_=>false
def Rk:Nat→Nat→BinOp
 |0,o=>gC o
 |1,o=>ua o
 |2,o=>bif Nat.beq o 1 then .shr else .shl
 |3,o=>gB o
 |4,_=>.add
 |_,o=>bif Nat.beq o 1 then .neq else .eql
def qN (P:Program) (x:XO) (o:Op):Bool:=match x with
 |.bad=>true
 |.mv x=>match o with|.move y|.assign y=>bo x y|_=>false
 |.pick c x y=>match o with|.pick c' x' y'=>bo c c'&&bo x x'&&bo y y'|_=>false
 |.bin f k x y=>match o with|.binOp b _ x' y' _=>decide (b=Rk f k)&&bo x x'&&bo y y'|_=>false
 |.eqs ne d et x y=>match o with|.binOp b t x' y' _=>decide (b=bif ne then .neq else .eql)&&Nat.ble d 10000&&cn P d et t&& !P.eqGuardType P.depth t&&bo x x'&&bo y y'|_=>false
 |.isn ne kd x=>match o with|.binOp b t x' (.const c) _=>decide (b=bif ne then .neq else .eql)&&(match tp P t kd with|some z=>(jZ .nilP c&&jZ .nilP z)||(jZ .nilS c&&jZ .nilS z)||(jZ .nilM c&&jZ .nilM z)||(jZ .nilF c&&jZ .nilF z)||(jZ .nilI c&&jZ .nilI z)|none=>false)&&bo x x'|_=>false
 |.un f x=>match o with|.unOp u _ x'=>bo x x'&&decide (u=match f with|0=>.not|1=>.neg|_=>.xor)|_=>false
 |.cnv k x=>match o with|.convert s t x'=>bo x x'&&(P.underlying s).isSome&&zL P t k|_=>false
 |.fa off x=>match o with|.fieldAddr s x' f=>bo x x'&&decide (qH P s f=some off)|_=>false
 |.nck x=>match o with|.nilCheck x'=>bo x x'|_=>false
 |.ixa n sz x i=>match o with|.indexAddr t x' i'=>bo x x'&&bo i i'&&zM P t n (jc P t)&&decide (bH P (jc P t)=some sz)|_=>false
 |.ixs sz x i=>match o with|.indexAddr t x' i'=>bo x x'&&bo i i'&&hZ P t (jc P t)&&decide (bH P (jc P t)=some sz)|_=>false
 |.fld agg off n x=>match o with|.field t x' f=>bo x x'&&(match P.underlying t with|some (.struct fs)=>(match fs[f]? with|some g=>Nat.beq g.offset off&&decide (fG P g.type=some agg)&&decide (bH P g.type=some n)|none=>false)|_=>false)|_=>false
 |.len f x=>match o with|.call c=>(match c.callee,c.args.toList,c.argTypes.toList with|.builtin .len,[x'],[t]=>bo x x'&&(match f with|0=>vi P t|_=>hZ P t (jc P t))|_,_,_=>false)|_=>false
 |.mlen x=>match o with|.call c=>(match c.callee,c.args.toList,c.argTypes.toList with|.builtin .len,[x'],[t]=>bo x x'&&kQ P t (sD P t) (jc P t)|_,_,_=>false)|_=>false
 |.mx b x y=>match o with|.call c=>(match c.callee,c.args.toList with|.builtin f,[x',y']=>bo x x'&&bo y y'&&decide (f=bif b then .max else .min)|_,_=>false)|_=>false
 |.app Ty sz bytes x y=>match o with|.call c=>(match c.callee,c.args.toList,c.argTypes.toList with|.builtin .append,[x',y'],[t,u]=>bo x x'&&bo y y'&&Nat.beq t u&&hZ P t Ty&&fS P Ty sz bytes|_,_,_=>false)|_=>false
 |.apr Ty sz bytes x y=>match o with|.call c=>(match c.callee,c.args.toList,c.argTypes.toList with|.builtin .append,[x',y'],[t,u]=>bo x x'&&bo y y'&&Nat.beq t u&&hZ P t Ty&&fS P Ty sz bytes|_,_,_=>false)|_=>false
 |.del d et m k=>match o with|.call c=>(match c.callee,c.args.toList,c.argTypes.toList with|.builtin .delete,[x',y'],[t,_]=>bo m x'&&bo k y'&&Nat.ble d 10000&&kQ P t (sD P t) (jc P t)&&cn P d et (sD P t)|_,_,_=>false)|_=>false
 |.ext i x=>match o with|.extract x' j=>bo x x'&&Nat.beq i j|_=>false
 |.six x i=>match o with|.index t x' i'=>bo x x'&&bo i i'&&vi P t|_=>false
 |.bld z ps xs=>match o with|.build t qs=>vo P t&&lF P t z&&ru P t (qs.toList.map (·.1)) ps&&jI xs (qs.toList.map (·.2))|_=>false
 |.cnw k x=>match o with|.convert s t x'=>bo x x'&&(P.underlying s).isSome&&zL P t k|_=>false
 |.slt x lo hi=>match o with|.slice t x' lo' hi' none=>bo x x'&&mQ lo lo'&&mQ hi hi'&&vi P t|_=>false
 |.ixv agg n sz x i=>match o with|.index t x' i'=>bo x x'&&bo i i'&&zM P t n (jc P t)&&decide (fG P (jc P t)=some agg)&&decide (bH P (jc P t)=some sz)|_=>false
 |.clr Ty z x=>match o with|.call c=>(match c.callee,c.args.toList,c.argTypes.toList with|.builtin .clear,[x'],[t]=>bo x x'&&hZ P t Ty&&lF P Ty z&&decide (bH P Ty=some z.length)|_,_,_=>false)|_=>false
 |.mcl m=>match o with|.call c=>(match c.callee,c.args.toList,c.argTypes.toList with|.builtin .clear,[x'],[t]=>bo m x'&&kQ P t (sD P t) (jc P t)|_,_,_=>false)|_=>false
 |.cap x=>match o with|.call c=>(match c.callee,c.args.toList,c.argTypes.toList with|.builtin .cap,[x'],[t]=>bo x x'&&hZ P t (jc P t)|_,_,_=>false)|_=>false
 |.mkf f xs=>match o with|.makeFunc (.func f') first caps=>Nat.beq f' f&&first.isEmpty&&jI xs caps.toList|_=>false
 |.ld agg n x=>match o with|.load t x'=>bo x x'&&decide (fG P t=some agg)&&decide (bH P t=some n)|_=>false
 |.sls sz x lo hi mx=>match o with|.slice t x' lo' hi' mx'=>bo x x'&&mQ lo lo'&&mQ hi hi'&&mQ mx mx'&&hZ P t (jc P t)&&decide (bH P (jc P t)=some sz)|_=>false
 |.lk d et zv comma m k=>match o with|.lookup t m' k' c=>bo m m'&&bo k k'&&decide (c=comma)&&Nat.ble d 10000&&kQ P t (sD P t) (jc P t)&&cn P d et (sD P t)&&Ny P (jc P t) zv|_=>false
 |.ent it=>match o with|.entry x'=>bo it x'|_=>false
 |.st n x y=>match o with|.store t x' y'=>bo x x'&&bo y y'&&decide (bH P t=some n)|_=>false
 |.al T z=>match o with|.alloc t=>Nat.beq t T&&lF P t z|_=>false
 |.box T x=>match o with|.box t x'=>bo x x'&&Nat.beq t T|_=>false
 |.bsl Ty sz len z ps xs=>match o with|.buildSlice t n qs=>Nat.beq n len&&hZ P t Ty&&vT P Ty sz len z&&ru P t (qs.toList.map (·.1)) ps&&jI xs (qs.toList.map (·.2))|_=>false
 |.mks Ty sz bytes z l c=>match o with|.makeSlice t l' c'=>bo l l'&&bo c c'&&hZ P t Ty&&fS P Ty sz bytes&&lF P Ty z|_=>false
 |.mkx Ty sz bytes z l c=>match o with|.makeSlice t l' c'=>bo l l'&&bo c c'&&hZ P t Ty&&fS P Ty sz bytes&&lF P Ty z|_=>false
 |.mkm=>match o with|.makeMap t none=>kQ P t (sD P t) (jc P t)|_=>false
 |.mu d et m k v=>match o with|.mapUpdate t m' k' v'|.insert t m' k' v'=>bo m m'&&bo k k'&&bo v v'&&Nat.ble d 10000&&kQ P t (sD P t) (jc P t)&&cn P d et (sD P t)|_=>false
 |.rng m=>match o with|.range t m'=>bo m m'&&kQ P t (sD P t) (jc P t)|_=>false
 |.nxt it=>match o with|.next x' s=>bo it x'&& !s|_=>false
section
variable {P:Program} {E:Env} {ρ:Ren} {G:GS} {F:List aH} {M:T} {nx:Nat} {w:World} {N:Nat} {S:SL} {a:Act}
theorem bw {m:Sem Value} {z:Value} {w w':World} (h:m.run P w= .ok z w'):((do pure (Next.value (←m))):Sem Next).run P w= .ok (.value z) w':=by
 simp[amf,h]
theorem Aj {m:Sem Unit} {w w':World} (h:m.run P w= .ok () w'):((do m;pure Next.skip):Sem Next).run P w= .ok .skip w':=by
 simp[amf,h]
theorem AG (qs:Array (Nat×Operand)) (f:Operand→Value):(qs.map fun(i,x)=>(i,f x))=(((qs.toList.map (·.1)).zip ((qs.toList.map (·.2)).map f))).toArray:=by
 apply Array.ext'
 simp only[Array.toList_map,List.map_map]
 generalize qs.toList=l
 induction l with
 |nil=>rfl
 |cons p l ih=>simp[ih]
theorem gh {α:Type _} {x:Array α} {l:List α} (h:x.toList=l):x=l.toArray:=by
 subst h;simp
theorem aC {a b:Bool} (h:(a&&b)=true):a=true∧b=true:=by simpa using h
theorem ahe {f k:Nat} {u v:AV} {K:AV→Bool} {x y:Value} (h1:den E ρ u=some x) (h2:den E ρ v=some y)
  (hk:(Nat.rec (arY k u v K) (fun f _=>Nat.rec (Rj k u v K) (fun f _=>Nat.rec (shX (Nat.beq k 1) u v K) (fun f _=>Nat.rec (Re k u v K) (fun f _=>Nat.rec (Hp u v K) (fun _ _=>NI (Nat.beq k 1) u v K) f) f) f) f) f:Bool)=true) (t:TypeId) (p q:Operand):
  ∃v z,den E ρ v=some z∧K v=true∧∀w,((do eqGuard (Rk f k) t p q x y;binOp (Rk f k) t x y):Sem Value).run P w= .ok z w:=by
 match f with
 |0=>exact ahi h1 h2 hk t p q
 |1=>exact aaf h1 h2 hk t p q
 |2=>exact ael h1 h2 hk t p q
 |3=>exact ZU h1 h2 hk t p q
 |4=>exact NY h1 h2 hk t p q
 |n+5=>exact Wf h1 h2 hk t p q
set_option maxHeartbeats 1000000 in
theorem aey (hE:cK E) (s:SR E ρ N S a) {o:Oper} {x:XO} {K:AV→Bool} (hc:qN P x o.op=true) (hk:TV x S K=true):∃v z,den E ρ v=some z∧K v=true∧∀w,(execOp a.eval o).run P w= .ok (.value z) w:=by
 obtain⟨dst,op,ty,pos,af,g⟩:=o
 cases x<;>simp only[qN]at hc<;>simp only[TV]at hk<;>first|(cases hk;done)|skip
 case mv x=>
  split at hc<;>first|(cases hc;done)|skip
  all_goals
   obtain⟨v,z,h1,h2,h3⟩:=bg s hc hk
   exact⟨v,z,h1,h3,fun w=>by simp only[execOp,h2];rfl⟩
 case pick c x y=>
  split at hc<;>first|(cases hc;done)|skip
  obtain⟨hc,c3⟩:=aC hc
  obtain⟨c1,c2⟩:=aC hc
  obtain⟨v,z,h1,h2,h3⟩:=bg s c1 hk
  obtain⟨b,rfl,h4⟩:=xG h1 h3
  rcases aL h4 with⟨rfl,h5⟩|⟨rfl,h5⟩
  ·obtain⟨u,z,g1,g2,g3⟩:=bg s c2 h5
   exact⟨u,z,g1,g3,fun w=>by simp[execOp,h2,g2,asBool]⟩
  ·obtain⟨u,z,g1,g2,g3⟩:=bg s c3 h5
   exact⟨u,z,g1,g3,fun w=>by simp[execOp,h2,g2,asBool]⟩
 case bin f k x y=>
  split at hc<;>first|(cases hc;done)|skip
  rename_i b t x' y' t2
  obtain⟨hc,c3⟩:=aC hc
  obtain⟨c1,c2⟩:=aC hc
  rw[decide_eq_true_eq]at c1
  subst c1
  obtain⟨u,zu,h1,h2,h3⟩:=bg s c2 hk
  obtain⟨v,zv,h4,h5,h6⟩:=bg s c3 h3
  obtain⟨r,z,g1,g2,g3⟩:=ahe (P:=P) h1 h4 h6 t x' y'
  exact⟨r,z,g1,g2,fun w=>by simp only[execOp,h2,h5];exact bw (g3 w)⟩
 case eqs ne d et x y=>
  split at hc<;>first|(cases hc;done)|skip
  rename_i b t x' y' t2
  obtain⟨hc,c6⟩:=aC hc
  obtain⟨hc,c5⟩:=aC hc
  obtain⟨hc,c4⟩:=aC hc
  obtain⟨hc,c3⟩:=aC hc
  obtain⟨c1,c2⟩:=aC hc
  rw[decide_eq_true_eq]at c1
  subst c1
  obtain⟨u,zu,h1,h2,h3⟩:=bg s c5 hk
  obtain⟨v,zv,h4,h5,h6⟩:=bg s c6 h3
  obtain⟨r,z,g1,g2,g3⟩:=agJ (P:=P) (Nat.le_of_ble_eq_true c2) c3 (by simpa using c4) h1 h4 h6 x' y'
  exact⟨r,z,g1,g2,fun w=>by simp only[execOp,h2,h5];exact bw (g3 w)⟩
 case isn ne kd x=>
  split at hc<;>first|(cases hc;done)|skip
  rename_i b t x' c t2
  obtain⟨hc,c3⟩:=aC hc
  obtain⟨c1,c2⟩:=aC hc
  rw[decide_eq_true_eq]at c1
  subst c1
  split at c2
  case h_2=>cases c2
  rename_i z hz
  obtain⟨u,zu,h1,h2,h3⟩:=bg s c3 hk
  have hcz:c=z:=by
   have key:∀v:AV,(jZ v c&&jZ v z)=true→c=z:=fun v h=>by
    obtain⟨p,q⟩:=aC h
    have p':=oe (E:=⟨fun _=>undef,fun _=>none⟩) (ρ:=fun _=>none) p
    have q':=oe (E:=⟨fun _=>undef,fun _=>none⟩) (ρ:=fun _=>none) q
    rw[p']at q'
    exact amp q'
   simp only[Bool.or_eq_true]at c2
   rcases c2 with(((h|h)|h)|h)|h<;>exact key _ h
  subst hcz
  obtain⟨r,y,g1,g2,g3⟩:=YL (P:=P) hz h1 h3 x' c
  exact⟨r,y,g1,g2,fun w=>by simp only[execOp,h2];exact bw (g3 w)⟩
 case un f x=>
  split at hc<;>first|(cases hc;done)|skip
  rename_i u t x'
  obtain⟨c1,c2⟩:=aC hc
  rw[decide_eq_true_eq]at c2
  obtain⟨v,zv,h1,h2,h3⟩:=bg s c1 hk
  match f,c2,h3 with
  |0,c2,h3=>
   obtain⟨r,z,g1,g2,g3⟩:=WC (P:=P) h1 h3
   exact⟨r,z,g1,g2,fun w=>by simp only[execOp,h2,c2];exact bw (g3 w)⟩
  |1,c2,h3=>
   obtain⟨r,z,g1,g2,g3⟩:=WF (P:=P) h1 h3
   exact⟨r,z,g1,g2,fun w=>by simp only[execOp,h2,c2];exact bw (g3 w)⟩
  |n+2,c2,h3=>
   obtain⟨r,z,g1,g2,g3⟩:=ZP (P:=P) h1 h3
   exact⟨r,z,g1,g2,fun w=>by simp only[execOp,h2,c2];exact bw (g3 w)⟩
 case cnw k x=>
  split at hc<;>first|(cases hc;done)|skip
  obtain⟨hc,c3⟩:=aC hc
  obtain⟨c1,c2⟩:=aC hc
  obtain⟨v,zv,h1,h2,h3⟩:=bg s c1 hk
  obtain⟨r,z,g1,g2,g3⟩:=ZQ (P:=P) h1 h3 c2 (BT c3)
  exact⟨r,z,g1,g2,fun w=>by simp only[execOp,h2];exact bw (g3 w)⟩
 case cnv k x=>
  split at hc<;>first|(cases hc;done)|skip
  obtain⟨hc,c3⟩:=aC hc
  obtain⟨c1,c2⟩:=aC hc
  obtain⟨v,zv,h1,h2,h3⟩:=bg s c1 hk
  obtain⟨r,z,g1,g2,g3⟩:=ZR (P:=P) h1 h3 c2 (BT c3)
  exact⟨r,z,g1,g2,fun w=>by simp only[execOp,h2];exact bw (g3 w)⟩
 case fa off x=>
  split at hc<;>first|(cases hc;done)|skip
  obtain⟨c1,c2⟩:=aC hc
  rw[decide_eq_true_eq]at c2
  obtain⟨v,zv,h1,h2,h3⟩:=bg s c1 hk
  obtain⟨r,z,g1,g2,g3⟩:=agG (P:=P) c2 h1 h3
  exact⟨r,z,g1,g2,fun w=>by simp only[execOp,h2];exact bw (g3 w)⟩
 case nck x=>
  split at hc<;>first|(cases hc;done)|skip
  obtain⟨v,zv,h1,h2,h3⟩:=bg s hc hk
  obtain⟨g1,g2⟩:=WI (P:=P) h1 h3 (a:=a) h2 (dst:=dst) (ty:=ty) (pos:=pos) (af:=af) (g:=g)
  exact⟨v,zv,h1,g1,g2⟩
 case ixa n sz x i=>
  split at hc<;>first|(cases hc;done)|skip
  obtain⟨hc,c4⟩:=aC hc
  obtain⟨hc,c3⟩:=aC hc
  obtain⟨c1,c2⟩:=aC hc
  rw[decide_eq_true_eq]at c4
  obtain⟨v,zv,h1,h2,h3⟩:=bg s c1 hk
  obtain⟨u,zu,h4,h5,h6⟩:=bg s c2 h3
  obtain⟨r,z,g1,g2,g3⟩:=YG (P:=P) (BV c3) c4 h1 h4 h6
  exact⟨r,z,g1,g2,fun w=>by simp only[execOp,h2,h5];exact bw (g3 w)⟩
 case slt x lo hi=>
  split at hc<;>first|(cases hc;done)|skip
  obtain⟨hc,c4⟩:=aC hc
  obtain⟨hc,c3⟩:=aC hc
  obtain⟨c1,c2⟩:=aC hc
  obtain⟨v,zv,h1,h2,h3⟩:=bg s c1 hk
  obtain⟨l,l1,l2⟩:=qI s c2 h3
  obtain⟨hh,l3,l4⟩:=qI s c3 l2
  obtain⟨u,z,g1,g2,g3⟩:=VY (P:=P) (tK c4) h1 l1 l3 l4
  exact⟨u,z,g1,g2,fun w=>by simp only[execOp,h2];exact bw (g3 w)⟩
 case ixv agg n sz x i=>
  split at hc<;>first|(cases hc;done)|skip
  obtain⟨hc,c5⟩:=aC hc
  obtain⟨hc,c4⟩:=aC hc
  obtain⟨hc,c3⟩:=aC hc
  obtain⟨c1,c2⟩:=aC hc
  rw[decide_eq_true_eq]at c4 c5
  obtain⟨v,zv,h1,h2,h3⟩:=bg s c1 hk
  obtain⟨u,zu,h4,h5,h6⟩:=bg s c2 h3
  obtain⟨r,z,g1,g2,g3⟩:=YD (P:=P) (BV c3) c4 c5 h1 h4 h6
  exact⟨r,z,g1,g2,fun w=>by simp only[execOp,h2,h5];exact bw (g3 w)⟩
 case ixs sz x i=>
  split at hc<;>first|(cases hc;done)|skip
  obtain⟨hc,c4⟩:=aC hc
  obtain⟨hc,c3⟩:=aC hc
  obtain⟨c1,c2⟩:=aC hc
  rw[decide_eq_true_eq]at c4
  obtain⟨v,zv,h1,h2,h3⟩:=bg s c1 hk
  obtain⟨u,zu,h4,h5,h6⟩:=bg s c2 h3
  obtain⟨r,z,g1,g2,g3⟩:=YE (P:=P) (dJ c3) c4 h1 h4 h6
  exact⟨r,z,g1,g2,fun w=>by simp only[execOp,h2,h5];exact bw (g3 w)⟩
 case fld agg off n x=>
  split at hc<;>first|(cases hc;done)|skip
  obtain⟨c1,c2⟩:=aC hc
  split at c2
  case h_2=>cases c2
  rename_i fs hfs
  split at c2
  case h_2=>cases c2
  rename_i f hf
  obtain⟨c2,c4⟩:=aC c2
  obtain⟨c2,c3⟩:=aC c2
  rw[decide_eq_true_eq]at c3 c4
  obtain⟨v,zv,h1,h2,h3⟩:=bg s c1 hk
  obtain⟨r,z,g1,g2,g3⟩:=ZE (P:=P) hfs hf (al6 c2) c3 c4 h1 h3
  exact⟨r,z,g1,g2,fun w=>by simp only[execOp,h2];exact bw (g3 w)⟩
 case len f x=>
  split at hc<;>first|(cases hc;done)|skip
  rename_i c
  obtain⟨callee,args,tas⟩:=c
  split at hc<;>first|(cases hc;done)|skip
  rename_i x' t e1 e2 e3
  simp only at e1 e2 e3
  obtain rfl:=gh e2
  obtain rfl:=gh e3
  subst e1
  obtain⟨c1,c2⟩:=aC hc
  obtain⟨v,zv,h1,h2,h3⟩:=bg s c1 hk
  cases f with
  |zero=>
   obtain⟨r,z,g1,g2,g3⟩:=NG (P:=P) (ty:=ty) (tK c2) h1 h3
   refine⟨r,z,g1,g2,fun w=> ?_⟩
   rw[dN,show[x'].toArray.map a.eval= #[zv] by simp[h2]]
   exact g3 _ w
  |succ f=>
   obtain⟨r,z,g1,g2,g3⟩:=Yt (P:=P) (ty:=ty) (dJ c2) h1 h3
   refine⟨r,z,g1,g2,fun w=> ?_⟩
   rw[dN,show[x'].toArray.map a.eval= #[zv] by simp[h2]]
   exact g3 _ w
 case cap x=>
  split at hc<;>first|(cases hc;done)|skip
  rename_i c
  obtain⟨callee,args,tas⟩:=c
  split at hc<;>first|(cases hc;done)|skip
  rename_i x' t e1 e2 e3
  simp only at e1 e2 e3
  obtain rfl:=gh e2
  obtain rfl:=gh e3
  subst e1
  obtain⟨c1,c2⟩:=aC hc
  obtain⟨v,zv,h1,h2,h3⟩:=bg s c1 hk
  obtain⟨r,z,g1,g2,g3⟩:=ZX (P:=P) (ty:=ty) (dJ c2) h1 h3
  refine⟨r,z,g1,g2,fun w=> ?_⟩
  rw[dN,show[x'].toArray.map a.eval= #[zv] by simp[h2]]
  exact g3 _ w
 case mx b x y=>
  split at hc<;>first|(cases hc;done)|skip
  rename_i c
  obtain⟨callee,args,tas⟩:=c
  split at hc<;>first|(cases hc;done)|skip
  rename_i f x' y' e1 e2
  simp only at e1 e2
  obtain rfl:=gh e2
  subst e1
  obtain⟨hc,c3⟩:=aC hc
  obtain⟨c1,c2⟩:=aC hc
  rw[decide_eq_true_eq]at c3
  subst c3
  obtain⟨v,zv,h1,h2,h3⟩:=bg s c1 hk
  obtain⟨u,zu,h4,h5,h6⟩:=bg s c2 h3
  obtain⟨r,z,g1,g2,g3⟩:=afn (P:=P) (ta:=tas) (ty:=ty) h1 h4 h6
  refine⟨r,z,g1,g2,fun w=> ?_⟩
  rw[dN,show[x',y'].toArray.map a.eval= #[zv,zu] by simp[h2,h5]]
  exact g3 _ w
 case ext i x=>
  split at hc<;>first|(cases hc;done)|skip
  obtain⟨c1,c2⟩:=aC hc
  have c2:=al6 c2
  subst c2
  obtain⟨v,zv,h1,h2,h3⟩:=bg s c1 hk
  obtain⟨r,z,g1,g2,g3⟩:=ZI (P:=P) h1 h3
  exact⟨r,z,g1,g2,fun w=>by simp only[execOp,h2];exact bw (g3 w)⟩
 case six x i=>
  split at hc<;>first|(cases hc;done)|skip
  obtain⟨hc,c3⟩:=aC hc
  obtain⟨c1,c2⟩:=aC hc
  obtain⟨v,zv,h1,h2,h3⟩:=bg s c1 hk
  obtain⟨u,zu,h4,h5,h6⟩:=bg s c2 h3
  obtain⟨r,z,g1,g2,g3⟩:=Wb (P:=P) (tK c3) h1 h4 h6
  exact⟨r,z,g1,g2,fun w=>by simp only[execOp,h2,h5];exact bw (g3 w)⟩
 case bld z ps xs=>
  split at hc<;>first|(cases hc;done)|skip
  rename_i t qs
  obtain⟨hc,c4⟩:=aC hc
  obtain⟨hc,c3⟩:=aC hc
  obtain⟨c1,c2⟩:=aC hc
  obtain⟨vs,h1,h2,h3⟩:=oi s c4 hk
  obtain⟨h4,h5⟩:=ac h2
  obtain⟨zs,z1,z2⟩:=io (E:=E) (ρ:=ρ) c2
  obtain⟨u,x,g1,g2,g3⟩:=aae hE z1 z2 c1 c3 h1 (by simpa using h3) (vX hE h4 h1) h5
  exact⟨u,x,g1,g2,fun w=>by simp only[execOp,AG];exact bw (g3 w)⟩
 case mkf f xs=>
  split at hc<;>first|(cases hc;done)|skip
  rename_i f' fs caps
  obtain⟨hc,c3⟩:=aC hc
  obtain⟨c1,c2⟩:=aC hc
  have c1:=al6 c1
  subst c1
  have c2:fs= #[]:=by simpa using c2
  subst c2
  obtain⟨vs,h1,h2,h3⟩:=oi s c3 hk
  refine⟨_,_,?_,h2,fun w=>by simp only[execOp];exact bw rfl⟩
  have e:(List.map a.eval caps.toList).toArray=Array.map a.eval caps:=Array.ext' (by rw[Array.toList_map])
  simp only[den,h1,e,Array.map_empty]
end
section
variable {P:Program} {E:Env} {ρ:Ren} {G:GS} {F:List aH} {M:T} {nx:Nat} {w:World} {N:Nat} {S:SL} {a:Act}
theorem Ki (h:Sim E ρ G F M nx w) (s:SR E ρ N S a) {o:Oper} {x:XO} {K:AV→Bool} (hc:qN P x o.op=true) (hk:Fa x S M K=true):∃v z,den E ρ v=some z∧K v=true∧(execOp a.eval o).run P w= .ok (.value z) w:=by
 obtain⟨dst,op,ty,pos,af,g⟩:=o
 cases x<;>simp only[qN]at hc<;>simp only[Fa]at hk<;>first|(cases hk;done)|skip
 case ld agg n x=>
  split at hc<;>first|(cases hc;done)|skip
  obtain⟨hc,c3⟩:=aC hc
  obtain⟨c1,c2⟩:=aC hc
  rw[decide_eq_true_eq]at c2 c3
  obtain⟨v,zv,h1,h2,h3⟩:=bg s c1 hk
  obtain⟨u,z,g1,g2,g3⟩:=uY (P:=P) h h1 h3 c2 c3
  exact⟨u,z,g1,g2,by simp only[execOp,h2];exact bw g3⟩
 case mlen x=>
  split at hc<;>first|(cases hc;done)|skip
  rename_i c
  obtain⟨callee,args,tas⟩:=c
  split at hc<;>first|(cases hc;done)|skip
  rename_i x' t e1 e2 e3
  simp only at e1 e2 e3
  obtain rfl:=gh e2
  obtain rfl:=gh e3
  subst e1
  obtain⟨c1,c2⟩:=aC hc
  obtain⟨v,zv,h1,h2,h3⟩:=bg s c1 hk
  obtain⟨r,z,g1,g2,g3⟩:=Pf (P:=P) (ty:=ty) h (ig c2) h1 h3
  refine⟨r,z,g1,g2,?_⟩
  rw[dN,show[x'].toArray.map a.eval= #[zv] by simp[h2]]
  exact g3 _
 case sls sz x lo hi mx=>
  split at hc<;>first|(cases hc;done)|skip
  obtain⟨hc,c6⟩:=aC hc
  obtain⟨hc,c5⟩:=aC hc
  obtain⟨hc,c4⟩:=aC hc
  obtain⟨hc,c3⟩:=aC hc
  obtain⟨c1,c2⟩:=aC hc
  rw[decide_eq_true_eq]at c6
  obtain⟨v,zv,h1,h2,h3⟩:=bg s c1 hk
  obtain⟨l,l1,l2⟩:=qI s c2 h3
  obtain⟨hh,l3,l4⟩:=qI s c3 l2
  obtain⟨m,l5,l6⟩:=qI s c4 l4
  obtain⟨u,z,g1,g2,g3⟩:=VZ (P:=P) h (dJ c5) c6 h1 l1 l3 l5 l6
  exact⟨u,z,g1,g2,by simp only[execOp,h2];exact bw g3⟩
 case lk d et zv comma m k=>
  split at hc<;>first|(cases hc;done)|skip
  obtain⟨hc,c7⟩:=aC hc
  obtain⟨hc,c6⟩:=aC hc
  obtain⟨hc,c5⟩:=aC hc
  obtain⟨hc,c4⟩:=aC hc
  obtain⟨hc,c3⟩:=aC hc
  obtain⟨c1,c2⟩:=aC hc
  rw[decide_eq_true_eq]at c3
  subst c3
  obtain⟨v,z1,h1,h2,h3⟩:=bg s c1 hk
  obtain⟨u,z2,h4,h5,h6⟩:=bg s c2 h3
  obtain⟨zz,z3,z4⟩:=UX (E:=E) (ρ:=ρ) c7
  obtain⟨r,z,g1,g2,g3⟩:=afU (P:=P) h (Nat.le_of_ble_eq_true c4) (ig c5) c6 z3 z4 h1 h4 h6
  exact⟨r,z,g1,g2,by simp only[execOp,h2,h5];exact bw g3⟩
 case ent it=>
  split at hc<;>first|(cases hc;done)|skip
  obtain⟨v,zv,h1,h2,h3⟩:=bg s hc hk
  obtain⟨u,z,g1,g2,g3⟩:=ZK (P:=P) h h1 h3
  exact⟨u,z,g1,g2,by simp only[execOp,h2];exact bw g3⟩
theorem pH:∀(vs:List Value) (b o k i:Nat),storeCells ⟨b,o,none⟩ vs (k+i)=storeCells ⟨b,o+k,none⟩ vs i
 |[],_,_,_,_=>rfl
 |v::vs,b,o,k,i=>by
  unfold storeCells
  rw[show k+i+1=k+(i+1) by omega,pH vs b o k (i+1)]
  simp only[bQ,Nat.add_assoc]
theorem nO:∀(xs ys:List Value) (a:Addr) (i:Nat) {w w1 w2:World},(storeCells a xs i).run P w= .ok () w1→(storeCells a ys (i+xs.length)).run P w1= .ok () w2→(storeCells a (xs++ys) i).run P w= .ok () w2
 |[],ys,a,i,w,w1,w2,h,k=>by
  simp only[storeCells,Sem.run_pure]at h
  cases h
  simpa using k
 |x::xs,ys,a,i,w,w1,w2,h,k=>by
  simp only[List.cons_append,storeCells,amf]at h ⊢
  rcases e:(store (a.add i) x).run P w with⟨u,w'⟩|_|_<;>rw[e]at h<;>try(cases h;done)
  simp only[ame]at h ⊢
  exact nO xs ys a (i+1) h (by rw[show i+1+xs.length=i+(x::xs).length by simp;omega];exact k)
theorem kp {zs:Array Value}:∀{n:Nat},0<zs.size→(Builtin.zeroCells zs n).toList=(List.replicate n zs.toList).flatten
 |0,_=>by simp[Builtin.zeroCells]
 |n+1,h=>by
  rw[List.replicate_succ',List.flatten_append,←kp h]
  simp only[Builtin.zeroCells,Array.toList_map,Array.toList_range,Nat.succ_mul,List.range_add,amg,List.map_map,al8,List.flatten_nil,List.append_nil]
  congr 1
  refine List.ext_getElem? fun i=> ?_
  simp only[amn,Function.comp_def]
  by_cases hi:i<zs.size
  ·rw[List.getElem?_range hi]
   simp[Nat.add_mod,Nat.mod_eq_of_lt hi,hi]
  ·rw[List.getElem?_eq_none (by simp;omega),List.getElem?_eq_none (by simp;omega)]
   rfl
theorem ZW (hE:cK E) {z:List AV} {zs:Array Value} {v:AV} {x:Value} {K:T→Bool} (h:Sim E ρ G F M nx w) (hv:den E ρ v=some x) (hz:ay E ρ z=some zs.toList) (hk:ag6 z v M K=true):
  ∃M' w',Sim E ρ G F M' nx w'∧K M'=true∧(x= .slice none 0 0∧w'=w∨∃ad n c,x= .slice (some ad) n c∧(n=0∧w'=w∨0<n∧0<zs.size∧(storeCells ad (List.replicate n zs.toList).flatten).run P w= .ok () w')):=by
 obtain⟨s,rfl,g⟩:=co hk
 cases s<;>first|(cases g;done)|skip
 case psub i sz0 a n o c=>
  obtain⟨T0,sz,α,l,enc,hi,g⟩:=bP g
  obtain⟨g00,ga⟩:=ac g
  have g0:=al6 g00
  clear g g00
  obtain⟨g1,gb⟩:=ac ga
  obtain⟨g2,gc⟩:=ac gb
  obtain⟨hn,gd⟩:=ai gc
  clear ga gb gc
  subst g0
  have g1:=al6 g1
  obtain⟨M',k1,k2,k3⟩:=T.set_ok _ _ _ _ _ gd
  obtain⟨e,q1,hsz,hrow⟩:=h.prow hi
  simp only[den,aJ,q1]at hv
  have same:Sim E ρ G F M' nx w:=h.reobj (o':=.prow T0 sz α (l.take a) enc) hi (fun e=>rfl) (fun e2 ob _ hr=>hr.take (by omega)) (fun hr=>⟨by rw[hr.1];exact List.take_nil,hr.2⟩) k2 k3
  rcases dp hv with⟨c1,c2,_,rfl⟩|⟨c',c1,rfl,c2,c3⟩
  ·exact⟨M',w,same,k1,.inl ⟨rfl,rfl⟩⟩
  ·by_cases hn0:n=0
   ·subst hn0
    exact⟨M',w,same,k1,.inr ⟨_,_,_,rfl,.inl ⟨rfl,rfl⟩⟩⟩
   ·rw[if_neg (by omega)]
    rcases hrow with⟨b1,b2⟩|⟨c4,arr,b1,b2,r⟩
    ·omega
    have:c4=c':=by omega
    subst this
    have hzl:zs.toList.length=sz:=by rw[g1,bB];exact bA hz
    have hvl:(List.replicate n zs.toList).flatten.length=n*sz:=by simp[hzl]
    have hle:a*sz+n*sz≤arr.size:=by rw[r.size,←Nat.add_mul];exact Nat.mul_le_mul_right _ c2
    have hone:=kV hE g2 hz
    obtain⟨w',hr,w1,w2,w3,w4,w5,w6⟩:=kI (P:=P) (a*sz) (List.replicate n zs.toList).flatten 0 w arr r.heap (by omega) (by
     rw[List.all_eq_true]
     intro u hu
     obtain⟨y,y1,y2⟩:=List.mem_flatten.1 hu
     rw[(List.mem_replicate.1 y1).2]at y2
     exact List.all_eq_true.1 hone u y2)
    rw[Nat.add_zero]at w1
    have hsp:=jN (List.replicate n zs.toList).flatten arr (a*sz) (by omega)
    have hB:bC e (.prow T0 sz α l enc)=true:=bW b1
    have hor:ORel E ρ e (.prow T0 sz α l enc) (.cells arr T0 (0,0)):=⟨arr,(l.flatMap enc).map aQ,rfl,hsz,b2,eI r.ok,by rw[r.size,b1];simp,r.take,by rw[b1];simp;exact r.le,by rw[b1];simp;exact r.max⟩
    obtain⟨arr2,xs,e1,e2,e3,e4,e5,e6,e7,e8⟩:=hor.take (n:=a) (by omega)
    cases e1
    have htk:(l.take a).length=a:=by rw[ami];omega
    refine⟨M',w',h.turn (o':=.prow T0 sz α (l.take a) enc) (ob':=.cells (ed arr (a*sz) (List.replicate n zs.toList).flatten) T0 (0,0)) hi q1 w2 w3 w4 (fun b _ hb=>w6 b hb) w1 ⟨_,xs,rfl,hsz,e3,e4,?_,?_,e7,e8⟩ k2 k3 hB (bW b1),k1,.inr ⟨_,_,_,rfl,.inr ⟨by omega,by rw[←Array.length_toList];omega,hr⟩⟩⟩
    ·rw[gV,r.size,b1];simp
    ·rw[htk,hsp,List.append_assoc,List.take_left' (by simp;omega)]
     rw[htk]at e6
     exact e6
theorem Gg (hE:cK E) {i Ty:Nat} {e:cM} {z:List AV} {zs:Array Value} (he:ρ i=some e) (hz:ay E ρ z=some zs.toList) (hs:bH P Ty=some (cj z)):∀{n o:Nat} {M:T} {w:World} {K:T→Bool},Sim E ρ G F M nx w→Rf z i n o M K=true→
  ∃M' w',Sim E ρ G F M' nx w'∧K M'=true∧(storeCells ⟨e.b,o,none⟩ (List.replicate n zs.toList).flatten).run P w= .ok () w'
 |0,o,M,w,K,h,hk=>⟨M,w,h,hk,by simp[storeCells,Sem.run_pure]⟩
 |n+1,o,M,w,K,h,hk=>by
  have hk:cU (cj z) (.ptr i o) (.agg z) M (fun M'=>fN (Nat.add o (cj z)) fun o'=>Rf z i n o' M' K)=true:=hk
  obtain⟨M1,w1,g1,g2,_,g4⟩:=EN (P:=P) hE h (v:=.ptr i o) (x:=.agg z) (p:=.pointer (some ⟨e.b,o,none⟩)) (y:=.agg zs) (by simp only[den,he]) (by simp only[den,hz,Array.toArray_toList]) hk hs
  have g4:=g4 _ rfl
  rw[bt]at g2
  obtain⟨M2,w2,k1,k2,k3⟩:=Gg hE he hz hs g1 g2
  refine⟨M2,w2,k1,k2,?_⟩
  have hl:zs.toList.length=cj z:=by rw[bB];exact bA hz
  rw[List.replicate_succ,al8]
  refine nO _ _ _ 0 g4 ?_
  have:=pH (List.replicate n zs.toList).flatten e.b o (cj z) 0
  rw[Nat.zero_add]
  show(storeCells _ _ zs.toList.length).run P w1=_
  rw[hl]
  rw[Nat.add_zero]at this
  rw[this]
  exact k3
def alY (P:Program) (E:Env) (ρ':Ren) (o:Oper) (a:Act) (w w':World) (v:AV):Prop:=
 (∃z,den E ρ' v=some z∧(execOp a.eval o).run P w= .ok (.value z) w')∨(v= .bad∧(execOp a.eval o).run P w= .ok .skip w')
theorem aez (hE:cK E) (h:Sim E ρ G F M nx w) (s:SR E ρ N S a) {o:Oper} {x:XO} {K:AV→T→Nat→Bool} (hc:qN P x o.op=true) (hk:TW x S M nx K=true):
  ∃v M' nx' ρ' w',ρ.Le ρ'∧Sim E ρ' G F M' nx' w'∧K v M' nx'=true∧alY P E ρ' o a w w' v:=by
 obtain⟨dst,op,ty,pos,af,g⟩:=o
 cases x<;>simp only[qN]at hc<;>simp only[TW]at hk<;>first|(cases hk;done)|skip
 case st n x y=>
  split at hc<;>first|(cases hc;done)|skip
  obtain⟨hc,c3⟩:=aC hc
  obtain⟨c1,c2⟩:=aC hc
  rw[decide_eq_true_eq]at c3
  obtain⟨v,z1,h1,h2,h3⟩:=bg s c1 hk
  obtain⟨u,z2,h4,h5,h6⟩:=bg s c2 h3
  obtain⟨M',w',g1,g2,g3⟩:=aeb (P:=P) hE h h1 h4 h6 c3
  exact⟨.bad,M',nx,ρ,w',Ren.Le.refl _,g1,g2,.inr ⟨rfl,by simp only[execOp,h2,h5];exact Aj g3⟩⟩
 case al T z=>
  split at hc<;>first|(cases hc;done)|skip
  obtain⟨c1,c2⟩:=aC hc
  have c1:=al6 c1
  subst c1
  obtain⟨zs,z1,z2⟩:=io (E:=E) (ρ:=ρ) c2
  obtain⟨h1,h2⟩:=ac hk
  rw[amq,bB]at h1
  obtain⟨v,M',nx',ρ',w',z,g1,g2,g3,g4,g5⟩:=Ru (P:=P) h z1 z2 (fun e=>by rw[e]at h1;simp at h1) h2
  exact⟨v,M',nx',ρ',w',g1,g2,g3,.inl ⟨z,g4,by simp only[execOp];exact bw g5⟩⟩
 case box T x=>
  split at hc<;>first|(cases hc;done)|skip
  obtain⟨c1,c2⟩:=aC hc
  have c2:=al6 c2
  subst c2
  obtain⟨u,zu,h1,h2,h3⟩:=bg s c1 hk
  obtain⟨v,M',nx',ρ',w',z,g1,g2,g3,g4,g5⟩:=aad (P:=P) hE h h1 h3
  exact⟨v,M',nx',ρ',w',g1,g2,g3,.inl ⟨z,g4,by simp only[execOp,h2];exact bw g5⟩⟩
 case bsl Ty sz len z ps xs=>
  split at hc<;>first|(cases hc;done)|skip
  rename_i t n qs
  obtain⟨hc,c5⟩:=aC hc
  obtain⟨hc,c4⟩:=aC hc
  obtain⟨hc,c3⟩:=aC hc
  obtain⟨c1,c2⟩:=aC hc
  have c1:=al6 c1
  subst c1
  obtain⟨vs,h1,h2,h3⟩:=oi s c5 hk
  obtain⟨h4,h5⟩:=ac h2
  obtain⟨zs,z1,z2⟩:=GY (E:=E) (ρ:=ρ) c3
  obtain⟨v,M',nx',ρ',w',x,g1,g2,g3,g4,g5⟩:=aac (P:=P) hE h (dJ c2) z1 z2 c4 h1 (by simpa using h3) (vX hE h4 h1) h5
  exact⟨v,M',nx',ρ',w',g1,g2,g3,.inl ⟨x,g4,by simp only[execOp,AG];exact bw g5⟩⟩
 case mks Ty sz bytes z l c=>
  split at hc<;>first|(cases hc;done)|skip
  obtain⟨hc,c5⟩:=aC hc
  obtain⟨hc,c4⟩:=aC hc
  obtain⟨hc,c3⟩:=aC hc
  obtain⟨c1,c2⟩:=aC hc
  obtain⟨u,z1,h1,h2,h3⟩:=bg s c1 hk
  obtain⟨v,z2,h4,h5,h6⟩:=bg s c2 h3
  obtain⟨zs,y1,y2⟩:=io (E:=E) (ρ:=ρ) c5
  obtain⟨v,M',nx',ρ',w',x,g1,g2,g3,g4,g5⟩:=Yb (P:=P) h (dJ c3) c4 y1 y2 h1 h4 h6
  exact⟨v,M',nx',ρ',w',g1,g2,g3,.inl ⟨x,g4,by simp only[execOp,h2,h5];exact bw g5⟩⟩
 case mkx Ty sz bytes z l c=>
  split at hc<;>first|(cases hc;done)|skip
  obtain⟨hc,c5⟩:=aC hc
  obtain⟨hc,c4⟩:=aC hc
  obtain⟨hc,c3⟩:=aC hc
  obtain⟨c1,c2⟩:=aC hc
  obtain⟨u,z1,h1,h2,h3⟩:=bg s c1 hk
  obtain⟨v,z2,h4,h5,h6⟩:=bg s c2 h3
  obtain⟨zs,y1,y2⟩:=io (E:=E) (ρ:=ρ) c5
  obtain⟨v,M',nx',ρ',w',x,g1,g2,g3,g4,g5⟩:=Ya (P:=P) h (dJ c3) c4 h1 h4 h6
  exact⟨v,M',nx',ρ',w',g1,g2,g3,.inl ⟨x,g4,by simp only[execOp,h2,h5];exact bw g5⟩⟩
 case mkm=>
  split at hc<;>first|(cases hc;done)|skip
  obtain⟨v,M',nx',ρ',w',x,g1,g2,g3,g4,g5⟩:=Yd (P:=P) h hk (ig hc) (hint:=none) (fun v hv=>by cases hv)
  exact⟨v,M',nx',ρ',w',g1,g2,g3,.inl ⟨x,g4,by simp only[execOp,Option.map_none];exact bw g5⟩⟩
 case mu d et m k v=>
  split at hc<;>first|(cases hc;done)|skip
  all_goals
   obtain⟨hc,c6⟩:=aC hc
   obtain⟨hc,c5⟩:=aC hc
   obtain⟨hc,c4⟩:=aC hc
   obtain⟨hc,c3⟩:=aC hc
   obtain⟨c1,c2⟩:=aC hc
   obtain⟨u,z1,h1,h2,h3⟩:=bg s c1 hk
   obtain⟨v,z2,h4,h5,h6⟩:=bg s c2 h3
   obtain⟨q,z3,h7,h8,h9⟩:=bg s c3 h6
   obtain⟨M',w',g1,g2,g3⟩:=afp (P:=P) h (Nat.le_of_ble_eq_true c4) (ig c5) c6 h1 h4 h7 h9
   exact⟨.bad,M',nx,ρ,w',Ren.Le.refl _,g1,g2,.inr ⟨rfl,by simp only[execOp,h2,h5,h8];exact Aj g3⟩⟩
 case rng m=>
  split at hc<;>first|(cases hc;done)|skip
  obtain⟨c1,c2⟩:=aC hc
  obtain⟨u,z1,h1,h2,h3⟩:=bg s c1 hk
  obtain⟨v,M',nx',ρ',w',x,g1,g2,g3,g4,g5⟩:=Wi (P:=P) h (ig c2) h1 h3
  exact⟨v,M',nx',ρ',w',g1,g2,g3,.inl ⟨x,g4,by simp only[execOp,h2];exact bw g5⟩⟩
 case nxt it=>
  split at hc<;>first|(cases hc;done)|skip
  rename_i x' b
  obtain⟨c1,c2⟩:=aC hc
  have c2:b=false:=by simpa using c2
  subst c2
  obtain⟨u,z1,h1,h2,h3⟩:=bg s c1 hk
  obtain⟨v,M',w',z,g1,g2,g3,g4⟩:=Wy (P:=P) (ty:=ty) h h1 h3
  exact⟨v,M',nx,ρ,w',Ren.Le.refl _,g1,g2,.inl ⟨z,g3,by simp only[execOp,h2];exact bw g4⟩⟩
 case clr Ty z x=>
  split at hc<;>first|(cases hc;done)|skip
  rename_i c
  obtain⟨callee,args,tas⟩:=c
  split at hc<;>first|(cases hc;done)|skip
  rename_i x' t e1 e2 e3
  simp only at e1 e2 e3
  obtain rfl:=gh e2
  obtain rfl:=gh e3
  subst e1
  obtain⟨hc,c4⟩:=aC hc
  obtain⟨hc,c3⟩:=aC hc
  obtain⟨c1,c2⟩:=aC hc
  rw[decide_eq_true_eq,←bB]at c4
  obtain⟨u,z1,h1,h2,h3⟩:=bg s c1 hk
  rcases aL h3 with⟨_,h3⟩|⟨_,h3⟩
  ·obtain⟨zs,y1,y2⟩:=io (E:=E) (ρ:=ρ) c3
   obtain⟨M',w',g1,g2,g4⟩:=ZW (P:=P) hE h h1 y2 h3
   obtain⟨zv,r1,r2⟩:=oE (P:=P) y1 w
   refine⟨.tup [],M',nx,ρ,w',Ren.Le.refl _,g1,g2,.inl ⟨.tuple #[],by simp[den,ay],?_⟩⟩
   have hlz:zs.toList.length=cj z:=by rw[bB];exact bA y2
   have hc0:(Builtin.clear_ #[t] ty #[z1]).run P w= .ok (.tuple #[]) w':=by
    rcases g4 with⟨rfl,rfl⟩|⟨ad,n,c,rfl,⟨rfl,rfl⟩|⟨hn,h5,hst⟩⟩
    ·simp[Builtin.clear_,run_underlying (dJ c2)]
    ·simp[Builtin.clear_,run_underlying (dJ c2)]
    ·obtain⟨n,rfl⟩:∃m,n=m+1:=⟨n - 1,by omega⟩
     have hz0:=kp (zs:=zs) (n:=n+1) h5
     simp only[Builtin.clear_,List.getElem?_toArray,List.getElem?_cons_zero]
     simp[run_underlying (dJ c2),amf,r1,Result.andThen,r2,hz0,hst]
   simp only[execOp,resolve,List.map_toArray,al9,List.map_nil,h2]
   simp[invoke,builtin,hc0]
  rcases fC h3 with⟨_,h3⟩|⟨i,o,n,cp,rfl,k3⟩
  ·cases h3
  obtain⟨h4,k4⟩:=ac k3
  obtain⟨h5,k5⟩:=ac k4
  rw[amq]at h4
  rw[amq]at h5
  obtain⟨zs,y1,y2⟩:=io (E:=E) (ρ:=ρ) c3
  have hlz:zs.toList.length=cj z:=by rw[bB];exact bA y2
  simp only[den]at h1
  split at h1
  case h_2=>cases h1
  rename_i e he
  cases h1
  obtain⟨M',w',g1,g2,g4⟩:=Gg (P:=P) hE he y2 c4 h k5
  obtain⟨zv,r1,r2⟩:=oE (P:=P) y1 w
  refine⟨.tup [],M',nx,ρ,w',Ren.Le.refl _,g1,g2,.inl ⟨.tuple #[],by simp[den,ay],?_⟩⟩
  have hc0:(Builtin.clear_ #[t] ty #[.slice (some ⟨e.b,o,none⟩) n (cw e cp)]).run P w= .ok (.tuple #[]) w':=by
   obtain⟨n,rfl⟩:∃m,n=m+1:=⟨n - 1,by omega⟩
   have hz0:=kp (zs:=zs) (n:=n+1) (by rw[←Array.length_toList];omega)
   simp only[Builtin.clear_,List.getElem?_toArray,List.getElem?_cons_zero]
   simp[run_underlying (dJ c2),amf,r1,Result.andThen,r2,hz0,g4]
  simp only[execOp,resolve,List.map_toArray,al9,List.map_nil,h2]
  simp[invoke,builtin,hc0]
 case mcl m=>
  split at hc<;>first|(cases hc;done)|skip
  rename_i c
  obtain⟨callee,args,tas⟩:=c
  split at hc<;>first|(cases hc;done)|skip
  rename_i x' t e1 e2 e3
  simp only at e1 e2 e3
  obtain rfl:=gh e2
  obtain rfl:=gh e3
  subst e1
  obtain⟨c1,c2⟩:=aC hc
  obtain⟨u,z1,h1,h2,h3⟩:=bg s c1 hk
  obtain⟨M',w',g1,g2,g3⟩:=Yh (P:=P) (ty:=ty) h (ig c2) h1 h3
  refine⟨.tup [],M',nx,ρ,w',Ren.Le.refl _,g1,g2,.inl ⟨.tuple #[],by simp[den,ay],?_⟩⟩
  rw[dN,show[x'].toArray.map a.eval= #[z1] by simp[h2]]
  simp only[builtin]
  exact bw g3
 case app Ty sz bytes x y=>
  split at hc<;>first|(cases hc;done)|skip
  rename_i c
  obtain⟨callee,args,tas⟩:=c
  split at hc<;>first|(cases hc;done)|skip
  rename_i x' y' t u e1 e2 e3
  simp only at e1 e2 e3
  obtain rfl:=gh e2
  obtain rfl:=gh e3
  subst e1
  obtain⟨hc,c5⟩:=aC hc
  obtain⟨hc,c4⟩:=aC hc
  obtain⟨hc,c3⟩:=aC hc
  obtain⟨c1,c2⟩:=aC hc
  have c3:=al6 c3
  subst c3
  obtain⟨u,z1,h1,h2,h3⟩:=bg s c1 hk
  obtain⟨v,z2,h4,h5,h6⟩:=bg s c2 h3
  obtain⟨r,M',nx',ρ',w',x,g1,g2,g3,g4,g5⟩:=aak (P:=P) (ty:=ty) hE h (dJ c4) c5 h1 h4 h6
  refine⟨r,M',nx',ρ',w',g1,g2,g3,.inl ⟨x,g4,?_⟩⟩
  rw[dN,show[x',y'].toArray.map a.eval= #[z1,z2] by simp[h2,h5]]
  simp only[builtin]
  exact bw g5
 case apr Ty sz bytes x y=>
  split at hc<;>first|(cases hc;done)|skip
  rename_i c
  obtain⟨callee,args,tas⟩:=c
  split at hc<;>first|(cases hc;done)|skip
  rename_i x' y' t u e1 e2 e3
  simp only at e1 e2 e3
  obtain rfl:=gh e2
  obtain rfl:=gh e3
  subst e1
  obtain⟨hc,c5⟩:=aC hc
  obtain⟨hc,c4⟩:=aC hc
  obtain⟨hc,c3⟩:=aC hc
  obtain⟨c1,c2⟩:=aC hc
  have c3:=al6 c3
  subst c3
  obtain⟨u,z1,h1,h2,h3⟩:=bg s c1 hk
  obtain⟨v,z2,h4,h5,h6⟩:=bg s c2 h3
  obtain⟨r,M',nx',ρ',w',x,g1,g2,g3,g4,g5⟩:=aaj (P:=P) (ty:=ty) h (dJ c4) c5 h1 h4 h6
  refine⟨r,M',nx',ρ',w',g1,g2,g3,.inl ⟨x,g4,?_⟩⟩
  rw[dN,show[x',y'].toArray.map a.eval= #[z1,z2] by simp[h2,h5]]
  simp only[builtin]
  exact bw g5
 case del d et m k=>
  split at hc<;>first|(cases hc;done)|skip
  rename_i c
  obtain⟨callee,args,tas⟩:=c
  split at hc<;>first|(cases hc;done)|skip
  rename_i x' y' t t2 e1 e2 e3
  simp only at e1 e2 e3
  obtain rfl:=gh e2
  obtain rfl:=gh e3
  subst e1
  obtain⟨hc,c5⟩:=aC hc
  obtain⟨hc,c4⟩:=aC hc
  obtain⟨hc,c3⟩:=aC hc
  obtain⟨c1,c2⟩:=aC hc
  obtain⟨u,z1,h1,h2,h3⟩:=bg s c1 hk
  obtain⟨v,z2,h4,h5,h6⟩:=bg s c2 h3
  obtain⟨M',w',g1,g2,g3⟩:=ZL (P:=P) (t2:=t2) (ty:=ty) h (Nat.le_of_ble_eq_true c3) (ig c4) c5 h1 h4 h6
  refine⟨.tup [],M',nx,ρ,w',Ren.Le.refl _,g1,g2,.inl ⟨.tuple #[],by simp[den,ay],?_⟩⟩
  rw[dN,show[x',y'].toArray.map a.eval= #[z1,z2] by simp[h2,h5]]
  simp only[builtin]
  exact bw g3
end
end Go.Sy
