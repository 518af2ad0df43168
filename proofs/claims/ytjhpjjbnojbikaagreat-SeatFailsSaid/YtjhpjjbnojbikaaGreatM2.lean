/- Definitions and lemmas of the proof, without a condition of their own. -/
import Derived.Test.YtjhpjjbnojbikaaGreatM1
import Derived.LoopN
import Derived.Laws.ResultCell
import Derived.RangeFuncBox
import Derived.RangeFuncLeaves
import Derived.RangeFuncFrom
import Derived.RangeFuncNested
import Derived.Shelf.Abstract
import Derived.WalkKit
import Derived.OwnWalkIn
import Derived.TacticsInMore
import Derived.LoopNIn
import Derived.LoopIn
import Derived.Maps.AppendAt
import Derived.Test.YtjhpjjbnojbikaaGreatProg
import Derived.BigRegionIn
import Derived.Stop.RegionWithIn
import Derived.Lib.AppendZeros
import Derived.KernelRfl
open Bool renaming and_eq_true→apP
open Go.Result renaming andThen_ok→apG
open Go.Sem renaming run_bind→apH
open List renaming cons_append→apC,flatten_cons→apB,length_cons→apw,length_map→apx,length_nil→apy,mem_of_getElem?→apA,nil_append→apD
open Nat renaming blt_eq→apV,eq_of_beq_eq_true→apz,le_refl→apM
open Option renaming map_eq_some_iff→apE
open Option.some renaming injEq→apQ
namespace Go.Sy
open Go Go.RowKit Go.Eng
noncomputable def EB (ps:List (Nat×Nat)) (i:Nat):Option Nat:=List.rec none (fun p _ ih=>Bool.rec ih (some p.2) (Nat.beq p.1 i)) ps
theorem lu:∀{ps:List (Nat×Nat)} {i j:Nat},EB ps i=some j→(i,j)∈ps
 |[],i,j,h=>by cases h
 |p::ps,i,j,h=>by
  have h':(Bool.rec (EB ps i) (some p.2) (Nat.beq p.1 i):Option Nat)=some j:=h
  cases hb:Nat.beq p.1 i with
  |true=>
   rw[hb]at h'
   cases h'
   have:=apz hb
   subst this
   simp
  |false=>rw[hb]at h';exact List.mem_cons_of_mem _ (lu h')
def lL (ps:List (Nat×Nat)) (ρ:Ren):Ren:=fun j=>match ps.find? (fun p=>Nat.beq p.2 j) with|some p=>ρ p.1|none=>none
def hX:List (Nat×Nat)→Bool
 |[]=>true
 |p::ps=>(ps.all fun q=> !Nat.beq q.2 p.2)&&(ps.all fun q=> !Nat.beq q.1 p.1)&&hX ps
theorem ef:∀{ps:List (Nat×Nat)} {ρ:Ren} {i j:Nat},hX ps=true→(i,j)∈ps→lL ps ρ j=ρ i
 |[],ρ,i,j,_,h=>by cases h
 |p::ps,ρ,i,j,ho,h=>by
  simp only[hX,apP]at ho
  rcases List.mem_cons.1 h with rfl|h
  ·simp[lL]
  ·have hne:Nat.beq p.2 j=false:=by
    have:=List.all_eq_true.1 ho.1.1 _ h
    simp only[Bool.not_eq_true']at this
    cases hb:Nat.beq p.2 j with
    |false=>rfl
    |true=>
     have:=apz hb
     subst this
     simp at this
   have:=ef (ρ:=ρ) ho.2 h
   simp only[lL,List.find?_cons,hne]at this ⊢
   exact this
theorem BX:∀{ps:List (Nat×Nat)} {i j k:Nat},hX ps=true→(i,j)∈ps→(i,k)∈ps→j=k
 |[],i,j,k,_,h,_=>by cases h
 |p::ps,i,j,k,ho,h,h2=>by
  simp only[hX,apP]at ho
  have hno:∀q∈ps,q.1≠p.1:=fun q hq e=>by
   have:=List.all_eq_true.1 ho.1.2 q hq
   rw[e]at this
   simp at this
  rcases List.mem_cons.1 h with e1|h1
  ·rcases List.mem_cons.1 h2 with e2|h3
   ·rw[←e1]at e2;injection e2 with _ e;exact e.symm
   ·exact absurd (by rw[←e1]) (hno _ h3)
  ·rcases List.mem_cons.1 h2 with e2|h3
   ·exact absurd (by rw[←e2]) (hno _ h1)
   ·exact BX ho.2 h1 h3
noncomputable def KN (ps:List (Nat×Nat)):SY→Option SY
 |.prow i n=>(EB ps i).map fun j=>.prow j n
 |.psub i sz a n o oc=>(EB ps i).map fun j=>.psub j sz a n o oc
 |.pfix i n c=>(EB ps i).map fun j=>.pfix j n c
 |.rptr i sz q o=>(EB ps i).map fun j=>.rptr j sz q o
 |.kmp i=>(EB ps i).map fun j=>.kmp j
 |s=>some s
mutual
noncomputable def fK (ps:List (Nat×Nat)):AV→Option AV
 |.bad=>none
 |.int k z=>some (.int k z)
 |.bool b=>some (.bool b)
 |.str l=>some (.str l)
 |.nilP=>some .nilP
 |.nilS=>some .nilS
 |.nilM=>some .nilM
 |.nilF=>some .nilF
 |.nilI=>some .nilI
 |.ptr i o=>(EB ps i).map fun j=>.ptr j o
 |.sl i o n c=>(EB ps i).map fun j=>.sl j o n c
 |.map i=>(EB ps i).map fun j=>.map j
 |.yl i=>(EB ps i).map fun j=>.yl j
 |.any _=>none
 |.sy s=>(KN ps s).map .sy
 |.iface t v=>(fK ps v).map fun u=>.iface t u
 |.fn f c=>(jZ ps c).map fun u=>.fn f u
 |.agg l=>(jZ ps l).map .agg
 |.tup l=>(jZ ps l).map .tup
noncomputable def jZ (ps:List (Nat×Nat)):List AV→Option (List AV)
 |[]=>some []
 |v::r=>(fK ps v).bind fun u=>(jZ ps r).map fun l=>u::l
end
section
variable {P:Program} {E:Env} {ρ:Ren} {G:GS} {F:List bh} {M:T} {nx:Nat} {w:World} {ps:List (Nat×Nat)} {t2:Nat→Value}
theorem af3 (ho:hX ps=true) {s u:SY} {x:Value} (h:KN ps s=some u) (hd:bo E ρ s=some x):bo ⟨t2,E.M⟩ (lL ps ρ) u=some x:=by
 cases s with
 |prow i n=>
  simp only[KN,apE]at h
  obtain⟨j,h1,rfl⟩:=h
  simp only[bo,ef ho (lu h1)]at hd ⊢
  exact hd
 |psub i sz a n o oc=>
  simp only[KN,apE]at h
  obtain⟨j,h1,rfl⟩:=h
  simp only[bo,ef ho (lu h1)]at hd ⊢
  exact hd
 |pfix i n c=>
  simp only[KN,apE]at h
  obtain⟨j,h1,rfl⟩:=h
  simp only[bo,ef ho (lu h1)]at hd ⊢
  exact hd
 |rptr i sz q o=>
  simp only[KN,apE]at h
  obtain⟨j,h1,rfl⟩:=h
  simp only[bo,ef ho (lu h1)]at hd ⊢
  exact hd
 |kmp i=>
  simp only[KN,apE]at h
  obtain⟨j,h1,rfl⟩:=h
  simp only[bo,ef ho (lu h1)]at hd ⊢
  exact hd
 |int k z=>cases h;exact hd
 |bool p=>cases h;exact hd
 |str l=>cases h;exact hd
 |imm=>cases h;exact hd
 |pim=>cases h;exact hd
mutual
theorem oI (ho:hX ps=true):∀(v u:AV) (x:Value),fK ps v=some u→den E ρ v=some x→den ⟨t2,E.M⟩ (lL ps ρ) u=some x
 |.bad,u,x,h,_=>by simp[fK]at h
 |.any _,u,x,h,_=>by simp[fK]at h
 |.int _ _,u,x,h,hd|.bool _,u,x,h,hd|.str _,u,x,h,hd|.nilP,u,x,h,hd|.nilS,u,x,h,hd|.nilM,u,x,h,hd|.nilF,u,x,h,hd|.nilI,u,x,h,hd=>by
  simp only[fK,apQ]at h
  subst h
  simpa[den] using hd
 |.ptr i o,u,x,h,hd=>by
  simp only[fK,apE]at h
  obtain⟨j,h1,rfl⟩:=h
  simp only[den,ef ho (lu h1)]at hd ⊢
  exact hd
 |.sl i o n c,u,x,h,hd=>by
  simp only[fK,apE]at h
  obtain⟨j,h1,rfl⟩:=h
  simp only[den,ef ho (lu h1)]at hd ⊢
  exact hd
 |.map i,u,x,h,hd=>by
  simp only[fK,apE]at h
  obtain⟨j,h1,rfl⟩:=h
  simp only[den,ef ho (lu h1)]at hd ⊢
  exact hd
 |.yl i,u,x,h,hd=>by
  simp only[fK,apE]at h
  obtain⟨j,h1,rfl⟩:=h
  simp only[den,ef ho (lu h1)]at hd ⊢
  exact hd
 |.sy s,u,x,h,hd=>by
  simp only[fK,apE]at h
  obtain⟨s',h1,rfl⟩:=h
  simp only[den]at hd ⊢
  exact af3 ho h1 hd
 |.iface t v,u,x,h,hd=>by
  simp only[fK,apE]at h
  obtain⟨y,h1,rfl⟩:=h
  simp only[den]at hd ⊢
  rcases e:den E ρ v with _|z
  ·rw[e]at hd;cases hd
  ·rw[e]at hd;rw[oI ho v y z h1 e];exact hd
 |.fn f c,u,x,h,hd=>by
  simp only[fK,apE]at h
  obtain⟨y,h1,rfl⟩:=h
  simp only[den]at hd ⊢
  rcases e:aS E ρ c with _|z
  ·rw[e]at hd;cases hd
  ·rw[e]at hd;rw[rv ho c y z h1 e];exact hd
 |.agg c,u,x,h,hd=>by
  simp only[fK,apE]at h
  obtain⟨y,h1,rfl⟩:=h
  simp only[den]at hd ⊢
  rcases e:aS E ρ c with _|z
  ·rw[e]at hd;cases hd
  ·rw[e]at hd;rw[rv ho c y z h1 e];exact hd
 |.tup c,u,x,h,hd=>by
  simp only[fK,apE]at h
  obtain⟨y,h1,rfl⟩:=h
  simp only[den]at hd ⊢
  rcases e:aS E ρ c with _|z
  ·rw[e]at hd;cases hd
  ·rw[e]at hd;rw[rv ho c y z h1 e];exact hd
theorem rv (ho:hX ps=true):∀(l m:List AV) (xs:List Value),jZ ps l=some m→aS E ρ l=some xs→aS ⟨t2,E.M⟩ (lL ps ρ) m=some xs
 |[],m,xs,h,hd=>by
  simp only[jZ,apQ]at h
  subst h
  simpa[aS] using hd
 |v::r,m,xs,h,hd=>by
  obtain⟨x,ys,h1,h2,rfl⟩:=cE hd
  simp only[jZ,Option.bind_eq_some_iff,apE]at h
  obtain⟨u,g1,l,g2,rfl⟩:=h
  exact lG (oI ho v u x g1 h1) (rv ho r l ys g2 h2)
end
noncomputable def Mt (ps:List (Nat×Nat)):List (List AV)→Option (List (List AV))
 |[]=>some []
 |v::r=>(jZ ps v).bind fun u=>(Mt ps r).map fun l=>u::l
theorem Uy:∀{l m:List AV},jZ ps l=some m→m.length=l.length
 |[],m,h=>by simp only[jZ,apQ]at h;subst h;rfl
 |v::r,m,h=>by
  simp only[jZ,Option.bind_eq_some_iff,apE]at h
  obtain⟨u,g1,l,g2,rfl⟩:=h
  simp[Uy g2]
theorem Uz:∀{l m a b:List AV},jZ ps l=some a→jZ ps m=some b→jZ ps (l++m)=some (a++b)
 |[],m,a,b,h,h2=>by simp only[jZ,apQ]at h;subst h;simpa using h2
 |v::r,m,a,b,h,h2=>by
  simp only[jZ,Option.bind_eq_some_iff,apE]at h
  obtain⟨u,g1,l,g2,rfl⟩:=h
  simp[jZ,g1,Uz g2 h2]
theorem Ms:∀{l m:List (List AV)},Mt ps l=some m→jZ ps l.flatten=some m.flatten∧m.length=l.length∧∀n,(∀x∈l,x.length=n)→∀x∈m,x.length=n
 |[],m,h=>by simp only[Mt,apQ]at h;subst h;exact⟨rfl,rfl,fun n _ x hx=>by simp at hx⟩
 |v::r,m,h=>by
  simp only[Mt,Option.bind_eq_some_iff,apE]at h
  obtain⟨u,g1,l,g2,rfl⟩:=h
  obtain⟨h1,h2,h3⟩:=Ms g2
  refine⟨Uz g1 h1,by simp[h2],fun n hn x hx=> ?_⟩
  rcases List.mem_cons.1 hx with rfl|hx
  ·rw[Uy g1];exact hn v (by simp)
  ·exact h3 n (fun y hy=>hn y (by simp[hy])) x hx
noncomputable def Mu (ps:List (Nat×Nat)):List (AV×AV×Nat)→Option (List (AV×AV×Nat))
 |[]=>some []
 |e::r=>(fK ps e.1).bind fun k=>(fK ps e.2.1).bind fun v=>(Mu ps r).map fun l=>(k,v,e.2.2)::l
theorem Qe (ho:hX ps=true):∀{l m:List (AV×AV×Nat)} {ms:List MapEntry},Mu ps l=some m→bU E ρ l=some ms→bU ⟨t2,E.M⟩ (lL ps ρ) m=some ms
 |[],m,ms,h,hd=>by
  simp only[Mu,apQ]at h
  subst h
  simpa[bU] using hd
 |(k,v,b)::r,m,ms,h,hd=>by
  obtain⟨x,y,ms',h1,h2,h3,rfl⟩:=dO hd
  simp only[Mu,Option.bind_eq_some_iff,apE]at h
  obtain⟨k',g1,v',g2,l,g3,rfl⟩:=h
  simp only[bU,oI ho k k' x g1 h1,oI ho v v' y g2 h2,Qe ho g3 h3]
noncomputable def gC (ps:List (Nat×Nat)):AObj→Option AObj
 |.blk g Ty sz els=>(Mt ps els).map fun e=>.blk g Ty sz e
 |.map es cl=>(Mu ps es).map fun e=>.map e cl
 |.prow Ty sz α l enc=>some (.prow Ty sz α l enc)
 |.kmap sure ak av α l k v=>some (.kmap sure ak av α l k v)
 |.defs=>some .defs
 |.iter ..=>none
theorem KO (ho:hX ps=true) {e:eT} {o o':AObj} {ob:Obj} (h:gC ps o=some o') (hr:ORel E ρ e o ob):ORel ⟨t2,E.M⟩ (lL ps ρ) e o' ob:=by
 cases o with
 |blk g Ty sz els=>
  simp only[gC,apE]at h
  obtain⟨els',h1,rfl⟩:=h
  obtain⟨f1,f2,f3⟩:=Ms h1
  obtain⟨q0,q1,arr,xs,q2,q3,q4⟩:=hr
  refine⟨f3 sz q0,q1,arr,xs,q2,rv ho _ _ _ f1 q3,?_⟩
  rw[f2];exact q4
 |map es cl=>
  simp only[gC,apE]at h
  obtain⟨es',h1,rfl⟩:=h
  obtain⟨ms,q1,q2⟩:=hr
  exact⟨ms,Qe ho h1 q1,q2⟩
 |iter=>simp[gC]at h
 |defs=>
  simp only[gC,apQ]at h
  subst h;exact hr
 |prow Ty sz α l enc=>
  simp only[gC,apQ]at h
  subst h;exact hr
 |kmap sure ak av α l k v=>
  simp only[gC,apQ]at h
  subst h
  obtain⟨es,cl,ms,h1,h2,h3⟩:=hr
  exact⟨es,cl,ms,h1,Wp (E:=E) (E':=⟨t2,E.M⟩) rfl h1 h2,h3⟩
theorem gI {e:eT} {o o':AObj} (h:gC ps o=some o'):cU e o'=cU e o∧(LX o→LX o'):=by
 cases o with
 |blk g Ty sz els=>
  simp only[gC,apE]at h
  obtain⟨els',h1,rfl⟩:=h
  exact⟨rfl,fun q=>q⟩
 |map es cl=>
  simp only[gC,apE]at h
  obtain⟨es',h1,rfl⟩:=h
  exact⟨rfl,fun q=>q⟩
 |iter=>simp[gC]at h
 |defs=>
  simp only[gC,apQ]at h
  subst h;exact⟨rfl,fun q=>q⟩
 |prow Ty sz α l enc=>
  simp only[gC,apQ]at h
  subst h;exact⟨rfl,fun q=>q⟩
 |kmap sure ak av α l k v=>
  simp only[gC,apQ]at h
  subst h;exact⟨rfl,fun q=>q⟩
noncomputable def Ar (ps:List (Nat×Nat)) (M:T) (l:List (Nat×Nat)):T→(T→Bool)→Bool:=List.rec (fun acc K=>K acc) (fun p _ ih acc K=>eu (M.get p.1) fun o=>eu (gC ps o) fun o'=>T.set bM acc p.2 (some o') fun acc=>ih acc K) l
theorem Gu:∀{l:List (Nat×Nat)} {acc:T} {K:T→Bool},(∀j o,acc.get j=some o→∃i o0,(i,j)∈ps∧M.get i=some o0∧gC ps o0=some o)→(∀p∈l,p∈ps)→Ar ps M l acc K=true→
  ∃M',K M'=true∧∀j o,M'.get j=some o→∃i o0,(i,j)∈ps∧M.get i=some o0∧gC ps o0=some o
 |[],acc,K,ha,_,h=>⟨acc,h,ha⟩
 |p::l,acc,K,ha,hl,h=>by
  have h':(eu (M.get p.1) fun o=>eu (gC ps o) fun o'=>T.set bM acc p.2 (some o') fun acc=>Ar ps M l acc K)=true:=h
  obtain⟨o,h1,h2⟩:=ci h'
  obtain⟨o',h3,h4⟩:=ci h2
  obtain⟨acc',h5,s1,s2⟩:=T.set_ok _ _ _ _ _ h4
  refine Gu (fun j ob hj=> ?_) (fun q hq=>hl q (by simp[hq])) h5
  by_cases e:j=p.2
  ·subst e
   rw[s1]at hj
   cases hj
   exact⟨p.1,o,hl p (by simp),h1,h3⟩
  ·rw[s2 j e]at hj
   exact ha j ob hj
noncomputable def ano (live:List Nat) (ps:List (Nat×Nat)) (nx':Nat) (S:SL) (M:T) (K:SL→T→Nat→Bool):Bool:=
 aa (hX ps&&ps.all fun p=>Nat.blt p.2 nx') (Ar ps M ps .leaf fun M'=>List.rec (motive:=fun _=>SL→Bool) (fun acc=>K acc M' nx') (fun t _ ih acc=>Option.casesOn (fK ps (bz t S)) (ih acc) fun v=>ih (.cons t v acc)) live .nil)
theorem Sim.ren (h:Sim E ρ G F M nx w) (ho:hX ps=true) {nx':Nat} (hn:∀p∈ps,p.2<nx') {M':T} (hM:∀j o,M'.get j=some o→∃i o0,(i,j)∈ps∧M.get i=some o0∧gC ps o0=some o):Sim E (lL ps ρ) G F M' nx' w:=by
 obtain⟨c,hh,hob,hinj⟩:=h.ex
 refine⟨⟨c,hh,fun j o hj=> ?_,fun j k e f o o' hj hk he hf hb1 hb2 hb=> ?_⟩,h.mem,fun j hj=> ?_⟩
 ·obtain⟨i,o0,h1,h2,h3⟩:=hM j o hj
  obtain⟨e,a1,q⟩:=hob i o0 h2
  have hB:=gI (e:=e) h3
  refine⟨e,by rw[ef ho h1];exact a1,?_⟩
  rcases q with⟨q1,ob,q2,q3⟩|⟨q1,q2⟩
  ·exact .inl ⟨by rw[hB.1];exact q1,ob,q2,KO ho h3 q3⟩
  ·exact .inr ⟨by rw[hB.1];exact q1,hB.2 q2⟩
 ·obtain⟨i,o0,h1,h2,h3⟩:=hM j o hj
  obtain⟨i',o1,g1,g2,g3⟩:=hM k o' hk
  rw[ef ho h1]at he
  rw[ef ho g1]at hf
  rw[(gI (e:=e) h3).1]at hb1
  rw[(gI (e:=f) g3).1]at hb2
  have:=hinj i i' e f o0 o1 h2 g2 he hf hb1 hb2 hb
  subst this
  exact BX ho h1 g1
 ·unfold lL
  split
  ·rename_i p hp
   have h1:=List.mem_of_find?_eq_some hp
   have h2:=List.find?_some hp
   have:=apz h2
   have:=hn p h1
   omega
  ·rfl
theorem ajs {N:Nat} {S:SL} {a:Act} (s:SR E ρ N S a) (h:Sim E ρ G F M nx w) {live:List Nat} {nx':Nat} {K:SL→T→Nat→Bool} (hk:ano live ps nx' S M K=true):
  ∃S' M' ρ',SR E ρ' N S' a∧Sim E ρ' G F M' nx' w∧K S' M' nx'=true∧∀i j,(i,j)∈ps→ρ' j=ρ i:=by
 obtain⟨h1,h2⟩:=aj hk
 simp only[apP]at h1
 obtain⟨M',h3,h4⟩:=Gu (ps:=ps) (fun j o hj=>by simp[T.get_leaf]at hj) (fun p hp=>hp) h2
 have hn:∀p∈ps,p.2<nx':=fun p hp=>by
  have:=List.all_eq_true.1 h1.2 p hp
  simpa[apV] using this
 have key:∀(live:List Nat) (acc:SL),SR E (lL ps ρ) N acc a→(List.rec (motive:=fun _=>SL→Bool) (fun acc=>K acc M' nx') (fun t _ ih acc=>Option.casesOn (fK ps (bz t S)) (ih acc) fun v=>ih (.cons t v acc)) live acc)=true→∃S',SR E (lL ps ρ) N S' a∧K S' M' nx'=true:=by
  intro live
  induction live with
  |nil=>exact fun acc sa hk=>⟨acc,sa,hk⟩
  |cons t live ih=>
   intro acc sa hk
   have hk':Option.casesOn (motive:=fun _=>Bool) (fK ps (bz t S)) (List.rec (motive:=fun _=>SL→Bool) (fun acc=>K acc M' nx') (fun t _ ih acc=>Option.casesOn (fK ps (bz t S)) (ih acc) fun v=>ih (.cons t v acc)) live acc)
    (fun v=>List.rec (motive:=fun _=>SL→Bool) (fun acc=>K acc M' nx') (fun t _ ih acc=>Option.casesOn (fK ps (bz t S)) (ih acc) fun v=>ih (.cons t v acc)) live (.cons t v acc))=true:=hk
   rcases e:fK ps (bz t S) with _|v
   ·rw[e]at hk'
    exact ih acc sa hk'
   ·rw[e]at hk'
    refine ih (.cons t v acc) ⟨sa.size,sa.defs,fun u=> ?_⟩ hk'
    by_cases q:t=u
    ·subst q
     rw[gL]
     rcases s.at_ t with q|⟨x,q1,q2⟩
     ·rw[q]at e;simp[fK]at e
     ·exact .inr ⟨x,oI h1.1 _ _ _ e q1,q2⟩
    ·rw[lv _ _ q]
     exact sa.at_ u
 obtain⟨S',k1,k2⟩:=key live .nil ⟨s.size,s.defs,fun _=>.inl rfl⟩ h3
 exact⟨S',M',_,k1,h.ren h1.1 hn h4,k2,fun i j q=>ef h1.1 q⟩
noncomputable def apa:SY→List Nat
 |.prow i _=>[i]
 |.psub i _ _ _ _ _=>[i]
 |.pfix i _ _=>[i]
 |.rptr i _ _ _=>[i]
 |.kmp i=>[i]
 |_=>[]
mutual
noncomputable def CC:AV→List Nat
 |.ptr i _=>[i]
 |.sl i _ _ _=>[i]
 |.map i=>[i]
 |.yl i=>[i]
 |.sy s=>apa s
 |.iface _ v=>CC v
 |.fn _ c=>Lq c
 |.agg l=>Lq l
 |.tup l=>Lq l
 |_=>[]
noncomputable def Lq:List AV→List Nat
 |[]=>[]
 |v::r=>CC v++Lq r
end
noncomputable def apb:AObj→List Nat
 |.blk _ _ _ els=>Lq els.flatten
 |.map es _=>es.flatMap fun e=>CC e.1++CC e.2.1
 |_=>[]
noncomputable def uj (M:T):Nat→List Nat→List Nat→List Nat
 |0,_,seen=>seen
 |_+1,[],seen=>seen
 |n+1,i::todo,seen=>match seen.any (Nat.beq i),M.get i with
  |false,some o=>uj M n (todo++apb o) (seen++[i])
  |_,_=>uj M n todo seen
def Oq:Nat→List Nat→List (Nat×Nat)
 |_,[]=>[]
 |k,i::r=>(i,k)::Oq (k+1) r
def NV:Nat→List Nat→List Nat
 |0,l=>l
 |k+1,l=>NV k (k::l)
def My (ps:List (Nat×Nat)):Nat→Bool
 |0=>true
 |k+1=>List.any ps (fun p=>Nat.beq p.1 k&&Nat.beq p.2 k)&&My ps k
theorem KQ {ps:List (Nat×Nat)}:∀{k:Nat},My ps k=true→∀i,i<k→(i,i)∈ps
 |0,_,i,hi=>by omega
 |k+1,h,i,hi=>by
  simp only[My,apP]at h
  rcases Nat.lt_succ_iff_lt_or_eq.1 hi with h1|rfl
  ·exact KQ h.2 i h1
  ·obtain⟨p,q1,q2⟩:=List.any_eq_true.1 h.1
   simp only[apP]at q2
   have e1:=apz q2.1
   have e2:=apz q2.2
   have:p=(i,i):=by cases p;simp_all
   rw[←this];exact q1
noncomputable def agO (k:Nat) (live:List Nat) (S:SL) (M:T):List (Nat×Nat):=Oq 0 (uj M 200 (NV k (live.flatMap fun t=>CC (bz t S))) [])
noncomputable def aoz (k:Nat) (live:List Nat) (S:SL) (M:T) (K:SL→T→Nat→Bool):Bool:=aa (My (agO k live S M) k) (ano live (agO k live S M) (agO k live S M).length S M K)
theorem akp {N k:Nat} {S:SL} {a:Act} (s:SR E ρ N S a) (h:Sim E ρ G F M nx w) {live:List Nat} {K:SL→T→Nat→Bool} (hk:aoz k live S M K=true):
  ∃S' M' nx' ρ',SR E ρ' N S' a∧Sim E ρ' G F M' nx' w∧K S' M' nx'=true∧∀i e,i<k→ρ i=some e→ρ' i=some e:=by
 obtain⟨h1,h2⟩:=aj hk
 obtain⟨S',M',ρ',g1,g2,g3,g4⟩:=ajs s h h2
 exact⟨S',M',_,ρ',g1,g2,g3,fun i e q1 q2=>by rw[g4 i i (KQ h1 i q1)];exact q2⟩
end
section
variable {P:Program} {E:Env} {ρ:Ren} {G:GS} {F:List bh} {M:T} {nx:Nat} {w:World}
noncomputable def acg (v:AV) (Ty sz:Nat) (α:Type) (enc:α→List PL) (M:T) (nx:Nat) (K:AV→T→Nat→Bool):Bool:=bn (fy v) (kI v fun s=>SY.casesOn s (fun _ _=>false) (fun _=>false) (fun _=>false) (fun _ _ _ _ _=>false) (fun _ _ _=>false) (fun i n=>fL M i fun Ty' sz' _ l _=>aa (Nat.beq Ty Ty') (aa (Nat.beq sz sz') (aa (aN (l=[])) (T.set bM M i (some (.prow Ty sz α [] enc)) fun M'=>K (.sy (.prow i n)) M' nx)))) (fun i sz0 a n o c=>fL M i fun Ty' sz' _ l _=>aa (Nat.beq Ty Ty') (aa (Nat.beq sz sz') (aa (aN (l=[])) (T.set bM M i (some (.prow Ty sz α [] enc)) fun M'=>K (.sy (.psub i sz0 a n o c)) M' nx)))) (fun _ _ _ _=>false) (fun _ _ _=>false) (fun _=>false)) (ue v
 (aa (Nat.blt 0 sz) (T.set bM M nx (some (.prow Ty sz α [] enc)) fun M'=>fN (Nat.succ nx) fun q=>K (.sy (.prow nx 0)) M' q))
 (fun i o n c=>aa (Nat.beq o 0) (eH M i fun g Ty' sz' els=>aa (Nat.beq Ty Ty') (aa (Nat.beq sz sz') (ACap.casesOn c
  (fun c=>aa (Bool.rec true false g) (aa (Nat.beq n 0) (aa (Nat.beq (db els) c) (aa (Nat.ble c 9223372036854775807)
   (T.set bM M i none fun M1=>T.set bM M1 nx (some (.prow Ty sz α [] enc)) fun M'=>fN (Nat.succ nx) fun q=>K (.sy (.prow nx 0)) M' q)))))
  (fun k=>aa (Nat.beq k 0) (aa g (aa (Nat.beq (db els) n) (TS els fun pss=>aM fun l:List α=>aa (aN (l.map enc=pss))
   (T.set bM M i none fun M1=>T.set bM M1 nx (some (.prow Ty sz α l enc)) fun M'=>fN (Nat.succ nx) fun q=>K (.sy (.prow nx l.length)) M' q))))))))))
theorem Sim.nilRow (h:Sim E ρ G F M nx w) {M':T} {Ty sz:Nat} {α:Type} {enc:α→List PL} (hsz:0<sz) (h1:M'.get nx=some (.prow Ty sz α [] enc)) (h2:∀m,m≠nx→M'.get m=M.get m):Sim E (ρ.set nx ⟨0,0⟩) G F M' (nx+1) w:=by
 have h0:=h.fresh nx (apM _)
 have hle:=Ren.le_set (ρ:=ρ) ⟨0,0⟩ h0
 obtain⟨c,hh,hob,hinj⟩:=h.ex
 refine⟨⟨c,hh,fun j o hj=> ?_,fun j k e f o o' hj hk he hf hb1 hb2 hb=> ?_⟩,h.mem,fun j hj=> ?_⟩
 ·by_cases q:j=nx
  ·subst q
   rw[h1]at hj;cases hj
   exact⟨_,Ren.set_self _ _ _,.inr ⟨rfl,rfl,hsz⟩⟩
  ·rw[h2 j q]at hj
   obtain⟨e,a1,⟨q1,ob,q2,q3⟩|q1⟩:=hob j o hj
   ·exact⟨e,hle _ _ a1,.inl ⟨q1,ob,q2,q3.mono hle⟩⟩
   ·exact⟨e,hle _ _ a1,.inr q1⟩
 ·have nb:∀m e o,M'.get m=some o→ρ.set nx ⟨0,0⟩ m=some e→cU e o=true→m≠nx:=fun m e o q1 q2 q3 q4=>by
   subst q4
   rw[h1]at q1;cases q1
   rw[Ren.set_self]at q2;cases q2
   cases q3
  have nj:=nb j e o hj he hb1
  have nk:=nb k f o' hk hf hb2
  rw[h2 j nj]at hj
  rw[h2 k nk]at hk
  rw[Ren.set_ne _ nj]at he
  rw[Ren.set_ne _ nk]at hf
  exact hinj j k e f o o' hj hk he hf hb1 hb2 hb
 ·rw[Ren.set_ne _ (by omega)]
  exact h.fresh j (by omega)
theorem Sim.rekey (h:Sim E ρ G F M nx w) {i:Nat} {o o':AObj} {e e':eT} {M':T} (hi:M.get i=some o) (he:ρ i=some e) (hb:e'.b=e.b) (hB:cU e o=true) (hB':cU e' o'=true) (hr:∀ob,ORel E ρ e o ob→ORel E ρ e' o' ob)
  (h1:M'.get nx=some o') (h2:∀m,m≠nx→m≠i→M'.get m=M.get m) (h3:M'.get i=none):Sim E (ρ.set nx e') G F M' (nx+1) w:=by
 have h0:=h.fresh nx (apM _)
 have hle:=Ren.le_set (ρ:=ρ) e' h0
 have hinx:i≠nx:=fun q=>by rw[q,h0]at he;cases he
 obtain⟨c,hh,hob,hinj⟩:=h.ex
 refine⟨⟨c,hh,fun j o2 hj=> ?_,fun j k f1 f2 o1 o2 hj hk hf1 hf2 hb1 hb2 hbb=> ?_⟩,h.mem,fun j hj=> ?_⟩
 ·by_cases q:j=nx
  ·subst q
   rw[h1]at hj;cases hj
   obtain⟨f,a1,⟨q1,ob,q2,q3⟩|⟨q1,_⟩⟩:=hob i o hi
   ·rw[he]at a1;cases a1
    exact⟨e',Ren.set_self _ _ _,.inl ⟨hB',ob,by rw[hb];exact q2,(hr ob q3).mono hle⟩⟩
   ·rw[he]at a1;cases a1
    rw[hB]at q1;cases q1
  ·have qi:j≠i:=fun q=>by subst q;rw[h3]at hj;cases hj
   rw[h2 j q qi]at hj
   obtain⟨f,a1,⟨q1,ob,q2,q3⟩|q1⟩:=hob j o2 hj
   ·exact⟨f,hle _ _ a1,.inl ⟨q1,ob,q2,q3.mono hle⟩⟩
   ·exact⟨f,hle _ _ a1,.inr q1⟩
 ·have old:∀m,m≠nx→∀o3,M'.get m=some o3→m≠i∧M.get m=some o3:=fun m q o3 q2=>by
   have qi:m≠i:=fun q=>by subst q;rw[h3]at q2;cases q2
   exact⟨qi,by rw[←h2 m q qi];exact q2⟩
  by_cases q1:j=nx
  ·by_cases q2:k=nx
   ·omega
   ·exfalso
    subst q1
    rw[Ren.set_self]at hf1;cases hf1
    rw[Ren.set_ne _ q2]at hf2
    obtain⟨p1,p2⟩:=old k q2 o2 hk
    exact p1 (hinj k i f2 e o2 o p2 hi hf2 he hb2 hB (by rw[←hb,hbb]))
  ·by_cases q2:k=nx
   ·exfalso
    subst q2
    rw[Ren.set_self]at hf2;cases hf2
    rw[Ren.set_ne _ q1]at hf1
    obtain⟨p1,p2⟩:=old j q1 o1 hj
    exact p1 (hinj j i f1 e o1 o p2 hi hf1 he hb1 hB (by rw[hbb,hb]))
   ·rw[Ren.set_ne _ q1]at hf1
    rw[Ren.set_ne _ q2]at hf2
    exact hinj j k f1 f2 o1 o2 (old j q1 o1 hj).2 (old k q2 o2 hk).2 hf1 hf2 hb1 hb2 hbb
 ·rw[Ren.set_ne _ (by omega)]
  exact h.fresh j (by omega)
theorem Sim.reobj (h:Sim E ρ G F M nx w) {i:Nat} {o o':AObj} (hi:M.get i=some o) (hB:∀e,cU e o'=cU e o) (hr:∀e ob,ρ i=some e→ORel E ρ e o ob→ORel E ρ e o' ob) (hn:LX o→LX o') {M':T} (h1:M'.get i=some o') (h2:∀m,m≠i→M'.get m=M.get m):Sim E ρ G F M' nx w:=by
 obtain⟨c,hh,hob,hinj⟩:=h.ex
 have old:∀m o2,M'.get m=some o2→∃o3,M.get m=some o3∧∀e,cU e o2=cU e o3:=fun m o2 hm=>by
  by_cases q1:m=i
  ·subst q1
   rw[h1]at hm;cases hm
   exact⟨_,hi,hB⟩
  ·rw[h2 m q1]at hm
   exact⟨o2,hm,fun e=>rfl⟩
 refine⟨⟨c,hh,fun m o2 hm=> ?_,fun m k e f o2 o3 hm hk he hf hb1 hb2 hb=> ?_⟩,h.mem,h.fresh⟩
 ·by_cases q1:m=i
  ·subst q1
   rw[h1]at hm;cases hm
   obtain⟨e,a1,⟨b1,ob,b2,b3⟩|⟨b1,b2⟩⟩:=hob m _ hi
   ·exact⟨e,a1,.inl ⟨by rw[hB];exact b1,ob,b2,hr e ob a1 b3⟩⟩
   ·exact⟨e,a1,.inr ⟨by rw[hB];exact b1,hn b2⟩⟩
  ·rw[h2 m q1]at hm
   exact hob m o2 hm
 ·obtain⟨o4,f1,f2⟩:=old m o2 hm
  obtain⟨o5,f3,f4⟩:=old k o3 hk
  rw[f2]at hb1
  rw[f4]at hb2
  exact hinj m k e f o4 o5 f1 f3 he hf hb1 hb2 hb
theorem Wv (h:Sim E ρ G F M nx w) {v:AV} {Ty sz:Nat} {α:Type} {enc:α→List PL} {K:AV→T→Nat→Bool} (hk:acg v Ty sz α enc M nx K=true):
  ∃v' M' nx' ρ',ρ.Le ρ'∧Sim E ρ' G F M' nx' w∧K v' M' nx'=true∧(∀x,den E ρ v=some x→den E ρ' v'=some x)∧v≠ .bad:=by
 have h0:=h.fresh nx (apM _)
 rcases bi hk with⟨-,g⟩|⟨-,hk⟩
 ·replace g:=eI g
  clear hk
  obtain⟨s,rfl,g⟩:=g
  cases s<;>first|(cases g;done)|skip
  case prow i n=>
   obtain⟨Ty',sz',α',l,enc',hi,g1⟩:=dK g
   obtain⟨q1,g2⟩:=aj g1
   obtain⟨q2,g3⟩:=aj g2
   have q1:=apz q1
   have q2:=apz q2
   subst q1;subst q2
   obtain⟨hl,g4⟩:=ai g3
   subst hl
   obtain⟨M',g5,s1,s2⟩:=T.set_ok _ _ _ _ _ g4
   refine⟨_,M',nx,ρ,Ren.Le.refl _,h.reobj (o':=.prow Ty sz α [] enc) hi (fun e=>rfl) (fun e ob _ hr=> ?_) (fun q=>⟨rfl,q.2⟩) s1 s2,g5,fun x hx=>hx,by simp⟩
   obtain⟨arr,xs,o1,o2,o3,o4,o5,o6,o7⟩:=hr
   exact⟨arr,xs,o1,o2,fun y hy=>(by simp at hy),by simpa using o4,o5,o6,o7⟩
  case psub i sz0 a n o c=>
   obtain⟨Ty',sz',α',l,enc',hi,g1⟩:=dK g
   obtain⟨q1,g2⟩:=aj g1
   obtain⟨q2,g3⟩:=aj g2
   have q1:=apz q1
   have q2:=apz q2
   subst q1;subst q2
   obtain⟨hl,g4⟩:=ai g3
   subst hl
   obtain⟨M',g5,s1,s2⟩:=T.set_ok _ _ _ _ _ g4
   refine⟨_,M',nx,ρ,Ren.Le.refl _,h.reobj (o':=.prow Ty sz α [] enc) hi (fun e=>rfl) (fun e ob _ hr=> ?_) (fun q=>⟨rfl,q.2⟩) s1 s2,g5,fun x hx=>hx,by simp⟩
   obtain⟨arr,xs,o1,o2,o3,o4,o5,o6,o7⟩:=hr
   exact⟨arr,xs,o1,o2,fun y hy=>(by simp at hy),by simpa using o4,o5,o6,o7⟩
 rcases jE hk with⟨e,g⟩|⟨i,o,n,c,e,g⟩
 ·obtain⟨g1,g2⟩:=aj g
  rw[apV]at g1
  obtain⟨M',k1,s1,s2⟩:=T.set_ok _ _ _ _ _ g2
  rw[bY]at k1
  have hle:=Ren.le_set (ρ:=ρ) ⟨0,0⟩ h0
  refine⟨_,M',nx+1,_,hle,h.nilRow g1 s1 s2,k1,(fun x hx=> ?_),(by rw[e];simp)⟩
  rw[e]at hx
  cases hx
  simp[den,bo,Ren.set_self,ub]
 ·obtain⟨q2,g2⟩:=aj g
  have q2:=apz q2
  subst q2
  obtain⟨gr,Ty',sz',els,hi,g3⟩:=cM g2
  obtain⟨q4,g5⟩:=aj g3
  obtain⟨q5,g6⟩:=aj g5
  have q4:=apz q4
  have q5:=apz q5
  subst q4;subst q5
  obtain⟨f,arr,xs,e1,e2,e3,e4,e5,e6,e7,e8,e9⟩:=h.cellsAt hi
  have hinx:i≠nx:=fun q=>by rw[q,h0]at e1;cases e1
  cases c with
  |ex c=>
   obtain⟨q1,g7⟩:=aj g6
   obtain⟨q3,g8⟩:=aj g7
   obtain⟨q6,g9⟩:=aj g8
   obtain⟨q7,g10⟩:=aj g9
   have q1:gr=false:=by cases gr;rfl;cases q1
   subst q1
   have q3:=apz q3
   subst q3
   have q6:els.length=c:=by rw[←cw];exact apz q6
   rw[Nat.ble_eq]at q7
   obtain⟨M1,k1,s1,s2⟩:=T.set_ok _ _ _ _ _ g10
   obtain⟨M',k2,s3,s4⟩:=T.set_ok _ _ _ _ _ k1
   rw[bY]at k2
   have hle:=Ren.le_set (ρ:=ρ) ⟨f.b,c+1⟩ h0
   refine⟨_,M',nx+1,_,hle,h.rekey (o':=.prow Ty sz α [] enc) (e':=⟨f.b,c+1⟩) hi e1 rfl rfl (dN rfl) (fun ob hr=> ?_) s3 (fun m a1 a2=>by rw[s4 m a1,s2 m a2]) (by rw[s4 i hinx,s1]),k2,(fun x hx=> ?_),(by rw[e];simp)⟩
   ·obtain⟨_,_,arr',xs',o1,o2,o3⟩:=hr
    simp only[cond_false]at o3
    have hl:=cL o2
    rw[fe e4,←o3,Array.length_toList]at hl
    refine⟨arr',[],o1,e5,fun y hy=>(by simp at hy),by simp[tp],?_,by simp,by simp,by simpa[maxLen] using q7⟩
    simp only[Nat.add_sub_cancel]
    rw[hl,q6]
   ·rw[e]at hx
    simp only[den,e1,df]at hx
    cases hx
    simp[den,bo,Ren.set_self,ub]
  |rest k=>
   obtain⟨q1,g7⟩:=aj g6
   have q1:=apz q1
   subst q1
   obtain⟨q3,g8⟩:=aj g7
   subst q3
   obtain⟨q6,g9⟩:=aj g8
   have q6:els.length=n:=by rw[←cw];exact apz q6
   obtain⟨p1,p2,p3⟩:=e9 rfl
   obtain⟨pss,g10,r1,r2,r3,r4⟩:=KH e3 e4 g9
   obtain⟨l,g11⟩:=cd g10
   obtain⟨hl,g12⟩:=ai g11
   obtain⟨M1,k1,s1,s2⟩:=T.set_ok _ _ _ _ _ g12
   obtain⟨M',k2,s3,s4⟩:=T.set_ok _ _ _ _ _ k1
   rw[bY]at k2
   have hle:=Ren.le_set (ρ:=ρ) ⟨f.b,f.cap+1⟩ h0
   have hlen:l.length=els.length:=by rw[←r4,←hl,apx]
   refine⟨_,M',nx+1,_,hle,h.rekey (o':=.prow Ty sz α l enc) (e':=⟨f.b,f.cap+1⟩) hi e1 rfl rfl (dN rfl) (fun ob hr=> ?_) s3 (fun m a1 a2=>by rw[s4 m a1,s2 m a2]) (by rw[s4 i hinx,s1]),k2,(fun x hx=> ?_),(by rw[e];simp)⟩
   ·obtain⟨_,_,arr',xs',o1,o2,o3⟩:=hr
    rw[e3]at o2
    cases o2
    simp only[cond_true]at o3
    obtain⟨u1,u2,u3,u4⟩:=o3
    have hx:xs=(l.flatMap enc).map bw:=by rw[r1,←hl,List.flatMap_def]
    refine⟨arr',xs,o1,e5,fun y hy=>r3 _ (by rw[←hl];exact List.mem_map.2 ⟨y,hy,rfl⟩),by rw[hx];exact oV (fun p hp=>r2 p (by rw[←hl,←List.flatMap_def];exact hp)),by simpa using u1,by rw[hlen];exact u2,by rw[hlen];simpa using u3,by simpa using u4⟩
   ·rw[e]at hx
    simp only[den,e1,df]at hx
    cases hx
    simp[den,bo,Ren.set_self,ub,hlen,q6]
noncomputable def aib (t Ty sz:Nat) (α:Type) (enc:α→List PL) (S:SL) (M:T) (nx:Nat) (K:SL→T→Nat→Bool):Bool:=acg (bz t S) Ty sz α enc M nx fun v M nx=>K (.cons t v S) M nx
theorem agR {N:Nat} {S:SL} {a:Act} (s:SR E ρ N S a) (h:Sim E ρ G F M nx w) {t Ty sz:Nat} {α:Type} {enc:α→List PL} {K:SL→T→Nat→Bool} (hk:aib t Ty sz α enc S M nx K=true):
  ∃S' M' nx' ρ',ρ.Le ρ'∧SR E ρ' N S' a∧Sim E ρ' G F M' nx' w∧K S' M' nx'=true:=by
 obtain⟨v',M',nx',ρ',hl,h1,h2,h3,h4⟩:=Wv h hk
 refine⟨_,M',nx',ρ',hl,⟨s.size,s.defs,fun u=> ?_⟩,h1,h2⟩
 by_cases q:t=u
 ·subst q
  rw[gL]
  obtain⟨x,q1,q2⟩:=(s.at_ t).resolve_left h4
  exact .inr ⟨x,h3 x q1,q2⟩
 ·rw[lv _ _ q]
  exact(s.mono hl).at_ u
theorem Sim.swap (h:Sim E ρ G F M nx w) {i q r:Nat} {g:Bool} {Ty sz:Nat} {els:List (List AV)} {el:List AV} {v v':AV} (hi:M.get i=some (.blk g Ty sz els)) (hq:els[q]?=some el) (hr:el[r]?=some v)
  (hv:∀x,den E ρ v=some x→den E ρ v'=some x) {M':T} (h1:M'.get i=some (.blk g Ty sz (els.take q++[el.take r++[v']++el.drop (r+1)]++els.drop (q+1)))) (h2:∀m,m≠i→M'.get m=M.get m):Sim E ρ G F M' nx w:=by
 obtain⟨c,hh,hob,hinj⟩:=h.ex
 have hle1:=(List.getElem?_eq_some_iff.1 hq).1
 have hle2:=(List.getElem?_eq_some_iff.1 hr).1
 have old:∀m o,M'.get m=some o→∃o2,M.get m=some o2∧∀e,cU e o=cU e o2:=fun m o hm=>by
  by_cases q1:m=i
  ·subst q1
   rw[h1]at hm;cases hm
   exact⟨_,hi,fun e=>rfl⟩
  ·rw[h2 m q1]at hm
   exact⟨o,hm,fun e=>rfl⟩
 refine⟨⟨c,hh,fun m o hm=> ?_,fun m k e f o o' hm hk he hf hb1 hb2 hb=> ?_⟩,h.mem,h.fresh⟩
 ·by_cases q1:m=i
  ·subst q1
   rw[h1]at hm;cases hm
   obtain⟨e,a1,⟨b1,ob,b2,b3⟩|⟨b1,b2⟩⟩:=hob m _ hi
   ·refine⟨e,a1,.inl ⟨rfl,ob,b2,?_⟩⟩
    obtain⟨c1,c2,arr,xs,c3,c4,c5⟩:=b3
    have hel:∀l∈els.take q++[el.take r++[v']++el.drop (r+1)]++els.drop (q+1),l.length=sz:=by
     intro l hl
     simp only[List.mem_append,List.mem_singleton]at hl
     have:=c1 el (apA hq)
     rcases hl with(hl|rfl)|hl
     ·exact c1 l (List.mem_of_mem_take hl)
     ·simp only[List.length_append,List.length_take,List.length_drop,List.length_singleton];omega
     ·exact c1 l (List.mem_of_mem_drop hl)
    have hlen:(els.take q++[el.take r++[v']++el.drop (r+1)]++els.drop (q+1)).length=els.length:=by
     simp only[List.length_append,List.length_take,List.length_drop,List.length_singleton];omega
    have e1:els=els.take q++[el]++els.drop (q+1):=by
     rw[List.append_assoc,List.singleton_append]
     have:=List.take_append_drop q els
     rw[List.drop_eq_getElem_cons hle1]at this
     rw[←(List.getElem?_eq_some_iff.1 hq).2];exact this.symm
    have e2:el=el.take r++[v]++el.drop (r+1):=by
     rw[List.append_assoc,List.singleton_append]
     have:=List.take_append_drop r el
     rw[List.drop_eq_getElem_cons hle2]at this
     rw[←(List.getElem?_eq_some_iff.1 hr).2];exact this.symm
    have hd:aS E ρ (els.take q++[el.take r++[v']++el.drop (r+1)]++els.drop (q+1)).flatten=some xs:=by
     rw[e1]at c4
     simp only[List.flatten_append,apB,List.flatten_nil,List.append_nil]at c4 ⊢
     obtain⟨y1,z1,d1,d2,rfl⟩:=ff c4
     obtain⟨y2,z2,d3,d4,rfl⟩:=ff d1
     rw[e2]at d4
     obtain⟨y3,z3,d5,d6,rfl⟩:=ff d4
     obtain⟨y4,z4,d7,d8,rfl⟩:=ff d5
     obtain⟨x,_,d9,d10,rfl⟩:=cE d8
     refine eD (eD d3 (eD (eD d7 ?_) d6)) d2
     exact lG (hv x d9) d10
    refine⟨hel,c2,arr,xs,c3,hd,?_⟩
    rw[hlen];exact c5
   ·cases b1
  ·rw[h2 m q1]at hm
   exact hob m o hm
 ·obtain⟨o2,f1,f2⟩:=old m o hm
  obtain⟨o3,f3,f4⟩:=old k o' hk
  rw[f2]at hb1
  rw[f4]at hb2
  exact hinj m k e f o2 o3 f1 f3 he hf hb1 hb2 hb
noncomputable def aia (i q r Ty sz:Nat) (α:Type) (enc:α→List PL) (M:T) (nx:Nat) (K:T→Nat→Bool):Bool:=
 eH M i fun _ _ _ els=>eu (fb els q) fun el=>eu (fb el r) fun v=>bn (fy v) (K M nx) (acg v Ty sz α enc M nx fun v' M' nx'=>eH M' i fun g T2 s2 els=>eu (fb els q) fun el'=>eu (fb el' r) fun v2=>aa (aN (v2=v))
  (nR el' r [v'] fun e2=>nR els q [e2] fun els2=>T.set bM M' i (some (.blk g T2 s2 els2)) fun M2=>K M2 nx'))
theorem agN (h:Sim E ρ G F M nx w) {i q r Ty sz:Nat} {α:Type} {enc:α→List PL} {K:T→Nat→Bool} (hk:aia i q r Ty sz α enc M nx K=true):
  ∃M' nx' ρ',ρ.Le ρ'∧Sim E ρ' G F M' nx' w∧K M' nx'=true:=by
 obtain⟨g,T1,s1,els,h1,hk⟩:=cM hk
 obtain⟨el,h2,hk⟩:=ci hk
 obtain⟨v,h3,hk⟩:=ci hk
 rcases bi hk with⟨-,hk⟩|⟨-,hk⟩
 ·exact⟨M,nx,ρ,Ren.Le.refl _,h,hk⟩
 obtain⟨v',M',nx',ρ',le,sm,hk,hv,hb⟩:=Wv h hk
 obtain⟨g,T2,s2,els2,h4,hk⟩:=cM hk
 obtain⟨el2,h5,hk⟩:=ci hk
 obtain⟨v2,h6,hk⟩:=ci hk
 obtain⟨hvv,hk2⟩:=ai hk
 obtain⟨hk3,l1⟩:=fJ hk2
 obtain⟨hk4,l2⟩:=fJ hk3
 obtain⟨M2,hk5,g1,g2⟩:=T.set_ok _ _ _ _ _ hk4
 clear hk hk2 hk3 hk4
 subst hvv
 rw[iA]at h2 h3 h5 h6
 refine⟨M2,nx',ρ',le,sm.swap h4 h5 h6 (fun x hx=> ?_) g1 g2,hk5⟩
 -- the cell's value is known already in the old numbers
 obtain⟨e,arr,xs,e1,e2,e3,e4,e5,e6,e7,e8,e9⟩:=h.cellsAt h1
 have hmem:v2∈els.flatten:=List.mem_flatten.2 ⟨el,apA h2,apA h3⟩
 obtain⟨k,hk2⟩:=List.mem_iff_getElem?.1 hmem
 obtain⟨y,y1,_⟩:=rO e3 hk2
 have:=jh le v2 y y1
 rw[this]at hx
 cases hx
 exact hv _ y1
noncomputable def ah6 (i q r:Nat) (M:T) (K:T→Bool):Bool:=
 eH M i fun _ _ _ els=>eu (fb els q) fun el=>eu (fb el r) fun v=>ab0 v M fun u M'=>eH M' i fun g T2 s2 els=>eu (fb els q) fun el'=>eu (fb el' r) fun v2=>aa (aN (v2=v))
  (nR el' r [u] fun e2=>nR els q [e2] fun els2=>T.set bM M' i (some (.blk g T2 s2 els2)) K)
theorem agr (h:Sim E ρ G F M nx w) {i q r:Nat} {K:T→Bool} (hk:ah6 i q r M K=true):
  ∃E' M',Kx ρ E E'∧E'.at_=E.at_∧Sim E' ρ G F M' nx w∧K M'=true:=by
 obtain⟨g,T1,s1,els,h1,hk⟩:=cM hk
 obtain⟨el,h2,hk⟩:=ci hk
 obtain⟨v,h3,hk⟩:=ci hk
 rw[iA]at h2 h3
 obtain⟨e,arr,xs,e1,e2,e3,e4,e5,e6,e7,e8,e9⟩:=h.cellsAt h1
 have hmem:v∈els.flatten:=List.mem_flatten.2 ⟨el,apA h2,apA h3⟩
 obtain⟨k,hk2⟩:=List.mem_iff_getElem?.1 hmem
 obtain⟨y,y1,_⟩:=rO e3 hk2
 obtain⟨E1,M1,u,f1,f2,f3,f4,hk3⟩:=Zf h y1 hk
 obtain⟨g,T2,s2,els2,h4,hk4⟩:=cM hk3
 obtain⟨el2,h5,hk5⟩:=ci hk4
 obtain⟨v2,h6,hk6⟩:=ci hk5
 obtain⟨hvv,hk7⟩:=ai hk6
 obtain⟨hk8,l1⟩:=fJ hk7
 obtain⟨hk9,l2⟩:=fJ hk8
 obtain⟨M2,hk10,g1,g2⟩:=T.set_ok _ _ _ _ _ hk9
 subst hvv
 rw[iA]at h5 h6
 refine⟨E1,M2,f1,f2,f3.swap h4 h5 h6 (fun x hx=> ?_) g1 g2,hk10⟩
 rw[pj f1 _ _ y1]at hx
 cases hx
 exact jh (ρ:=fun _=>none) (fun _ _ q=>by cases q) u y f4
noncomputable def VX (v:AV) (K:AV→Bool):Bool:=AV.casesOn v (K .bad) (fun k z=>K (.int k z)) (fun b=>K (.bool b)) (fun l=>K (.str l)) (fun i o=>K (.ptr i o)) (fun i o n c=>K (.sl i o n c)) (fun i=>K (.map i)) (K .nilP) (K .nilS) (K .nilM) (K .nilF) (K .nilI) (fun t v=>K (.iface t v)) (fun f c=>K (.fn f c)) (fun i=>K (.yl i)) (fun l=>K (.agg l)) (fun l=>K (.tup l)) (fun i=>K (.any i)) (fun s=>K (.sy s))
theorem OE {v:AV} {K:AV→Bool} (h:VX v K=true):K v=true:=by
 cases v<;>exact h
noncomputable def upV (v:AV):AV:=AV.casesOn v .bad (fun k z=>.sy (.int k z)) (fun b=>.sy (.bool (b=true))) (fun l=>.sy (.str (l.map UInt8.ofNat))) (fun i o=>.ptr i o) (fun i o n c=>.sl i o n c) (fun i=>.map i) .nilP .nilS .nilM .nilF .nilI (fun t v=>.iface t v) (fun f c=>.fn f c) (fun i=>.yl i) (fun l=>.agg l) (fun l=>.tup l) (fun i=>.any i) (fun s=>.sy s)
theorem NU {v:AV} {x:Value} (h:den E ρ v=some x):den E ρ (upV v)=some x:=by
 cases v<;>first|exact h|skip
 case bool b=>
  simp only[den]at h
  cases h
  show bo E ρ (.bool (b=true))=_
  simp only[bo,wy]
noncomputable def upX (t:Nat) (S:SL) (K:SL→Bool):Bool:=VX (upV (bz t S)) fun v=>K (.cons t v S)
theorem akM {N:Nat} {S:SL} {a:Act} (s:SR E ρ N S a) {t:Nat} {K:SL→Bool} (hk:upX t S K=true):∃S',SR E ρ N S' a∧K S'=true:=by
 have hk:=OE hk
 refine⟨_,⟨s.size,s.defs,fun u=> ?_⟩,hk⟩
 by_cases q:t=u
 ·subst q
  rw[gL]
  rcases s.at_ t with q|⟨x,q1,q2⟩
  ·rw[q];exact .inl rfl
  ·exact .inr ⟨x,NU q1,q2⟩
 ·rw[lv _ _ q]
  exact s.at_ u
noncomputable def ape (M:T) (i q r:Nat):Bool:=Option.casesOn (M.get i) false fun ob=>AObj.casesOn ob (fun _ _ _ els=>Option.casesOn (fb els q) false fun el=>Option.casesOn (fb el r) false fun _=>true) (fun _ _=>false) (fun _ _ _ _=>false) false (fun _ _ _ _ _=>false) (fun _ _ _ _ _ _ _=>false)
noncomputable def akL (i q r:Nat) (M:T) (K:T→Bool):Bool:=bn (ape M i q r) (eH M i fun g Ty sz els=>eu (fb els q) fun el=>eu (fb el r) fun v=>VX (upV v) fun v'=>nR el r [v'] fun e2=>nR els q [e2] fun els2=>T.set bM M i (some (.blk g Ty sz els2)) K) (K M)
theorem ais (h:Sim E ρ G F M nx w) {i q r:Nat} {K:T→Bool} (hk:akL i q r M K=true):∃M',Sim E ρ G F M' nx w∧K M'=true:=by
 rcases bi hk with⟨-,hk⟩|⟨-,hk⟩
 case inr=>exact⟨M,h,hk⟩
 obtain⟨g,Ty,sz,els,h1,hk⟩:=cM hk
 obtain⟨el,h2,hk⟩:=ci hk
 obtain⟨v,h3,hk⟩:=ci hk
 have hk:=OE hk
 obtain⟨hk,l1⟩:=fJ hk
 obtain⟨hk,l2⟩:=fJ hk
 obtain⟨M2,hk,g1,g2⟩:=T.set_ok _ _ _ _ _ hk
 rw[iA]at h2 h3
 exact⟨M2,h.swap h1 h2 h3 (fun x hx=>NU hx) g1 g2,hk⟩
theorem Sim.swapM (h:Sim E ρ G F M nx w) {i:Nat} {es es':List (AV×AV×Nat)} {cl:Nat} (hi:M.get i=some (.map es cl)) (hv:∀ms,bU E ρ es=some ms→bU E ρ es'=some ms) {M':T} (h1:M'.get i=some (.map es' cl)) (h2:∀m,m≠i→M'.get m=M.get m):Sim E ρ G F M' nx w:=by
 obtain⟨c,hh,hob,hinj⟩:=h.ex
 have old:∀m o,M'.get m=some o→∃o2,M.get m=some o2∧∀e,cU e o=cU e o2:=fun m o hm=>by
  by_cases q1:m=i
  ·subst q1
   rw[h1]at hm;cases hm
   exact⟨_,hi,fun e=>rfl⟩
  ·rw[h2 m q1]at hm
   exact⟨o,hm,fun e=>rfl⟩
 refine⟨⟨c,hh,fun m o hm=> ?_,fun m k e f o o' hm hk he hf hb1 hb2 hb=> ?_⟩,h.mem,h.fresh⟩
 ·by_cases q1:m=i
  ·subst q1
   rw[h1]at hm;cases hm
   obtain⟨e,a1,⟨b1,ob,b2,b3⟩|⟨b1,b2⟩⟩:=hob m _ hi
   ·obtain⟨ms,c1,c2⟩:=b3
    exact⟨e,a1,.inl ⟨rfl,ob,b2,ms,hv ms c1,c2⟩⟩
   ·cases b1
  ·rw[h2 m q1]at hm
   exact hob m o hm
 ·obtain⟨o2,f1,f2⟩:=old m o hm
  obtain⟨o3,f3,f4⟩:=old k o' hk
  rw[f2]at hb1
  rw[f4]at hb2
  exact hinj m k e f o2 o3 f1 f3 he hf hb1 hb2 hb
noncomputable def upE (es:List (AV×AV×Nat)) (K:List (AV×AV×Nat)→Bool):Bool:=List.rec (motive:=fun _=>(List (AV×AV×Nat)→Bool)→Bool) (fun K=>K []) (fun e _ ih K=>VX (upV e.2.1) fun v=>ih fun l=>K ((e.1,v,e.2.2)::l)) es K
theorem ac1:∀{es:List (AV×AV×Nat)} {K:List (AV×AV×Nat)→Bool},upE es K=true→∃es',K es'=true∧∀ms,bU E ρ es=some ms→bU E ρ es'=some ms
 |[],K,h=>⟨[],h,fun ms q=>q⟩
 |(k,v,b)::es,K,h=>by
  have h1:=OE (show VX (upV v) (fun v=>upE es fun l=>K ((k,v,b)::l))=true from h)
  obtain⟨es',h2,h3⟩:=ac1 h1
  refine⟨_,h2,fun ms q=> ?_⟩
  obtain⟨x,y,ms',q1,q2,q3,rfl⟩:=dO q
  simp only[bU,q1,NU q2,h3 _ q3]
noncomputable def akK (i:Nat) (M:T) (K:T→Bool):Bool:=te M i fun es cl=>upE es fun es'=>T.set bM M i (some (.map es' cl)) K
theorem aiq (h:Sim E ρ G F M nx w) {i:Nat} {K:T→Bool} (hk:akK i M K=true):∃M',Sim E ρ G F M' nx w∧K M'=true:=by
 obtain⟨es,cl,h1,hk⟩:=kB hk
 obtain⟨es',hk,h2⟩:=ac1 (E:=E) (ρ:=ρ) hk
 obtain⟨M2,hk,g1,g2⟩:=T.set_ok _ _ _ _ _ hk
 exact⟨M2,h.swapM h1 h2 g1 g2,hk⟩
theorem Sim.nilObj (h:Sim E ρ G F M nx w) {M':T} {o:AObj} (hB:cU ⟨0,0⟩ o=false) (hN:LX o) (h1:M'.get nx=some o) (h2:∀m,m≠nx→M'.get m=M.get m):Sim E (ρ.set nx ⟨0,0⟩) G F M' (nx+1) w:=by
 have h0:=h.fresh nx (apM _)
 have hle:=Ren.le_set (ρ:=ρ) ⟨0,0⟩ h0
 obtain⟨c,hh,hob,hinj⟩:=h.ex
 refine⟨⟨c,hh,fun j o hj=> ?_,fun j k e f o o' hj hk he hf hb1 hb2 hb=> ?_⟩,h.mem,fun j hj=> ?_⟩
 ·by_cases q:j=nx
  ·subst q
   rw[h1]at hj;cases hj
   exact⟨_,Ren.set_self _ _ _,.inr ⟨hB,hN⟩⟩
  ·rw[h2 j q]at hj
   obtain⟨e,a1,⟨q1,ob,q2,q3⟩|q1⟩:=hob j o hj
   ·exact⟨e,hle _ _ a1,.inl ⟨q1,ob,q2,q3.mono hle⟩⟩
   ·exact⟨e,hle _ _ a1,.inr q1⟩
 ·have nb:∀m e o,M'.get m=some o→ρ.set nx ⟨0,0⟩ m=some e→cU e o=true→m≠nx:=fun m e o q1 q2 q3 q4=>by
   subst q4
   rw[h1]at q1;cases q1
   rw[Ren.set_self]at q2;cases q2
   rw[hB]at q3;cases q3
  have nj:=nb j e o hj he hb1
  have nk:=nb k f o' hk hf hb2
  rw[h2 j nj]at hj
  rw[h2 k nk]at hk
  rw[Ren.set_ne _ nj]at he
  rw[Ren.set_ne _ nk]at hf
  exact hinj j k e f o o' hj hk he hf hb1 hb2 hb
 ·rw[Ren.set_ne _ (by omega)]
  exact h.fresh j (by omega)
theorem agI:∀{l:List AV} {i:Nat} {v v':AV} {ys:List Value},aS E ρ l=some ys→l[i]?=some v→(∀x,den E ρ v=some x→den E ρ v'=some x)→aS E ρ (l.take i++[v']++l.drop (i+1))=some ys
 |[],i,v,v',ys,h,hi,hv=>by simp at hi
 |u::l,0,v,v',ys,h,hi,hv=>by
  obtain⟨x,xs,h1,h2,rfl⟩:=cE h
  obtain rfl:u=v:=by simpa using hi
  have e:=hv x h1
  simp only[List.take_zero,apD,apC,List.drop_succ_cons,List.drop_zero,aS,e,h2]
 |u::l,i+1,v,v',ys,h,hi,hv=>by
  obtain⟨x,xs,h1,h2,rfl⟩:=cE h
  have:=agI (i:=i) (v':=v') h2 (by simpa using hi) hv
  simp only[List.take_succ_cons,apC,List.drop_succ_cons,aS,h1,this]
noncomputable def ahV (i q r:Nat) (M:T) (K:T→Bool):Bool:=eH M i fun g Ty sz els=>eu (fb els q) fun el=>eu (fb el r) fun v=>kI v fun s=>SY.casesOn s (fun _ _=>false) (fun _=>false) (fun _=>false) (fun _ _ _ _ _=>false) (fun _ _ _=>false)
 (fun j n=>fL M j fun _ sz' _ l _=>aa (aN (n=l.length)) (ae fun c:Nat=>nR el r [.sy (.psub j sz' 0 n 0 (some c))] fun e2=>nR els q [e2] fun els2=>T.set bM M i (some (.blk g Ty sz els2)) K)) (fun _ _ _ _ _ _=>K M) (fun _ _ _ _=>false) (fun _ _ _=>false) (fun _=>false)
theorem afR (h:Sim E ρ G F M nx w) {i q r:Nat} {K:T→Bool} (hk:ahV i q r M K=true):∃M',Sim E ρ G F M' nx w∧K M'=true:=by
 obtain⟨g,Ty,sz,els,h1,hk1⟩:=cM hk
 obtain⟨el,h2,hk2⟩:=ci hk1
 obtain⟨v,h3,hk3⟩:=ci hk2
 obtain⟨s,rfl,hk4⟩:=eI hk3
 clear hk hk1 hk2 hk3
 rw[iA]at h2 h3
 cases s<;>first|(cases hk4;done)|exact⟨M,h,hk4⟩|skip
 case prow j n=>
  obtain⟨Ty',sz',α,l,enc,hi',g1⟩:=dK hk4
  obtain⟨hn,e2⟩:=ai g1
  obtain⟨f,q1,hsz,hrow⟩:=h.prow hi'
  obtain⟨e3,l1⟩:=fJ (aq e2 (f.cap - 1))
  obtain⟨e4,l2⟩:=fJ e3
  obtain⟨M2,e5,g1,g2⟩:=T.set_ok _ _ _ _ _ e4
  refine⟨M2,h.swap h1 h2 h3 (v':=.sy (.psub j sz' 0 n 0 (some (f.cap - 1)))) (fun x hx=> ?_) g1 g2,e5⟩
  simp only[den,bo,q1]at hx ⊢
  rcases eG hx with⟨c0,rfl,rfl⟩|⟨c,qc,rfl⟩
  ·simp[nP,c0]
  ·rcases hrow with⟨q2,_⟩|⟨c',arr,q2,q3,r⟩
   ·omega
   ·have:=r.le
    simp only[nP,qc]
    rw[if_pos ⟨by omega,fun q e=>by cases e;omega⟩]
    simp
noncomputable def ab2 (i q r lo n:Nat) (M:T) (K:T→Bool):Bool:=eH M i fun g Ty sz els=>eu (fb els q) fun el=>eu (fb el r) fun v=>AV.casesOn v false (fun _ _=>K M) (fun _=>false) (fun _=>false) (fun _ _=>false) (fun _ _ _ _=>false) (fun _=>false) false false false false false (fun _ _=>false) (fun _ _=>false) (fun _=>false) (fun _=>false) (fun _=>false) (fun _=>false)
 (fun s=>SY.casesOn s (fun k z=>OF n z (fun j=>fN j fun j=>nR el r [.int k (Int.ofNat j)] fun e2=>nR els q [e2] fun els2=>T.set bM M i (some (.blk g Ty sz els2)) K) lo) (fun _=>false) (fun _=>false) (fun _ _ _ _ _=>false) (fun _ _ _=>false) (fun _ _=>false) (fun _ _ _ _ _ _=>false) (fun _ _ _ _=>false) (fun _ _ _=>false) (fun _=>false))
theorem agx (h:Sim E ρ G F M nx w) {i q r lo n:Nat} {K:T→Bool} (hk:ab2 i q r lo n M K=true):∃M',Sim E ρ G F M' nx w∧K M'=true:=by
 obtain⟨g,Ty,sz,els,h1,hk1⟩:=cM hk
 obtain⟨el,h2,hk2⟩:=ci hk1
 obtain⟨v,h3,hk3⟩:=ci hk2
 clear hk hk1 hk2
 rw[iA]at h2 h3
 cases v<;>first|(cases hk3;done)|exact⟨M,h,hk3⟩|skip
 case sy s'=>
  cases s'<;>first|(cases hk3;done)|skip
  case int k z=>
   obtain⟨j,e1,_,e2⟩:=GH (show OF n z (fun j=>fN j fun j=>nR el r [.int k (Int.ofNat j)] fun e2=>nR els q [e2] fun els2=>T.set bM M i (some (.blk g Ty sz els2)) K) lo=true from hk3)
   rw[bY]at e2
   obtain⟨e3,l1⟩:=fJ e2
   obtain⟨e4,l2⟩:=fJ e3
   obtain⟨M2,e5,g1,g2⟩:=T.set_ok _ _ _ _ _ e4
   refine⟨M2,h.swap h1 h2 h3 (v':=.int k (Int.ofNat j)) (fun x hx=> ?_) g1 g2,e5⟩
   rw[←hx,e1]
   rfl
noncomputable def ah7 (n:Nat) (z:Int) (K:Nat→Bool) (D:Bool):Nat→Bool:=Nat.rec (fun _=>D) (fun _ ih k=>bn (aN (z=Int.ofNat k)) (K k) (ih (Nat.succ k))) n
theorem agt {z:Int} {K:Nat→Bool} {D:Bool}:∀{n k:Nat},ah7 n z K D k=true→(∃j:Nat,z=(j:Int)∧K j=true)∨D=true
 |0,k,h=>.inr h
 |n+1,k,h=>by
  have h':bn (aN (z=Int.ofNat k)) (K k) (ah7 n z K D (Nat.succ k))=true:=h
  rcases jC h' with⟨q,g⟩|⟨_,g⟩
  ·exact .inl ⟨k,q,g⟩
  ·exact agt g
def Lf (els:List (List (Nat×Int))):List (List AV):=els.map fun e=>e.map fun p=>.int p.1 p.2
noncomputable def anZ (v:AV) (els:List (List (Nat×Int))) (M:T) (nx:Nat) (K:AV→T→Nat→Bool):Bool:=kI v fun s=>SY.casesOn s (fun _ _=>false) (fun _=>false) (fun _=>false) (fun _ _ _ _ _=>false) (fun _ _ _=>false)
 (fun i n=>fL M i fun Ty sz _ l enc=>aa (Nat.blt 0 (db els)) (aa (aN (n=db els∧l.length=n)) (aa (aN (l.map (fun x=>(enc x).map bw)=els.map (fun e=>e.map fun p=>Value.int (cR p.1) p.2)))
  (T.set bM M i none fun M1=>T.set bM M1 nx (some (.blk true Ty sz (Lf els))) fun M'=>fN (db els) fun m=>fN (Nat.succ nx) fun q=>K (.sl nx 0 m (.rest 0)) M' q))))
 (fun _ _ _ _ _ _=>false) (fun _ _ _ _=>false) (fun _ _ _=>false) (fun _=>false)
theorem YX:∀{e:List (Nat×Int)},aS E ρ (e.map fun p=>.int p.1 p.2)=some (e.map fun p=>Value.int (cR p.1) p.2)
 |[]=>rfl
 |p::e=>by
  rw[List.map_cons,List.map_cons]
  exact lG rfl YX
theorem Vk:∀{els:List (List (Nat×Int))},aS E ρ (Lf els).flatten=some (els.map (fun e=>e.map fun p=>Value.int (cR p.1) p.2)).flatten
 |[]=>rfl
 |e::els=>by
  unfold Lf
  rw[List.map_cons,List.map_cons,apB,apB]
  exact eD YX Vk
theorem ajX (h:Sim E ρ G F M nx w) {v:AV} {els:List (List (Nat×Int))} {K:AV→T→Nat→Bool} (hk:anZ v els M nx K=true):
  ∃v' M' nx' ρ',ρ.Le ρ'∧Sim E ρ' G F M' nx' w∧K v' M' nx'=true∧(∀x,den E ρ v=some x→den E ρ' v'=some x)∧v≠ .bad:=by
 have h0:=h.fresh nx (apM _)
 obtain⟨s,rfl,g⟩:=eI hk
 cases s<;>first|(cases g;done)|skip
 case prow i n=>
  obtain⟨Ty,sz,α,l,enc,hi,g3⟩:=dK g
  obtain⟨q2,g4⟩:=aj g3
  rw[apV]at q2
  obtain⟨⟨q3,q4⟩,g5⟩:=ai g4
  obtain⟨hl,g7⟩:=ai g5
  obtain⟨M1,k1,s1,s2⟩:=T.set_ok _ _ _ _ _ g7
  obtain⟨M',k2,s3,s4⟩:=T.set_ok _ _ _ _ _ k1
  rw[bY,bY]at k2
  obtain⟨e,a1,hh⟩:=h.objP hi
  have hinx:i≠nx:=fun q=>by rw[q,h0]at a1;cases a1
  have ll:db els=els.length:=cw _
  have hcap:∃c,e.cap=c+1:=by
   rcases hh with⟨hb,_⟩|⟨_,hn,_⟩
   ·cases hc:e.cap with
    |zero=>simp[cU,hc]at hb
    |succ c=>exact⟨c,rfl⟩
   ·subst hn
    simp at q4
    omega
  obtain⟨c,hc⟩:=hcap
  have hle:=Ren.le_set (ρ:=ρ) ⟨e.b,c⟩ h0
  have hel:(Lf els).length=els.length:=by simp[Lf]
  refine⟨_,M',nx+1,_,hle,h.rekey (o':=.blk true Ty sz (Lf els)) (e':=⟨e.b,c⟩) hi a1 rfl (dN hc) rfl (fun ob hr=> ?_) s3 (fun m a1 a2=>by rw[s4 m a1,s2 m a2]) (by rw[s4 i hinx,s1]),k2,(fun x hx=> ?_),by simp⟩
  ·obtain⟨arr',xs',o1,o2,o3,o4,o5,o6,o7,o8⟩:=hr
   obtain⟨o41,o42⟩:=CH o4
   have hlen:∀d∈Lf els,d.length=sz:=fun d hd=>by
    obtain⟨d',hd',rfl⟩:=List.mem_map.1 hd
    have:(d'.map fun p=>Value.int (cR p.1) p.2)∈l.map (fun x=>(enc x).map bw):=by rw[hl];exact List.mem_map.2 ⟨d',hd',rfl⟩
    obtain⟨x,hx,hxe⟩:=List.mem_map.1 this
    have:=congrArg List.length hxe
    rw[apx,apx,o3 x hx]at this
    rw[apx]
    exact this.symm
   have hxs:xs'=(els.map (fun e=>e.map fun p=>Value.int (cR p.1) p.2)).flatten:=by
    rw[o42,←hl,List.flatMap_def,List.map_flatten,List.map_map]
    rfl
   refine⟨hlen,o2,arr',xs',o1,by rw[Vk,hxs],?_⟩
   simp only[cond_true]
   rw[hc]at o5 o7 o8
   simp only[Nat.add_sub_cancel]at o5 o7 o8
   refine⟨o5,?_,by omega,o8⟩
   rw[←o6,q4,q3,ll,hel]
  ·simp only[den,bo,a1,ub,hc]at hx
   cases hx
   simp[den,Ren.set_self,df,q3]
noncomputable def anY (t:Nat) (els:List (List (Nat×Int))) (S:SL) (M:T) (nx:Nat) (K:SL→T→Nat→Bool):Bool:=bn (fy (bz t S)) (anZ (bz t S) els M nx fun v M nx=>K (.cons t v S) M nx) (K S M nx)
theorem ajW {N:Nat} {S:SL} {a:Act} (s:SR E ρ N S a) (h:Sim E ρ G F M nx w) {t:Nat} {els:List (List (Nat×Int))} {K:SL→T→Nat→Bool} (hk:anY t els S M nx K=true):
  ∃S' M' nx' ρ',ρ.Le ρ'∧SR E ρ' N S' a∧Sim E ρ' G F M' nx' w∧K S' M' nx'=true:=by
 rcases bi hk with⟨_,hk⟩|⟨_,hk⟩
 case inr=>exact⟨S,M,nx,ρ,Ren.Le.refl _,s,h,hk⟩
 obtain⟨v',M',nx',ρ',hl,h1,h2,h3,h4⟩:=ajX h hk
 refine⟨_,M',nx',ρ',hl,⟨s.size,s.defs,fun u=> ?_⟩,h1,h2⟩
 by_cases q:t=u
 ·subst q
  rw[gL]
  obtain⟨x,q1,q2⟩:=(s.at_ t).resolve_left h4
  exact .inr ⟨x,h3 x q1,q2⟩
 ·rw[lv _ _ q]
  exact(s.mono hl).at_ u
noncomputable def Mr (t:Nat) (S:SL):Nat:=AV.casesOn (bz t S) 0 (fun _ z=>Int.casesOn z (fun n=>n) (fun _=>0)) (fun _=>0) (fun _=>0) (fun _ _=>0) (fun _ _ _ _=>0) (fun _=>0) 0 0 0 0 0 (fun _ _=>0) (fun _ _=>0) (fun _=>0) (fun _=>0) (fun _=>0) (fun _=>0) (fun _=>0)
noncomputable def MV (t:Nat) (S:SL):Bool:=AV.casesOn (bz t S) false (fun _ _=>true) (fun _=>false) (fun _=>false) (fun _ _=>false) (fun _ _ _ _=>false) (fun _=>false) false false false false false (fun _ _=>false) (fun _ _=>false) (fun _=>false) (fun _=>false) (fun _=>false) (fun _=>false) (fun _=>false)
noncomputable def ah0 (l:List Nat) (j:Nat):Nat:=Option.casesOn (fb l j) 0 fun x=>x
noncomputable def aoY (t:Nat) (S:SL) (K:Nat→Bool):Bool:=nz (bz t S) fun i _=>K i
noncomputable def ab1 (t r u v:Nat) (l1 l2:List Nat) (S:SL) (M:T) (K:T→Bool):Bool:=fN (ah0 (Bool.rec l2 l1 (MV v S)) (Mr u S)) fun z=>aoY t S fun i=>ab2 i 0 r z 1 M K
theorem agw (h:Sim E ρ G F M nx w) {t r u v:Nat} {l1 l2:List Nat} {S:SL} {K:T→Bool} (hk:ab1 t r u v l1 l2 S M K=true):∃M',Sim E ρ G F M' nx w∧K M'=true:=by
 unfold ab1 at hk
 rw[bY]at hk
 obtain⟨i,o,_,hk⟩:=ie (show nz (bz t S) (fun i _=>ab2 i 0 r (ah0 (Bool.rec l2 l1 (MV v S)) (Mr u S)) 1 M K)=true from hk)
 exact agx h hk
noncomputable def ab3 (t u v n m:Nat) (S:SL) (K:SL→Bool):Bool:=AV.casesOn (bz t S) false (fun _ _=>false) (fun _=>K S) (fun _=>false) (fun _ _=>false) (fun _ _ _ _=>false) (fun _=>false) false false false false false (fun _ _=>false) (fun _ _=>false) (fun _=>false) (fun _=>false) (fun _=>false) (fun _=>false)
 (fun s=>SY.casesOn s (fun _ _=>false) (fun p=>Bool.rec (aa (aN (¬p)) (K (.cons t (.bool false) S))) (aa (aN p) (K (.cons t (.bool true) S))) (Nat.blt (Mr u S) (Bool.rec m n (MV v S)))) (fun _=>false) (fun _ _ _ _ _=>false) (fun _ _ _=>false) (fun _ _=>false) (fun _ _ _ _ _ _=>false) (fun _ _ _ _=>false) (fun _ _ _=>false) (fun _=>false))
theorem agy {N:Nat} {S:SL} {a:Act} (s:SR E ρ N S a) {t u v n m:Nat} {K:SL→Bool} (hk:ab3 t u v n m S K=true):∃S',SR E ρ N S' a∧K S'=true:=by
 unfold ab3 at hk
 generalize e:bz t S=x at hk
 cases x<;>first|(cases hk;done)|exact⟨S,s,hk⟩|skip
 case sy s'=>
  cases s'<;>first|(cases hk;done)|skip
  case bool p=>
   have fin:∀b:Bool,aN p=b→∃S',SR E ρ N S' a∧S'= .cons t (.bool b) S:=fun b hb=>by
    refine⟨_,⟨s.size,s.defs,fun r=> ?_⟩,rfl⟩
    by_cases q:t=r
    ·subst q
     rw[gL]
     rcases s.at_ t with q1|⟨x,q1,q2⟩
     ·rw[e]at q1;cases q1
     ·rw[e]at q1
      refine .inr ⟨x,?_,q2⟩
      simp only[den,bo]at q1 ⊢
      rw[←q1,hb]
    ·rw[lv _ _ q]
     exact s.at_ r
   have hk:(Bool.rec (aa (aN (¬p)) (K (.cons t (.bool false) S))) (aa (aN p) (K (.cons t (.bool true) S))) (Nat.blt (Mr u S) (Bool.rec m n (MV v S))):Bool)=true:=hk
   cases hb:Nat.blt (Mr u S) (Bool.rec m n (MV v S)) with
   |false=>
    rw[hb]at hk
    obtain⟨h1,h2⟩:=ai (show aa (aN (¬p)) (K (.cons t (.bool false) S))=true from hk)
    obtain⟨S',h3,h4⟩:=fin false (prB_false.2 h1)
    exact⟨S',h3,by rw[h4];exact h2⟩
   |true=>
    rw[hb]at hk
    obtain⟨h1,h2⟩:=ai (show aa (aN p) (K (.cons t (.bool true) S))=true from hk)
    obtain⟨S',h3,h4⟩:=fin true (prB_true.2 h1)
    exact⟨S',h3,by rw[h4];exact h2⟩
end
inductive Adm:Type 1|can (k:Nat) (live:List Nat)|born (t Ty sz:Nat) (α:Type) (enc:α→List PL)|cell (i q r Ty sz:Nat) (α:Type) (enc:α→List PL)|up (t:Nat)|upc (i q r:Nat)|upm (i:Nat)|frz (t:Nat)|frzc (i q r:Nat)|tail (i q r:Nat)|lit (t:Nat) (els:List (List (Nat×Int)))|fixq (t r u v:Nat) (l1 l2:List Nat)|fixb (t u v n m:Nat)
noncomputable def kJ (l:List Adm):SL→T→Nat→(SL→T→Nat→Bool)→Bool:=List.rec (fun S M nx K=>K S M nx) (fun a _ ih S M nx K=>Adm.casesOn a (fun k live=>aoz k live S M fun S M nx=>ih S M nx K) (fun t Ty sz α enc=>aib t Ty sz α enc S M nx fun S M nx=>ih S M nx K) (fun i q r Ty sz α enc=>aia i q r Ty sz α enc M nx fun M nx=>ih S M nx K) (fun t=>upX t S fun S=>ih S M nx K) (fun i q r=>akL i q r M fun M=>ih S M nx K) (fun i=>akK i M fun M=>ih S M nx K) (fun t=>ab0 (bz t S) M fun v M=>ih (.cons t v S) M nx K) (fun i q r=>ah6 i q r M fun M=>ih S M nx K) (fun i q r=>ahV i q r M fun M=>ih S M nx K) (fun t els=>anY t els S M nx fun S M nx=>ih S M nx K) (fun t r u v l1 l2=>ab1 t r u v l1 l2 S M fun M=>ih S M nx K) (fun t u v n m=>ab3 t u v n m S fun S=>ih S M nx K)) l
noncomputable def Fk (l:List (Nat×List Adm)) (e:Nat):List Adm:=List.rec [] (fun p _ ih=>Bool.rec ih p.2 (Nat.beq p.1 e)) l
noncomputable def abi (S:SL):Nat:=AV.casesOn (bz 0 S) 0 (fun _ z=>Int.casesOn z (fun n=>Nat.succ n) (fun _=>0)) (fun _=>0) (fun _=>0) (fun _ _=>0) (fun _ _ _ _=>0) (fun _=>0) 0 0 0 0 0 (fun _ _=>0) (fun _ _=>0) (fun _=>0) (fun _=>0) (fun _=>0) (fun _=>0) (fun _=>0)
noncomputable def aoe (l:List (Nat×List Adm)) (e:Nat):Bool:=List.rec false (fun p _ ih=>Bool.rec ih true (Nat.beq p.1 e)) l
noncomputable def OP (l:List (Nat×List Adm)) (e:Nat) (S:SL):List Adm:=Bool.rec (Fk l e) (Fk l (Nat.add e (Nat.mul 1000 (abi S)))) (aoe l (Nat.add e (Nat.mul 1000 (abi S))))
inductive XC:Type 1|bad|skip|ret|exit (k:Nat)|reg (draw:Bool) (n:Nat) (tr:XTr)|seq (x y:XC)|cond (p:XP) (x y:XC)|block (k:Nat) (c:XC)|loop (live:List Nat) (c:XC)|inv (j:Nat) (c:XC)|aft (x:XC) (l:List (Nat×List Adm))|pre (l:List Adm) (x:XC)|spc (j:Nat) (x:XC)
abbrev KC:=Nat→SL→T→Nat→Bool
noncomputable def frc (v:AV) (K0:Bool) (K:AV→Bool):Bool:=AV.casesOn v K0 (fun k z=>K (.int k z)) (fun b=>K (.bool b)) (fun l=>K (.str l)) (fun i o=>K (.ptr i o)) (fun i o n c=>K (.sl i o n c)) (fun i=>K (.map i)) (K .nilP) (K .nilS) (K .nilM) (K .nilF) (K .nilI) (fun t v=>K (.iface t v)) (fun f c=>K (.fn f c)) (fun i=>K (.yl i)) (fun l=>K (.agg l)) (fun l=>K (.tup l)) (fun i=>K (.any i)) (fun s=>K (.sy s))
theorem aof {v:AV} {K0:Bool} {K:AV→Bool} (h:frc v K0 K=true):(v= .bad∧K0=true)∨K v=true:=by
 cases v<;>first|exact .inr h|exact .inl ⟨rfl,h⟩
noncomputable def Mz (S:SL) (live:List Nat):SL→(SL→Bool)→Bool:=List.rec (fun acc K=>K acc) (fun t _ ih acc K=>frc (bz t S) (ih acc K) fun v=>ih (.cons t v acc) K) live
noncomputable def ah9 (p:XP) (S:SL) (K:Bool→SL→Bool):Bool:=XP.casesOn p (fun n=>Oc n S K) (fun v=>Zt v fun b=>K b S) (fun _=>false)
abbrev fx:=Nat→SL→T→Nat→KC→Bool
noncomputable def dj (cf:jt) (lp:fx) (lf:Nat) (c:XC):SL→T→Nat→KC→Bool:=XC.rec
 (fun _ _ _ _=>false) (fun S M nx K=>K 0 S M nx) (fun S M nx K=>K 1 S M nx) (fun k S M nx K=>K k S M nx)
 (fun _ _ tr S M nx K=>TR cf tr S M nx fun S M nx=>K 0 S M nx)
 (fun _ _ ihx ihy S M nx K=>ihx S M nx fun e S M nx=>Nat.casesOn e (ihy S M nx K) fun e'=>K (Nat.succ e') S M nx)
 (fun p _ _ ihx ihy S M nx K=>ah9 p S fun b S=>bn b (ihx S M nx K) (ihy S M nx K))
 (fun k _ ih S M nx K=>ih S M nx fun e S M nx=>bn (Nat.beq e k) (K 0 S M nx) (K e S M nx))
 (fun live _ ih S M nx K=>Nat.rec (motive:=fun _=>SL→T→Nat→Bool) (fun _ _ _=>false) (fun _ iG S M nx=>Mz S live .nil fun S=>ih S M nx fun e S M nx=>Nat.casesOn e (iG S M nx) fun e'=>K (Nat.succ e') S M nx) lf S M nx)
 (fun j _ _ S M nx K=>lp j S M nx K)
 (fun _ l ih S M nx K=>ih S M nx fun e S M nx=>kJ (OP l e S) S M nx (K e))
 (fun l _ ih S M nx K=>kJ l S M nx fun S M nx=>ih S M nx K)
 (fun j _ _ S M nx K=>lp j S M nx K) c
def OH:Nat→Exit
 |0=>.normal|1=>.ret|n+2=>.exit n
def MB:List XSt→Bool
 |[]=>true
 |.a ..::_=>false
 |_::r=>MB r
def gm (P:Program) (N:Nat):XC→Code→Bool
 |.bad,_=>true
 |.skip,.skip=>true
 |.ret,.ret=>true
 |.exit k,.exit i=>Nat.beq k (i+2)
 |.reg draw n tr,.region _ ops d=>decide (draw=d)&&Nn P ops N tr&&(match draw,tr with|true,_=>Gr ops n [] (abe tr)|false,.leaf sts=>MB sts&&Nat.beq ops.size n&&decide ((sts.map fun s=>(CB s).1)=List.range n)|_,_=>false)
 |.seq x y,.seq a b=>gm P N x a&&gm P N y b
 |.cond p x y,.cond c a b=>bV p c&&gm P N x a&&gm P N y b
 |.block k c,.block i a=>Nat.beq k (i+2)&&gm P N c a
 |.loop _ c,.loop a=>gm P N c a
 |.inv _ c,.loop a=>gm P N c a
 |.aft x _,c=>gm P N x c
 |.pre _ x,c=>gm P N x c
 |.spc _ x,c=>gm P N x c
 |_,_=>false
def plain:XC→Bool
 |.seq x y=>plain x&&plain y
 |.cond _ x y=>plain x&&plain y
 |.block _ c=>plain c
 |.loop _ c=>plain c
 |.inv ..|.aft ..|.pre ..|.spc ..=>false
 |_=>true
def fc:XC→List (Bool×Nat×XC)
 |.seq x y=>fc x++fc y
 |.cond _ x y=>fc x++fc y
 |.block _ c=>fc c
 |.loop _ c=>fc c
 |.inv j c=>[(true,j,c)]
 |.aft x _=>fc x
 |.pre _ x=>fc x
 |.spc j x=>[(false,j,x)]
 |_=>[]
section
variable {P:Program} {E:Env} {ρ:Ren} {G:GS} {F:List bh} {M:T} {nx:Nat} {w:World} {N:Nat} {S:SL} {a:Act} {ops:Array Oper} {o:Oper}
theorem agK (s:SR E ρ N S a) {p:XP} {c:Operand} {K:Bool→SL→Bool} (ho:bV p c=true) (h:ah9 p S K=true):∃b S',a.eval c= .bool b∧SR E ρ N S' a∧K b S'=true:=by
 cases p with
 |t n=>
  cases c<;>simp only[bV]at ho<;>first|(cases ho;done)|skip
  have:=apz ho
  subst this
  obtain⟨b,S',h1,h2,h3⟩:=YD s (show Oc n S K=true from h)
  exact⟨b,S',h1,h2,h3⟩
 |c v=>
  cases c<;>simp only[bV]at ho<;>first|(cases ho;done)|skip
  have hd:=Bl (E:=E) (ρ:=ρ) ho
  obtain⟨b,rfl,h1⟩:=Ns (show Zt v (fun b=>K b S)=true from h)
  cases hd
  exact⟨b,S,rfl,s,h1⟩
 |f n=>cases h
theorem KR (s:SR E ρ N S a):∀{live:List Nat} {acc:SL} {K:SL→Bool},SR E ρ N acc a→Mz S live acc K=true→∃S',SR E ρ N S' a∧K S'=true
 |[],acc,K,sa,h=>⟨acc,sa,h⟩
 |t::live,acc,K,sa,h=>by
  have h':frc (bz t S) (Mz S live acc K) (fun v=>Mz S live (.cons t v acc) K)=true:=h
  rcases aof h' with⟨_,h1⟩|h1
  ·exact KR s sa h1
  ·refine KR s ⟨sa.size,sa.defs,fun u=> ?_⟩ h1
   by_cases e:t=u
   ·subst e
    rw[gL]
    exact s.at_ t
   ·rw[lv _ _ e]
    exact sa.at_ u
theorem SR.nil (h1:a.tmps.size=N) (h2:a.defers=[]):SR E ρ N .nil a:=⟨h1,h2,fun _=>.inl rfl⟩
theorem vp {Q:Exit→Act→World→Prop}:∀{sts:List XSt} {a:Act} {w:World},MB sts=true→rm P ops (fun a w=>Q .normal a w) (sts.map CB) a w→wpOps P ops Q (sts.map fun s=>(CB s).1) a w
 |[],_,_,_,h=>h
 |.p i d g x::r,a,w,hn,⟨v,h1,h2⟩=>by
  rw[List.map_cons,wpOps_cons]
  exact GA ((h1 w).to (vp (Q:=Q) (by simpa[MB] using hn) h2))
 |.r i d g x::r,a,w,hn,⟨v,h1,h2⟩=>by
  rw[List.map_cons,wpOps_cons]
  exact GA (h1.to (vp (Q:=Q) (by simpa[MB] using hn) h2))
 |.e i d g x::r,a,w,hn,h=>by
  rw[List.map_cons,wpOps_cons]
  exact GA (op1.mono h fun a w h=>vp (Q:=Q) (by simpa[MB] using hn) h)
 |.c i d g f xs::r,a,w,hn,h=>by
  rw[List.map_cons,wpOps_cons]
  exact GA (op1.mono h fun a w h=>vp (Q:=Q) (by simpa[MB] using hn) h)
 |.k i d g t f xs::r,a,w,hn,h=>by
  rw[List.map_cons,wpOps_cons]
  exact GA (op1.mono h fun a w h=>vp (Q:=Q) (by simpa[MB] using hn) h)
 |.a i d g x::r,a,w,hn,h=>by simp[MB]at hn
structure Rel (fl:Bool) (pk:Nat) (E:Env) (ρ:Ren) (E':Env) (ρ':Ren):Prop where
 one:fV E'
 mem:MLe E.M E'.M
 ext:fl=true→Ext E ρ E' ρ'
 pin:∀i e,i<pk→ρ i=some e→ρ' i=some e
theorem Ext.rel {fl:Bool} {pk:Nat} {E':Env} {ρ':Ren} (h:Ext E ρ E' ρ'):Rel fl pk E ρ E' ρ':=⟨h.one,h.env.mem,fun _=>h,fun i e _ q=>h.le i e q⟩
theorem Rel.trans {fl:Bool} {pk:Nat} {E1 E2 E3:Env} {r1 r2 r3:Ren} (h:Rel fl pk E1 r1 E2 r2) (k:Rel fl pk E2 r2 E3 r3):Rel fl pk E1 r1 E3 r3:=⟨k.one,MLe.trans h.mem k.mem,fun q=>(h.ext q).trans (k.ext q),fun i e q1 q2=>k.pin i e q1 (h.pin i e q1 q2)⟩
theorem Rel.next {pk:Nat} {E1 E2:Env} {r1 r2 r3:Ren} (h:Rel false pk E1 r1 E2 r2) (k:∀i e,i<pk→r2 i=some e→r3 i=some e):Rel false pk E1 r1 E2 r3:=⟨h.one,h.mem,fun q=>(by cases q),fun i e q1 q2=>k i e q1 (h.pin i e q1 q2)⟩
theorem Rel.prev {pk:Nat} {E1 E2:Env} {r1 r2 r3:Ren} (h:Rel false pk E1 r2 E2 r3) (k:∀i e,i<pk→r1 i=some e→r2 i=some e):Rel false pk E1 r1 E2 r3:=⟨h.one,h.mem,fun q=>(by cases q),fun i e q1 q2=>h.pin i e q1 (k i e q1 q2)⟩
def dU (pk:Nat):List Adm→Bool
 |[]=>true
 |.can k _::l=>Nat.ble pk k&&dU pk l
 |.born ..::l=>dU pk l
 |.cell ..::l=>dU pk l
 |.up _::l=>dU pk l
 |.upc ..::l=>dU pk l
 |.upm _::l=>dU pk l
 |.frz _::l=>dU pk l
 |.frzc ..::l=>dU pk l
 |.tail ..::l=>dU pk l
 |.lit ..::l=>dU pk l
 |.fixq ..::l=>dU pk l
 |.fixb ..::l=>dU pk l
def TU (pk:Nat):List (Nat×List Adm)→Bool
 |[]=>true
 |p::l=>dU pk p.2&&TU pk l
def fE (pk:Nat):XC→Bool
 |.seq x y=>fE pk x&&fE pk y
 |.cond _ x y=>fE pk x&&fE pk y
 |.block _ c=>fE pk c
 |.loop _ c=>fE pk c
 |.aft x l=>fE pk x&&TU pk l
 |.pre l x=>dU pk l&&fE pk x
 |_=>true
theorem Lo {pk:Nat}:∀{l:List (Nat×List Adm)} {e:Nat},TU pk l=true→dU pk (Fk l e)=true
 |[],e,_=>rfl
 |p::l,e,h=>by
  obtain⟨h1,h2⟩:=aU h
  have:Fk (p::l) e=(Bool.rec (Fk l e) p.2 (Nat.beq p.1 e):List Adm):=rfl
  rw[this]
  cases Nat.beq p.1 e
  ·exact Lo h2
  ·exact h1
theorem adH {pk:Nat} {l:List (Nat×List Adm)} {e:Nat} {S:SL} (h:TU pk l=true):dU pk (OP l e S)=true:=by
 unfold OP
 cases aoe l (Nat.add e (Nat.mul 1000 (abi S)))
 ·exact Lo h
 ·exact Lo h
theorem fh {pk:Nat}:∀{l:List Adm} {S:SL} {M:T} {nx:Nat} {E:Env} {ρ:Ren} {K:SL→T→Nat→Bool},fV E→dU pk l=true→SR E ρ N S a→Sim E ρ G F M nx w→kJ l S M nx K=true→∃S' M' nx' E' ρ',fV E'∧MLe E.M E'.M∧SR E' ρ' N S' a∧Sim E' ρ' G F M' nx' w∧K S' M' nx'=true∧∀i e,i<pk→ρ i=some e→ρ' i=some e
 |[],S,M,nx,E,ρ,K,hE,_,s,h,hk=>⟨S,M,nx,E,ρ,hE,MLe.refl _,s,h,hk,fun _ _ _ q=>q⟩
 |.can k live::l,S,M,nx,E,ρ,K,hE,hp,s,h,hk=>by
  obtain⟨hp1,hp2⟩:=aU hp
  rw[Nat.ble_eq]at hp1
  obtain⟨S1,M1,n1,ρ1,s1,h1,k1,p1⟩:=akp (K:=fun S M nx=>kJ l S M nx K) s h hk
  obtain⟨S2,M2,n2,E2,ρ2,o2,m2,s2,h2,k2,p2⟩:=fh hE hp2 s1 h1 k1
  exact⟨S2,M2,n2,E2,ρ2,o2,m2,s2,h2,k2,fun i e q1 q2=>p2 i e q1 (p1 i e (Nat.lt_of_lt_of_le q1 hp1) q2)⟩
 |.born t Ty sz α enc::l,S,M,nx,E,ρ,K,hE,hp,s,h,hk=>by
  obtain⟨S1,M1,n1,ρ1,le1,s1,h1,k1⟩:=agR (K:=fun S M nx=>kJ l S M nx K) s h hk
  obtain⟨S2,M2,n2,E2,ρ2,o2,m2,s2,h2,k2,p2⟩:=fh hE (show dU pk l=true from hp) s1 h1 k1
  exact⟨S2,M2,n2,E2,ρ2,o2,m2,s2,h2,k2,fun i e q1 q2=>p2 i e q1 (le1 i e q2)⟩
 |.cell i q r Ty sz α enc::l,S,M,nx,E,ρ,K,hE,hp,s,h,hk=>by
  obtain⟨M1,n1,ρ1,le1,h1,k1⟩:=agN (K:=fun M nx=>kJ l S M nx K) h hk
  obtain⟨S2,M2,n2,E2,ρ2,o2,m2,s2,h2,k2,p2⟩:=fh hE (show dU pk l=true from hp) (s.mono le1) h1 k1
  exact⟨S2,M2,n2,E2,ρ2,o2,m2,s2,h2,k2,fun i e q1 q2=>p2 i e q1 (le1 i e q2)⟩
 |.up t::l,S,M,nx,E,ρ,K,hE,hp,s,h,hk=>by
  obtain⟨S1,s1,k1⟩:=akM (K:=fun S=>kJ l S M nx K) s hk
  exact fh hE (show dU pk l=true from hp) s1 h k1
 |.upc i q r::l,S,M,nx,E,ρ,K,hE,hp,s,h,hk=>by
  obtain⟨M1,h1,k1⟩:=ais (K:=fun M=>kJ l S M nx K) h hk
  exact fh hE (show dU pk l=true from hp) s h1 k1
 |.upm i::l,S,M,nx,E,ρ,K,hE,hp,s,h,hk=>by
  obtain⟨M1,h1,k1⟩:=aiq (K:=fun M=>kJ l S M nx K) h hk
  exact fh hE (show dU pk l=true from hp) s h1 k1
 |.tail i q r::l,S,M,nx,E,ρ,K,hE,hp,s,h,hk=>by
  obtain⟨M1,h1,k1⟩:=afR (K:=fun M=>kJ l S M nx K) h hk
  exact fh hE (show dU pk l=true from hp) s h1 k1
 |.lit t els::l,S,M,nx,E,ρ,K,hE,hp,s,h,hk=>by
  obtain⟨S1,M1,n1,ρ1,le1,s1,h1,k1⟩:=ajW (K:=fun S M nx=>kJ l S M nx K) s h hk
  obtain⟨S2,M2,n2,E2,ρ2,o2,m2,s2,h2,k2,p2⟩:=fh hE (show dU pk l=true from hp) s1 h1 k1
  exact⟨S2,M2,n2,E2,ρ2,o2,m2,s2,h2,k2,fun i e q1 q2=>p2 i e q1 (le1 i e q2)⟩
 |.frz t::l,S,M,nx,E,ρ,K,hE,hp,s,h,hk=>by
  have hk':(ab0 (bz t S) M fun v M=>kJ l (.cons t v S) M nx K)=true:=hk
  have hne:bz t S≠ .bad:=fun e=>by rw[e]at hk';cases hk'
  obtain⟨x,q1,q2⟩:=(s.at_ t).resolve_left hne
  obtain⟨E1,M1,u,e1,e2,e3,e4,k1⟩:=Zf h q1 hk'
  have hE1:fV E1:=⟨fun i=>by rw[e2];exact hE.1 i,Tied.mono e1.mem hE.2⟩
  have s1:SR E1 ρ N (.cons t u S) a:=⟨s.size,s.defs,fun r=>by
   by_cases q:t=r
   ·subst q
    rw[gL]
    exact .inr ⟨x,jh (ρ:=fun _=>none) (fun _ _ q=>by cases q) u x e4,q2⟩
   ·rw[lv _ _ q]
    exact(s.at_ r).imp id fun⟨y,y1,y2⟩=>⟨y,pj e1 _ _ y1,y2⟩⟩
  obtain⟨S2,M2,n2,E2,ρ2,o2,m2,s2,h2,k2,p2⟩:=fh hE1 (show dU pk l=true from hp) s1 e3 k1
  exact⟨S2,M2,n2,E2,ρ2,o2,MLe.trans e1.mem m2,s2,h2,k2,p2⟩
 |.frzc i q r::l,S,M,nx,E,ρ,K,hE,hp,s,h,hk=>by
  obtain⟨E1,M1,e1,e2,h1,k1⟩:=agr (K:=fun M=>kJ l S M nx K) h hk
  have hE1:fV E1:=⟨fun i=>by rw[e2];exact hE.1 i,Tied.mono e1.mem hE.2⟩
  have s1:SR E1 ρ N S a:=⟨s.size,s.defs,fun r=>(s.at_ r).imp id fun⟨y,y1,y2⟩=>⟨y,pj e1 _ _ y1,y2⟩⟩
  obtain⟨S2,M2,n2,E2,ρ2,o2,m2,s2,h2,k2,p2⟩:=fh hE1 (show dU pk l=true from hp) s1 h1 k1
  exact⟨S2,M2,n2,E2,ρ2,o2,MLe.trans e1.mem m2,s2,h2,k2,p2⟩
 |.fixq t r u v l1 l2::l,S,M,nx,E,ρ,K,hE,hp,s,h,hk=>by
  obtain⟨M1,h1,k1⟩:=agw (K:=fun M=>kJ l S M nx K) h hk
  exact fh hE (show dU pk l=true from hp) s h1 k1
 |.fixb t u v n m::l,S,M,nx,E,ρ,K,hE,hp,s,h,hk=>by
  obtain⟨S1,s1,k1⟩:=agy (K:=fun S=>kJ l S M nx K) s hk
  exact fh hE (show dU pk l=true from hp) s1 h k1
def eE (P:Program) (N pk:Nat) (lp:fx) (b:Bool) (j:Nat) (x:XC):Prop:=∀(c:Code) (S:SL) (M:T) (nx:Nat) (E:Env) (ρ:Ren) (G:GS) (F:List bh) (a:Act) (w:World) (K:KC) (Q:Exit→Act→World→Prop),fV E→gm P N x c=true→SR E ρ N S a→Sim E ρ G F M nx w→lp j S M nx K=true→
 (∀e S' M' nx' E' ρ' a' w',K e S' M' nx'=true→Rel false pk E ρ E' ρ'→SR E' ρ' N S' a'→Sim E' ρ' G F M' nx' w'→Q (OH e) a' w')→(bif b then Code.loop c else c).wp P Q a w
theorem LC (hm:P.follows .mixedOrders=true) {cf:jt} (hcf:kT P cf) {lp:fx} {lf:Nat} {fl:Bool} {pk:Nat}:∀(xc:XC) (c:Code) {S:SL} {M:T} {nx:Nat} {E:Env} {ρ:Ren} {a:Act} {w:World} {K:KC} {Q:Exit→Act→World→Prop},fV E→(fl=true→plain xc=true)→fE pk xc=true→(∀b j x,(b,j,x)∈fc xc→eE P N pk lp b j x)→gm P N xc c=true→SR E ρ N S a→Sim E ρ G F M nx w→dj cf lp lf xc S M nx K=true→
  (∀e S' M' nx' E' ρ' a' w',K e S' M' nx'=true→Rel fl pk E ρ E' ρ'→SR E' ρ' N S' a'→Sim E' ρ' G F M' nx' w'→Q (OH e) a' w')→c.wp P Q a w:=by
 intro xc
 induction xc with
 |bad=>
  intro c S M nx E ρ a w K Q hE hfl hkp hlp hc s h hk hq
  cases hk
 |skip=>
  intro c S M nx E ρ a w K Q hE hfl hkp hlp hc s h hk hq
  cases c<;>simp only[gm]at hc<;>first|(cases hc;done)|skip
  exact wp_skip (hq 0 _ _ _ _ _ _ _ hk (Ext.of hE (Ren.Le.refl _)).rel s h)
 |ret=>
  intro c S M nx E ρ a w K Q hE hfl hkp hlp hc s h hk hq
  cases c<;>simp only[gm]at hc<;>first|(cases hc;done)|skip
  exact wp_ret (hq 1 _ _ _ _ _ _ _ hk (Ext.of hE (Ren.Le.refl _)).rel s h)
 |exit k=>
  intro c S M nx E ρ a w K Q hE hfl hkp hlp hc s h hk hq
  cases c<;>simp only[gm]at hc<;>first|(cases hc;done)|skip
  have:=apz hc
  subst this
  exact wp_exit (hq _ _ _ _ _ _ _ _ hk (Ext.of hE (Ren.Le.refl _)).rel s h)
 |reg draw n tr=>
  intro c S M nx E ρ a w K Q hE hfl hkp hlp hc s h hk hq
  cases c<;>simp only[gm]at hc<;>first|(cases hc;done)|skip
  rename_i id ops d
  obtain⟨hc,c3⟩:=aU hc
  obtain⟨c1,c2⟩:=aU hc
  rw[decide_eq_true_eq]at c1
  subst c1
  cases draw with
  |true=>
   refine NP hm n _ c3 ?_
   exact KG hE hcf s h.drawn (fun S' M' nx' E' ρ' a' w' k1 k2 k3 k4=>hq 0 _ _ _ _ _ _ _ k1 k2.rel k3 k4) c2 hk
  |false=>
   cases tr with
   |split x y t u=>cases c3
   |leaf sts=>
    have hall:∀st∈sts,uU P ops N st=true:=fun st hst=>List.all_eq_true.1 c2 st hst
    obtain⟨hc,c5⟩:=aU c3
    obtain⟨c3,c4⟩:=aU hc
    rw[decide_eq_true_eq]at c5
    have c4:=apz c4
    refine wp_region ?_
    rw[c4,←c5]
    exact vp c3 (Ob hcf hE hall s h hk fun S' M' nx' E' ρ' a' w' k1 k2 k3 k4=>hq 0 _ _ _ _ _ _ _ k1 k2.rel k3 k4)
 |seq x y ihx ihy=>
  intro c S M nx E ρ a w K Q hE hfl hkp hlp hc s h hk hq
  cases c<;>simp only[gm]at hc<;>first|(cases hc;done)|skip
  obtain⟨c1,c2⟩:=aU hc
  refine wp_seq (ihx _ hE (fun q=>(aU (hfl q)).1) (aU hkp).1 (fun b j x h=>hlp b j x (List.mem_append.2 (.inl h))) c1 s h hk fun e S' M' nx' E' ρ' a' w' k1 k2 k3 k4=> ?_)
  match e,k1 with
  |0,k1=>exact ihy _ k2.one (fun q=>(aU (hfl q)).2) (aU hkp).2 (fun b j x h=>hlp b j x (List.mem_append.2 (.inr h))) c2 k3 k4 k1 fun e S2 M2 nx2 E2 ρ2 a2 w2 j1 j2=>hq e _ _ _ _ _ _ _ j1 (k2.trans j2)
  |1,k1=>exact hq 1 _ _ _ _ _ _ _ k1 k2 k3 k4
  |n+2,k1=>exact hq (n+2) _ _ _ _ _ _ _ k1 k2 k3 k4
 |cond p x y ihx ihy=>
  intro c S M nx E ρ a w K Q hE hfl hkp hlp hc s h hk hq
  cases c<;>simp only[gm]at hc<;>first|(cases hc;done)|skip
  obtain⟨hc,c3⟩:=aU hc
  obtain⟨c1,c2⟩:=aU hc
  obtain⟨b,S,h2,s,h4⟩:=agK s c1 hk
  rcases bi h4 with⟨rfl,h5⟩|⟨rfl,h5⟩
  ·exact wp_cond_true h2 (ihx _ hE (fun q=>(aU (hfl q)).1) (aU hkp).1 (fun b j x h=>hlp b j x (List.mem_append.2 (.inl h))) c2 s h h5 hq)
  ·exact wp_cond_false h2 (ihy _ hE (fun q=>(aU (hfl q)).2) (aU hkp).2 (fun b j x h=>hlp b j x (List.mem_append.2 (.inr h))) c3 s h h5 hq)
 |block k x ih=>
  intro c S M nx E ρ a w K Q hE hfl hkp hlp hc s h hk hq
  cases c<;>simp only[gm]at hc<;>first|(cases hc;done)|skip
  rename_i i cc
  obtain⟨c1,c2⟩:=aU hc
  have c1:=apz c1
  subst c1
  refine wp_block (ih _ hE hfl hkp hlp c2 s h hk fun e S' M' nx' E' ρ' a' w' k1 k2 k3 k4=> ?_)
  rcases bi k1 with⟨q,g1⟩|⟨q,g1⟩
  ·have he:=apz q
   have h0:=hq 0 _ _ _ _ _ _ _ g1 k2 k3 k4
   rw[he]
   simp only[OH,Exit.inBlock,if_true]
   exact h0
  ·have:=hq e _ _ _ _ _ _ _ g1 k2 k3 k4
   match e,q,this with
   |0,_,this=>exact this
   |1,_,this=>exact this
   |n+2,q,this=>
    have hne:¬n=i:=fun e=>by subst e;simp at q
    simp only[OH,Exit.inBlock,if_neg hne]
    exact this
 |loop live x ih=>
  intro c S M nx E ρ a w K Q hE hfl hkp hlp hc s h hk hq
  cases c<;>simp only[gm]at hc<;>first|(cases hc;done)|skip
  rename_i cc
  refine wp_loop_rounds lf ?_
  have key:∀(n:Nat) {S:SL} {M:T} {nx:Nat} {E:Env} {ρ:Ren} {a:Act} {w:World},fV E→SR E ρ N S a→Sim E ρ G F M nx w→
    (Nat.rec (motive:=fun _=>SL→T→Nat→Bool) (fun _ _ _=>false) (fun _ iG S M nx=>Mz S live .nil fun S=>dj cf lp lf x S M nx fun e S M nx=>Nat.casesOn e (iG S M nx) fun e'=>K (Nat.succ e') S M nx) n S M nx)=true→
    (∀e S' M' nx' E' ρ' a' w',K e S' M' nx'=true→Rel fl pk E ρ E' ρ'→SR E' ρ' N S' a'→Sim E' ρ' G F M' nx' w'→Q (OH e) a' w')→Code.rounds P cc Q n a w:=by
   intro n
   induction n with
   |zero=>intro S M nx E ρ a w _ _ _ hk;cases hk
   |succ n ihn=>
    intro S M nx E ρ a w hE s h hk hq
    obtain⟨S1,s1,hk1⟩:=KR s (SR.nil s.size s.defs) hk
    refine ih _ hE hfl hkp hlp hc s1 h hk1 fun e S' M' nx' E' ρ' a' w' k1 k2 k3 k4=> ?_
    match e,k1 with
    |0,k1=>exact ihn k2.one k3 k4 k1 fun e S2 M2 nx2 E2 ρ2 a2 w2 j1 j2=>hq e _ _ _ _ _ _ _ j1 (k2.trans j2)
    |1,k1=>exact hq 1 _ _ _ _ _ _ _ k1 k2 k3 k4
    |m+2,k1=>exact hq (m+2) _ _ _ _ _ _ _ k1 k2 k3 k4
  exact key lf hE s h hk hq
 |inv j x ih=>
  intro c S M nx E ρ a w K Q hE hfl hkp hlp hc s h hk hq
  cases c<;>simp only[gm]at hc<;>first|(cases hc;done)|skip
  cases fl with
  |true=>exact absurd (hfl rfl) (by simp[plain])
  |false=>exact hlp true j x (by simp[fc]) _ S M nx E ρ G F a w K Q hE hc s h hk hq
 |aft x l ih=>
  intro c S M nx E ρ a w K Q hE hfl hkp hlp hc s h hk hq
  cases fl with
  |true=>exact absurd (hfl rfl) (by simp[plain])
  |false=>
   have hc':gm P N x c=true:=by
    cases c<;>exact hc
   refine ih c hE (fun q=>by cases q) (aU hkp).1 hlp hc' s h hk fun e S' M' nx' E' ρ' a' w' k1 k2 k3 k4=> ?_
   obtain⟨S2,M2,n2,E2,ρ2,o2,m2,s2,h2,g2,p2⟩:=fh k2.one (adH (aU hkp).2) k3 k4 k1
   exact hq e S2 M2 n2 E2 ρ2 a' w' g2 (k2.trans ⟨o2,m2,fun q=>(by cases q),p2⟩) s2 h2
 |pre l x ih=>
  intro c S M nx E ρ a w K Q hE hfl hkp hlp hc s h hk hq
  cases fl with
  |true=>exact absurd (hfl rfl) (by simp[plain])
  |false=>
   have hc':gm P N x c=true:=by
    cases c<;>exact hc
   obtain⟨S2,M2,n2,E2,ρ2,o2,m2,s2,h2,g2,p2⟩:=fh (K:=fun S M nx=>dj cf lp lf x S M nx K) hE (aU hkp).1 s h hk
   exact ih c o2 (fun q=>by cases q) (aU hkp).2 hlp hc' s2 h2 g2 fun e S' M' nx' E' ρ' a' w' k1 k2 k3 k4=>hq e S' M' nx' E' ρ' a' w' k1 (Rel.trans ⟨o2,m2,fun q=>(by cases q),p2⟩ k2) k3 k4
 |spc j x ih=>
  intro c S M nx E ρ a w K Q hE hfl hkp hlp hc s h hk hq
  cases fl with
  |true=>exact absurd (hfl rfl) (by simp[plain])
  |false=>
   have hc':gm P N x c=true:=by
    cases c<;>exact hc
   exact hlp false j x (by simp[fc]) c S M nx E ρ G F a w K Q hE hc' s h hk hq
end
inductive XRes|none|one (t:Nat)|two (t u:Nat)|cell (t:Nat) (agg:Bool) (n:Nat)|ct (t:Nat) (agg:Bool) (n u:Nat)|three (t u v:Nat)|tct (t u:Nat) (agg:Bool) (n v:Nat)
inductive XF:Type 1|mk (N:Nat) (res:XRes) (body:XC)
noncomputable def Uw (r:XRes) (S:SL) (M:T) (K:AV→Bool):Bool:=XRes.casesOn r (K (.tup [])) (fun t=>nb (bz t S) K) (fun t u=>nb (bz t S) fun x=>nb (bz u S) fun y=>K (.tup [x,y])) (fun t agg n=>nb (bz t S) fun p=>MM agg n p M K) (fun t agg n u=>nb (bz t S) fun p=>MM agg n p M fun v=>nb (bz u S) fun y=>K (.tup [v,y])) (fun t u v=>nb (bz t S) fun x=>nb (bz u S) fun y=>nb (bz v S) fun z=>K (.tup [x,y,z])) (fun t u agg n v=>nb (bz t S) fun x=>nb (bz u S) fun p=>MM agg n p M fun y=>nb (bz v S) fun z=>K (.tup [x,y,z]))
noncomputable def GZ (vs:List AV):Nat→SL→(SL→Bool)→Bool:=List.rec (fun _ S K=>K S) (fun v _ ih n S K=>ih (Nat.succ n) (.cons n v S) K) vs
def Ws (P:Program) (r:XRes) (rs:List ResultVar):Bool:=match r,rs with
 |.none,[]=>true
 |.one t,[.tmp t']=>Nat.beq t t'
 |.two t u,[.tmp t',.tmp u']=>Nat.beq t t'&&Nat.beq u u'
 |.three t u v,[.tmp t',.tmp u',.tmp v']=>Nat.beq t t'&&Nat.beq u u'&&Nat.beq v v'
 |.cell t agg n,[.cell t' ty]=>Nat.beq t t'&&decide (kC P ty=some agg)&&decide (cA P ty=some n)
 |.ct t agg n u,[.cell t' ty,.tmp u']=>Nat.beq t t'&&decide (kC P ty=some agg)&&decide (cA P ty=some n)&&Nat.beq u u'
 |.tct t u agg n v,[.tmp t',.cell u' ty,.tmp v']=>Nat.beq t t'&&Nat.beq u u'&&decide (kC P ty=some agg)&&decide (cA P ty=some n)&&Nat.beq v v'
 |_,_=>false
def ic:XF→XC
 |.mk _ _ b=>b
def nOf:XF→Nat
 |.mk n _ _=>n
def bN (P:Program) (f:Nat) (xf:XF):Bool:=match xf,P.funcs[f]? with
 |.mk N res body,some fn=>(match fn.body with|some c=>Nat.beq fn.ntmps N&&Ws P res fn.results.toList&&gm P N body c|none=>false)
 |_,none=>false
abbrev fF:=List AV→T→Nat→(AV→T→Nat→Bool)→Bool
inductive ES:Type 1|mk (k:Nat) (sp:fF)
noncomputable def fP (l:List (Nat×Nat)):(List (Nat×Nat)→Bool)→Bool:=List.rec (fun K=>K []) (fun p _ ih K=>fN p.1 fun a=>fN p.2 fun b=>ih fun l=>K ((a,b)::l)) l
theorem TZ:∀{l:List (Nat×Nat)} {K:List (Nat×Nat)→Bool},fP l K=K l
 |[],K=>rfl
 |p::l,K=>by
  have:fP (p::l) K=(fN p.1 fun a=>fN p.2 fun b=>fP l fun l=>K ((a,b)::l)):=rfl
  rw[this,bY,bY,TZ]
def Wx (n:Nat) (ps:List (Nat×Nat)):Bool:=ps.all fun p=>Nat.blt p.2 n
theorem Sz {n:Nat} {ps:List (Nat×Nat)} (h:Wx n ps=true):∀p∈ps,p.2<n:=fun p hp=>by
 have:=List.all_eq_true.1 h p hp
 simpa[apV] using this
noncomputable def ace (k:Nat) (v:AV) (M:T) (K:AV→T→Nat→Bool):Bool:=fP (Oq 0 (uj M 200 (NV k (CC v)) [])) fun ps=>aa (My ps k) (aa (hX ps) (fN ps.length fun n=>aa (Wx n ps) (Ar ps M ps .leaf fun M'=>eu (fK ps v) fun v'=>K v' M' n)))
noncomputable def agJ (l:List (Nat×Nat)):T→(T→Bool)→Bool:=List.rec (fun M K=>K M) (fun p _ ih M K=>T.set bM M p.1 none fun M=>ih M K) l
noncomputable def lkB (ps:List (Nat×Nat)) (j:Nat):Nat:=List.rec 0 (fun p _ ih=>Bool.rec ih p.1 (Nat.beq p.2 j)) ps
noncomputable def anq (k nx:Nat) (ps:List (Nat×Nat)) (l:List Nat):List (Nat×Nat):=List.rec [] (fun j _ ih=>(j,Bool.rec (Nat.add nx j) (lkB ps j) (Nat.blt j k))::ih) l
def anr (k nx n:Nat) (ps qs:List (Nat×Nat)):Bool:=qs.all fun q=>Nat.blt q.1 n&&((Nat.blt q.1 k&&ps.any fun p=>Nat.beq p.1 q.2&&Nat.beq p.2 q.1)||(Nat.ble k q.1&&Nat.beq q.2 (nx+q.1)))
noncomputable def GB (k:Nat) (sp:fF) (vs:List AV) (M:T) (nx:Nat) (K:AV→T→Nat→Bool):Bool:=fP (Oq 0 (uj M 200 (Lq vs) [])) fun ps=>aa (hX ps) (fN ps.length fun n=>aa (Wx n ps) (eu (jZ ps vs) fun us=>Ar ps M ps .leaf fun Ml=>sp us Ml n fun v M' n'=>
 fP (anq k nx ps (uj M' 200 (NV k (CC v)) [])) fun qs=>aa (hX qs) (aa (anr k nx n' ps qs) (eu (fK qs v) fun v'=>agJ ps M fun M1=>Ar qs M' qs M1 fun M2=>fN (nx+n') fun n2=>K v' M2 n2))))
noncomputable def acf (tab:Nat→Option XF) (nat:Nat→List AV→Option ES) (lp:fx) (lf:Nat):Nat→jt:=Nat.rec (fun f vs M nx K=>Option.casesOn (nat f vs) false fun es=>ES.casesOn es fun k sp=>GB k sp vs M nx K) (fun _ ih f vs M nx K=>Option.casesOn (nat f vs) (eu (tab f) fun xf=>XF.casesOn xf fun N res body=>
 aa (Nat.ble (db vs) N) (GZ vs 0 .nil fun S=>dj ih lp lf body S M nx fun e S M nx=>bn (Nat.blt 1 e) false (Uw res S M fun v=>K v M nx))) fun es=>ES.casesOn es fun k sp=>GB k sp vs M nx K)
noncomputable def VN (k:Nat) (cf:jt) (lp:fx) (lf:Nat) (xf:XF) (vs:List AV) (M:T) (nx:Nat) (K:AV→T→Nat→Bool):Bool:=XF.casesOn xf fun N res body=>aa (Nat.ble (db vs) N) (GZ vs 0 .nil fun S=>dj cf lp lf body S M nx fun e S M nx=>bn (Nat.blt 1 e) false (Uw res S M fun v=>ace k v M K))
section
variable {P:Program} {E:Env} {ρ:Ren} {G:GS} {F:List bh} {M:T} {nx:Nat} {w:World} {N:Nat} {S:SL} {a:Act} {ops:Array Oper} {o:Oper} {pk:Nat}
theorem WE:∀{vs:List AV} {xs:List Value} {n:Nat} {S:SL} {K:SL→Bool},aS E ρ vs=some xs→(∀i x,xs[i]?=some x→a.tmps.getD (n+i) undef=x)→SR E ρ N S a→GZ vs n S K=true→∃S',SR E ρ N S' a∧K S'=true
 |[],xs,n,S,K,_,_,s,h=>⟨S,s,h⟩
 |v::vs,xs,n,S,K,hd,hx,s,h=>by
  obtain⟨y,ys,h1,h2,rfl⟩:=cE hd
  have h':GZ vs (Nat.succ n) (.cons n v S) K=true:=h
  refine WE h2 (fun i x hi=> ?_) ⟨s.size,s.defs,fun t=> ?_⟩ h'
  ·have:=hx (i+1) x (by simpa using hi)
   rw[show n+(i+1)=Nat.succ n+i by omega]at this
   exact this
  ·by_cases e:n=t
   ·subst e
    rw[gL]
    exact .inr ⟨y,h1,hx 0 y rfl⟩
   ·rw[lv _ _ e]
    exact s.at_ t
theorem ii (s:SR E ρ N S a) {t:Nat} {K:AV→Bool} (h:nb (bz t S) K=true):∃x,den E ρ (bz t S)=some x∧a.tmps.getD t undef=x∧K (bz t S)=true:=by
 obtain⟨h1,h2⟩:=ah2 h
 obtain⟨x,h3,h4⟩:=(s.at_ t).resolve_left h1
 exact⟨x,h3,h4,h2⟩
theorem ajr (s:SR E ρ N S a) (h:Sim E ρ G F M nx w) {fn:Func} {r:XRes} {K:AV→Bool} (hc:Ws P r fn.results.toList=true) (hk:Uw r S M K=true):∃v z,den E ρ v=some z∧K v=true∧(results fn a.tmps).run P w= .ok z w:=by
 unfold Ws at hc
 split at hc
 ·rename_i h1
  have hr:=lN h1
  exact⟨.tup [],.tuple #[],by simp[den,aS],hk,results_none hr _ _ _⟩
 ·rename_i t t' h1
  have hr:=lN h1
  have:=apz hc
  subst this
  obtain⟨x,g1,g2,g3⟩:=ii s (show nb (bz t S) K=true from hk)
  exact⟨_,x,g1,g3,by rw[results_tmp hr,g2]⟩
 ·rename_i t u t' u' h1
  have hr:=lN h1
  obtain⟨c1,c2⟩:=aU hc
  have c1:=apz c1
  have c2:=apz c2
  subst c1;subst c2
  obtain⟨x,g1,g2,g3⟩:=ii s (show nb (bz t S) (fun x=>nb (bz u S) fun y=>K (.tup [x,y]))=true from hk)
  obtain⟨y,g4,g5,g6⟩:=ii s (show nb (bz u S) (fun y=>K (.tup [bz t S,y]))=true from g3)
  exact⟨_,.tuple #[x,y],by simp only[den,aS,g1,g4],g6,by rw[results_tmp2 hr,g2,g5]⟩
 ·rename_i t u v t' u' v' h1
  have hr:=lN h1
  obtain⟨c1,c3⟩:=aU hc
  obtain⟨c1,c2⟩:=aU c1
  have c1:=apz c1
  have c2:=apz c2
  have c3:=apz c3
  subst c1;subst c2;subst c3
  obtain⟨x,g1,g2,g3⟩:=ii s (show nb (bz t S) (fun x=>nb (bz u S) fun y=>nb (bz v S) fun z=>K (.tup [x,y,z]))=true from hk)
  obtain⟨y,g4,g5,g6⟩:=ii s (show nb (bz u S) (fun y=>nb (bz v S) fun z=>K (.tup [bz t S,y,z]))=true from g3)
  obtain⟨z,g7,g8,g9⟩:=ii s (show nb (bz v S) (fun z=>K (.tup [bz t S,bz u S,z]))=true from g6)
  refine⟨_,.tuple #[x,y,z],by simp only[den,aS,g1,g4,g7],g9,?_⟩
  simp at g2 g5 g8
  simp[results,hr,g2,g5,g8]
 ·rename_i t agg n t' ty h1
  have hr:=lN h1
  obtain⟨hc,c3⟩:=aU hc
  obtain⟨c1,c2⟩:=aU hc
  rw[decide_eq_true_eq]at c2 c3
  have c1:=apz c1
  subst c1
  obtain⟨x,g1,g2,g3⟩:=ii s (show nb (bz t S) (fun p=>MM agg n p M K)=true from hk)
  have fin:∀{u:AV} {z:Value},den E ρ u=some z→K u=true→(Instr.loadAt ty x).run P w= .ok z w→∃v z,den E ρ v=some z∧K v=true∧(results fn a.tmps).run P w= .ok z w:=by
   intro u z d1 d2 d3
   refine⟨u,z,d1,d2,?_⟩
   have e1:a.tmps[t]?.getD undef=x:=by simpa using g2
   cases x with
   |pointer p=>
    cases p with
    |some ad=>
     simp only[Instr.loadAt,Instr.sureAddr,apH,Sem.run_pure,apG]at d3
     simp[results,hr,e1,asAddr,d3]
    |none=>simp[Instr.loadAt,Instr.sureAddr]at d3
   |_=>simp[Instr.loadAt,Instr.sureAddr]at d3
  obtain⟨u,z,d1,d2,d3⟩:=ML (P:=P) h g1 g3 c2 c3
  exact fin d1 d2 d3
 ·rename_i t agg n v0 t' ty u' h1
  have hr:=lN h1
  obtain⟨hc,c4⟩:=aU hc
  obtain⟨hc,c3⟩:=aU hc
  obtain⟨c1,c2⟩:=aU hc
  rw[decide_eq_true_eq]at c2 c3
  have c1:=apz c1
  subst c1
  have c4:=apz c4
  subst c4
  obtain⟨x,g1,g2,g3⟩:=ii s (show nb (bz t S) (fun p=>MM agg n p M fun v=>nb (bz v0 S) fun y=>K (.tup [v,y]))=true from hk)
  obtain⟨u,z,d1,d2,d3⟩:=ML (P:=P) h g1 g3 c2 c3
  obtain⟨y,e1,e2,e3⟩:=ii s d2
  refine⟨_,.tuple #[z,y],by simp only[den,aS,d1,e1],e3,?_⟩
  rw[results_cell_tmp hr,g2,e2]
  cases x with
  |pointer p=>
   cases p with
   |some ad=>
    simp only[Instr.loadAt,Instr.sureAddr,apH,Sem.run_pure,apG]at d3
    simp[asAddr,d3]
   |none=>simp[Instr.loadAt,Instr.sureAddr]at d3
  |_=>simp[Instr.loadAt,Instr.sureAddr]at d3
 ·rename_i t u0 agg n v0 t' u' ty v' h1
  have hr:=lN h1
  obtain⟨hc,c5⟩:=aU hc
  obtain⟨hc,c4⟩:=aU hc
  obtain⟨hc,c3⟩:=aU hc
  obtain⟨c1,c2⟩:=aU hc
  rw[decide_eq_true_eq]at c3 c4
  have c1:=apz c1
  have c2:=apz c2
  have c5:=apz c5
  subst c1;subst c2;subst c5
  obtain⟨x0,f1,f2,f3⟩:=ii s (show nb (bz t S) (fun x=>nb (bz u0 S) fun p=>MM agg n p M fun y=>nb (bz v0 S) fun z=>K (.tup [x,y,z]))=true from hk)
  obtain⟨x,g1,g2,g3⟩:=ii s (show nb (bz u0 S) (fun p=>MM agg n p M fun y=>nb (bz v0 S) fun z=>K (.tup [bz t S,y,z]))=true from f3)
  obtain⟨u,z,d1,d2,d3⟩:=ML (P:=P) h g1 g3 c3 c4
  obtain⟨y,e1,e2,e3⟩:=ii s d2
  refine⟨_,.tuple #[x0,z,y],by simp only[den,aS,f1,d1,e1],e3,?_⟩
  cases x with
  |pointer p=>
   cases p with
   |some ad=>
    simp only[Instr.loadAt,Instr.sureAddr,apH,Sem.run_pure,apG]at d3
    simp at f2 g2 e2
    simp[results,hr,f2,g2,e2,asAddr,d3]
   |none=>simp[Instr.loadAt,Instr.sureAddr]at d3
  |_=>simp[Instr.loadAt,Instr.sureAddr]at d3
 ·cases hc
theorem Ux:∀{ps l:List (Nat×Nat)} {M acc:T} {K:T→Bool},Ar ps M l acc K=true→∀p∈l,∃o,M.get p.1=some o
 |ps,[],M,acc,K,h,p,hp=>by simp at hp
 |ps,q::l,M,acc,K,h,p,hp=>by
  have h':(eu (M.get q.1) fun o=>eu (gC ps o) fun o'=>T.set bM acc q.2 (some o') fun acc=>Ar ps M l acc K)=true:=h
  obtain⟨o,h1,h2⟩:=ci h'
  obtain⟨o',h3,h4⟩:=ci h2
  obtain⟨acc',h5,s1,s2⟩:=T.set_ok _ _ _ _ _ h4
  rcases List.mem_cons.1 hp with rfl|hp
  ·exact⟨o,h1⟩
  ·exact Ux h5 p hp
theorem Qd:∀{ps l:List (Nat×Nat)} {M M1 acc:T} {K:T→Bool},(∀j o,acc.get j=some o→(∃i o0,(i,j)∈ps∧M.get i=some o0∧gC ps o0=some o)∨M1.get j=some o)→(∀p∈l,p∈ps)→Ar ps M l acc K=true→
  ∃M',K M'=true∧∀j o,M'.get j=some o→(∃i o0,(i,j)∈ps∧M.get i=some o0∧gC ps o0=some o)∨M1.get j=some o
 |ps,[],M,M1,acc,K,ha,_,h=>⟨acc,h,ha⟩
 |ps,p::l,M,M1,acc,K,ha,hl,h=>by
  have h':(eu (M.get p.1) fun o=>eu (gC ps o) fun o'=>T.set bM acc p.2 (some o') fun acc=>Ar ps M l acc K)=true:=h
  obtain⟨o,h1,h2⟩:=ci h'
  obtain⟨o',h3,h4⟩:=ci h2
  obtain⟨acc',h5,s1,s2⟩:=T.set_ok _ _ _ _ _ h4
  refine Qd (fun j ob hj=> ?_) (fun q hq=>hl q (by simp[hq])) h5
  by_cases e:j=p.2
  ·subst e
   rw[s1]at hj
   cases hj
   exact .inl ⟨p.1,o,hl p (by simp),h1,h3⟩
  ·rw[s2 j e]at hj
   exact ha j ob hj
theorem Zn:∀{l:List (Nat×Nat)} {M:T} {K:T→Bool},agJ l M K=true→∃M',K M'=true∧(∀j o,M'.get j=some o→M.get j=some o∧∀p∈l,p.1≠j)
 |[],M,K,h=>⟨M,h,fun j o hj=>⟨hj,fun p hp=>by simp at hp⟩⟩
 |p::l,M,K,h=>by
  have h':(T.set bM M p.1 none fun M=>agJ l M K)=true:=h
  obtain⟨M1,h1,s1,s2⟩:=T.set_ok _ _ _ _ _ h'
  obtain⟨M2,h2,h3⟩:=Zn h1
  refine⟨M2,h2,fun j o hj=> ?_⟩
  obtain⟨q1,q2⟩:=h3 j o hj
  have hne:p.1≠j:=fun e=>by rw[←e,s1]at q1;cases q1
  refine⟨by rw[←s2 j (fun e=>hne e.symm)];exact q1,fun r hr=> ?_⟩
  rcases List.mem_cons.1 hr with rfl|hr
  ·exact hne
  ·exact q2 r hr
theorem ajx {k nx n:Nat} {ps qs:List (Nat×Nat)} (h:anr k nx n ps qs=true):∀q∈qs,q.1<n∧((q.1<k∧(q.2,q.1)∈ps)∨(k≤q.1∧q.2=nx+q.1)):=fun q hq=>by
 have:=List.all_eq_true.1 h q hq
 simp only[apP,Bool.or_eq_true,apV,Nat.ble_eq]at this
 obtain⟨h1,h2⟩:=this
 refine⟨h1,?_⟩
 rcases h2 with⟨h2,h3⟩|⟨h2,h3⟩
 ·obtain⟨p,q1,q2⟩:=List.any_eq_true.1 h3
  simp only[apP]at q2
  have e1:=apz q2.1
  have e2:=apz q2.2
  have:p=(q.2,q.1):=by cases p;simp_all
  rw[this]at q1
  exact .inl ⟨h2,q1⟩
 ·exact .inr ⟨h2,apz h3⟩
theorem akq (h:Sim E ρ G F M nx w) {k:Nat} {v:AV} {x:Value} {K:AV→T→Nat→Bool} (hd:den E ρ v=some x) (hk:ace k v M K=true):
  ∃v' M' n' ρ',Sim E ρ' G F M' n' w∧den E ρ' v'=some x∧K v' M' n'=true∧∀i e,i<k→ρ i=some e→ρ' i=some e:=by
 unfold ace at hk
 rw[TZ]at hk
 generalize Oq 0 (uj M 200 (NV k (CC v)) [])=ps at hk
 obtain⟨h1,hk⟩:=aj hk
 obtain⟨h2,hk⟩:=aj hk
 rw[bY]at hk
 obtain⟨h3,hk⟩:=aj hk
 obtain⟨M',h4,h5⟩:=Gu (ps:=ps) (fun j o hj=>by simp[T.get_leaf]at hj) (fun p hp=>hp) hk
 obtain⟨v',h6,h7⟩:=ci h4
 exact⟨v',M',_,lL ps ρ,h.ren h2 (Sz h3) h5,oI h2 _ _ _ h6 hd,h7,fun i e q1 q2=>by rw[ef h2 (KQ h1 i q1)];exact q2⟩
def dH (P:Program) (f k:Nat) (sp:fF):Prop:=∀(us:List AV) (xs:List Value) (E:Env) (ρ:Ren) (G:GS) (F:List bh) (M:T) (nx:Nat) (w:World) (K:AV→T→Nat→Bool) (R:Ending→World→Prop),fV E→Sim E ρ G F M nx w→aS E ρ us=some xs→sp us M nx K=true→
 (∀v M' nx' E' ρ' w' z,K v M' nx'=true→fV E'→MLe E.M E'.M→(∀i e,i<k→ρ i=some e→ρ' i=some e)→Sim E' ρ' G F M' nx' w'→den E' ρ' v=some z→R (.returned z) w')→Calls P f xs.toArray w R
theorem UX {f k:Nat} {sp:fF} (hn:dH P f k sp) {vs:List AV} {xs:List Value} {K:AV→T→Nat→Bool} {R:Ending→World→Prop} (hE:fV E) (h:Sim E ρ G F M nx w) (hd:aS E ρ vs=some xs) (hk:GB k sp vs M nx K=true)
  (hr:∀v M' nx' E' ρ' w' z,K v M' nx'=true→Ext E ρ E' ρ'→Sim E' ρ' G F M' nx' w'→den E' ρ' v=some z→R (.returned z) w'):Calls P f xs.toArray w R:=by
 classical
 unfold GB at hk
 rw[TZ]at hk
 generalize Oq 0 (uj M 200 (Lq vs) [])=ps at hk
 obtain⟨h1,hk⟩:=aj hk
 rw[bY]at hk
 obtain⟨h2,hk⟩:=aj hk
 have h2:=Sz h2
 obtain⟨us,h3,hk⟩:=ci hk
 have hall:=Ux hk
 obtain⟨Ml,hsp,hMl⟩:=Gu (ps:=ps) (fun j o hj=>by simp[T.get_leaf]at hj) (fun p hp=>hp) hk
 obtain⟨c,hh,hob,hinj⟩:=h.ex
 let B:Nat×Obj→Bool:=fun q=>decide (∃p∈ps,∃e o,ρ p.1=some e∧e.b=q.1∧M.get p.1=some o∧cU e o=true)
 have hB:∀q:Nat×Obj,B q=true↔∃p∈ps,∃e o,ρ p.1=some e∧e.b=q.1∧M.get p.1=some o∧cU e o=true:=fun q=>by simp only[B,decide_eq_true_eq]
 have hh1:Holds {G with M:=E.M} w (c.filter B::c.filter (fun q=> !B q)::F):=hh.perm (by
  simp only[apB,←List.append_assoc]
  exact(List.filter_append_perm B c).append_right _)
 have hs:Sim E (lL ps ρ) G (c.filter (fun q=> !B q)::F) Ml ps.length w:=by
  refine⟨⟨c.filter B,hh1,fun j o hj=> ?_,fun j k e f o o' hj hk he hf hb1 hb2 hb=> ?_⟩,h.mem,fun j hj=> ?_⟩
  ·obtain⟨i,o0,g1,g2,g3⟩:=hMl j o hj
   obtain⟨e,a1,q⟩:=hob i o0 g2
   have hHB:=gI (e:=e) g3
   refine⟨e,by rw[ef h1 g1];exact a1,?_⟩
   rcases q with⟨q1,ob,q2,q3⟩|⟨q1,q2⟩
   ·exact .inl ⟨by rw[hHB.1];exact q1,ob,List.mem_filter.2 ⟨q2,(hB _).2 ⟨(i,j),g1,e,o0,a1,rfl,g2,q1⟩⟩,KO h1 g3 q3⟩
   ·exact .inr ⟨by rw[hHB.1];exact q1,hHB.2 q2⟩
  ·obtain⟨i,o0,g1,g2,g3⟩:=hMl j o hj
   obtain⟨i',o1,f1,f2,f3⟩:=hMl k o' hk
   rw[ef h1 g1]at he
   rw[ef h1 f1]at hf
   rw[(gI (e:=e) g3).1]at hb1
   rw[(gI (e:=f) f3).1]at hb2
   have:=hinj i i' e f o0 o1 g2 f2 he hf hb1 hb2 hb
   subst this
   exact BX h1 g1 f1
  ·unfold lL
   split
   ·rename_i p hp
    have q1:=List.mem_of_find?_eq_some hp
    have q2:=List.find?_some hp
    have:=apz q2
    have:=h2 p q1
    omega
   ·rfl
 refine hn us xs E (lL ps ρ) G _ Ml _ w _ R hE hs (rv h1 _ _ _ h3 hd) hsp fun v M' n' E' ρ' w' z kv hE' hm hpin hs' hz=> ?_
 rw[TZ]at kv
 generalize anq k nx ps (uj M' 200 (NV k (CC v)) [])=qs at kv
 obtain⟨g1,kv⟩:=aj kv
 obtain⟨g2,kv⟩:=aj kv
 have g2:=ajx g2
 obtain⟨v',g3,kv⟩:=ci kv
 obtain⟨M1,kv,hM1⟩:=Zn kv
 obtain⟨M2,kv,hM2⟩:=Qd (M1:=M1) (fun j o hj=>.inr hj) (fun p hp=>hp) kv
 rw[bY]at kv
 obtain⟨c',hh',hob',hinj'⟩:=hs'.ex
 let ρo:Ren:=fun i=>if i<nx then ρ i else ρ' (i - nx)
 have lt:∀i e,ρ i=some e→i<nx:=fun i e q=>by
  by_cases q1:i<nx
  ·exact q1
  ·rw[h.fresh i (by omega)]at q;cases q
 have hle:ρ.Le ρo:=fun i e q=>by simp only[ρo,if_pos (lt i e q)];exact q
 have hq:∀j i,(j,i)∈qs→∀e,ρ' j=some e→ρo i=some e:=fun j i hji e he=>by
  obtain⟨q1,⟨q2,q3⟩|⟨q2,q3⟩⟩:=g2 _ hji
  ·obtain⟨o,ho⟩:=hall _ q3
   obtain⟨e0,a1,_⟩:=hob _ _ ho
   have:=hpin j e0 q2 (by rw[ef h1 q3];exact a1)
   rw[this]at he
   cases he
   exact hle _ _ a1
  ·simp only at q2 q3
   have:¬i<nx:=by omega
   simp only[ρo,if_neg this]
   rw[show i - nx=j by omega];exact he
 have hrle:(lL qs ρ').Le ρo:=fun i e q=>by
  unfold lL at q
  split at q
  ·rename_i p hp
   have q1:=List.mem_of_find?_eq_some hp
   have q2:=List.find?_some hp
   have q2:=apz q2
   subst q2
   exact hq p.1 p.2 q1 e q
  ·cases q
 have hEE:Kx ρ E ⟨E.at_,E'.M⟩:=⟨fun _ _ _=>rfl,hm⟩
 refine hr v' M2 (nx+n') ⟨E.at_,E'.M⟩ ρo w' z kv ⟨hEE,hle,hE.1,hE'.2⟩ ⟨⟨c'++c.filter (fun q=> !B q),?_,fun id o hid=> ?_,fun i j e f o o' hi hj he hf hb1 hb2 hb=> ?_⟩,hs'.mem,fun i hi=> ?_⟩ (jh hrle _ _ (oI g1 _ _ _ g3 hz))
 ·exact hh'.perm (by simp)
 ·rcases hM2 id o hid with⟨j,o0,p1,p2,p3⟩|p1
  ·obtain⟨e,a1,q⟩:=hob' j o0 p2
   have hHB:=gI (e:=e) p3
   refine⟨e,hq j id p1 e a1,?_⟩
   rcases q with⟨q1,ob,q2,q3⟩|⟨q1,q2⟩
   ·exact .inl ⟨by rw[hHB.1];exact q1,ob,List.mem_append.2 (.inl q2),(KO (t2:=E.at_) g1 p3 q3).mono hrle⟩
   ·exact .inr ⟨by rw[hHB.1];exact q1,hHB.2 q2⟩
  ·obtain⟨q1,q2⟩:=hM1 id o p1
   obtain⟨e,a1,q⟩:=hob id o q1
   refine⟨e,hle _ _ a1,?_⟩
   rcases q with⟨r1,ob,r2,r3⟩|r
   ·refine .inl ⟨r1,ob,List.mem_append.2 (.inr (List.mem_filter.2 ⟨r2,?_⟩)),(r3.env hEE).mono hle⟩
    have:¬B (e.b,ob)=true:=fun hb=>by
     obtain⟨p,s1,e2,o2,s2,s3,s4,s5⟩:=(hB _).1 hb
     exact q2 p s1 (hinj p.1 id e2 e o2 o s4 q1 s2 a1 s5 r1 s3)
    simpa using this
   ·exact .inr r
 ·have nd:=hh'.nodup
  simp only[apB,List.map_append]at nd
  have ap:∀b,b∈c'.map (·.1)→b∈(c.filter fun q=> !B q).map (·.1)→False:=fun b b1 b2=>
   (List.nodup_append.1 nd).2.2 b b1 b (List.mem_append.2 (.inl b2)) rfl
  have blkN:∀id o e,(∃j o0,(j,id)∈qs∧M'.get j=some o0∧gC qs o0=some o)→ρo id=some e→cU e o=true→e.b∈c'.map (·.1):=by
   rintro id o e ⟨j,o0,p1,p2,p3⟩ he hb
   obtain⟨e2,a1,q⟩:=hob' j o0 p2
   have:=hq j id p1 e2 a1
   rw[this]at he;cases he
   rcases q with⟨q1,ob,q2,q3⟩|⟨q1,q2⟩
   ·exact List.mem_map.2 ⟨_,q2,rfl⟩
   ·rw[(gI (e:=e) p3).1,q1]at hb;cases hb
  have blkO:∀id o e,M1.get id=some o→ρo id=some e→cU e o=true→e.b∈(c.filter fun q=> !B q).map (·.1):=by
   intro id o e p1 he hb
   obtain⟨q1,q2⟩:=hM1 id o p1
   obtain⟨e2,a1,q⟩:=hob id o q1
   rw[hle _ _ a1]at he;cases he
   rcases q with⟨r1,ob,r2,r3⟩|⟨r1,r2⟩
   ·refine List.mem_map.2 ⟨_,List.mem_filter.2 ⟨r2,?_⟩,rfl⟩
    have:¬B (e.b,ob)=true:=fun hb=>by
     obtain⟨p,s1,e3,o2,s2,s3,s4,s5⟩:=(hB _).1 hb
     exact q2 p s1 (hinj p.1 id e3 e o2 o s4 q1 s2 a1 s5 r1 s3)
    simpa using this
   ·rw[r1]at hb;cases hb
  rcases hM2 i o hi with m1|m1<;>rcases hM2 j o' hj with m2|m2
  ·obtain⟨j1,o1,p1,p2,p3⟩:=m1
   obtain⟨j2,o2,r1,r2,r3⟩:=m2
   obtain⟨e1,a1,_⟩:=hob' j1 o1 p2
   obtain⟨e2,a2,_⟩:=hob' j2 o2 r2
   have x1:=hq _ _ p1 _ a1
   have x2:=hq _ _ r1 _ a2
   rw[x1]at he;cases he
   rw[x2]at hf;cases hf
   rw[(gI (e:=e) p3).1]at hb1
   rw[(gI (e:=f) r3).1]at hb2
   have:=hinj' j1 j2 e f o1 o2 p2 r2 a1 a2 hb1 hb2 hb
   subst this
   exact BX g1 p1 r1
  ·exact(ap _ (blkN i o e m1 he hb1) (by rw[hb];exact blkO j o' f m2 hf hb2)).elim
  ·exact(ap _ (blkN j o' f m2 hf hb2) (by rw[←hb];exact blkO i o e m1 he hb1)).elim
  ·obtain⟨q1,_⟩:=hM1 i o m1
   obtain⟨q2,_⟩:=hM1 j o' m2
   obtain⟨e1,a1,_⟩:=hob i o q1
   obtain⟨e2,a2,_⟩:=hob j o' q2
   rw[hle _ _ a1]at he;cases he
   rw[hle _ _ a2]at hf;cases hf
   exact hinj i j e f o o' q1 q2 a1 a2 hb1 hb2 hb
 ·have:¬i<nx:=by omega
  simp only[ρo,if_neg this]
  exact hs'.fresh _ (by omega)
theorem YB (hm:P.follows .mixedOrders=true) {cf:jt} (hcf:kT P cf) {lp:fx} {lf:Nat} {fl:Bool} {pk:Nat} {f N:Nat} {res:XRes} {body:XC} (hf:bN P f (.mk N res body)=true) (hfl:fl=true→plain body=true) (hkp:fE pk body=true) (hlp:∀b j x,(b,j,x)∈fc body→eE P N pk lp b j x)
  {vs:List AV} {xs:List Value} (hE:fV E) (h:Sim E ρ G F M nx w) (hd:aS E ρ vs=some xs) {K:AV→T→Nat→Bool} {R:Ending→World→Prop}
  (h2:aa (Nat.ble (db vs) N) (GZ vs 0 .nil fun S=>dj cf lp lf body S M nx fun e S M nx=>bn (Nat.blt 1 e) false (Uw res S M fun v=>K v M nx))=true)
  (hr:∀v M' nx' E' ρ' w' z,K v M' nx'=true→Rel fl pk E ρ E' ρ'→Sim E' ρ' G F M' nx' w'→den E' ρ' v=some z→R (.returned z) w'):Calls P f xs.toArray w R:=by
 unfold bN at hf
 split at hf
 case h_2=>cases hf
 rename_i N' res' body' fn hx hfn
 cases hx
 split at hf
 case h_2=>cases hf
 rename_i c hb
 obtain⟨hf,c3⟩:=aU hf
 obtain⟨c1,c2⟩:=aU hf
 have c1:=apz c1
 obtain⟨h3,h4⟩:=aj h2
 rw[Nat.ble_eq,cw]at h3
 have hlen:=cL hd
 refine calls_of_wp hfn hb ?_
 have hsz:(xs.toArray++Array.replicate (fn.ntmps - xs.toArray.size) undef).size=N:=by simp;omega
 obtain⟨S,s,h5⟩:=WE (a:={tmps:=xs.toArray++Array.replicate (fn.ntmps - xs.toArray.size) undef,defers:=[]}) (N:=N) hd (fun i x hi=>by
  have hlt:=(List.getElem?_eq_some_iff.1 hi).1
  have hv:=(List.getElem?_eq_some_iff.1 hi).2
  simp only[Nat.zero_add,Array.getD,hsz]
  rw[dif_pos (by omega)]
  simp[Array.getElem_append,hlt,hv]) (SR.nil hsz rfl) h4
 refine LC hm hcf body c hE hfl hkp hlp c3 s h h5 fun e S' M' nx' E' ρ' a' w' k1 k2 k3 k4=> ?_
 rcases bi k1 with⟨_,g1⟩|⟨q,g1⟩
 ·cases g1
 ·obtain⟨v,z,r1,r2,r3⟩:=ajr k3 k4 c2 g1
  have hR:=hr v M' nx' E' ρ' w' z r2 k2 k4 r1
  match e,q with
  |0,_=>exact⟨k3.defs,z,r3,hR⟩
  |1,_=>exact⟨k3.defs,z,r3,hR⟩
  |n+2,q=>
   have:Nat.blt 1 (n+2)=true:=by rw[apV];omega
   rw[this]at q;cases q
theorem Wu (hm:P.follows .mixedOrders=true) {tab:Nat→Option XF} {nat:Nat→List AV→Option ES} {lp:fx} {lf:Nat} (htab:∀f xf,tab f=some xf→bN P f xf=true∧plain (ic xf)=true) (hnat:∀f vs k sp,nat f vs=some (.mk k sp)→dH P f k sp):∀d,kT P (acf tab nat lp lf d)
 |0=>by
  intro f vs M nx K E ρ G F w xs R hE h hd hk hr
  have hk':(Option.casesOn (nat f vs) false fun es=>ES.casesOn es fun k sp=>GB k sp vs M nx K:Bool)=true:=hk
  rcases e:nat f vs with _|⟨k,sp⟩
  ·rw[e]at hk';cases hk'
  ·rw[e]at hk'
   exact UX (hnat f vs k sp e) hE h hd hk' hr
 |d+1=>by
  intro f vs M nx K E ρ G F w xs R hE h hd hk hr
  have hk':(Option.casesOn (nat f vs) (eu (tab f) fun xf=>XF.casesOn xf fun N res body=>
   aa (Nat.ble (db vs) N) (GZ vs 0 .nil fun S=>dj (acf tab nat lp lf d) lp lf body S M nx fun e S M nx=>bn (Nat.blt 1 e) false (Uw res S M fun v=>K v M nx))) fun es=>ES.casesOn es fun k sp=>GB k sp vs M nx K:Bool)=true:=hk
  rcases e:nat f vs with _|⟨k,sp⟩
  ·rw[e]at hk'
   obtain⟨xf,h1,h2⟩:=ci hk'
   obtain⟨hf,hp⟩:=htab f xf h1
   obtain⟨N,res,body⟩:=xf
   have hno:∀{x:XC},plain x=true→fc x=[]:=by
    intro x
    induction x with
    |seq x y ihx ihy=>intro q;obtain⟨q1,q2⟩:=aU (show(plain x&&plain y)=true from q);simp[fc,ihx q1,ihy q2]
    |cond p x y ihx ihy=>intro q;obtain⟨q1,q2⟩:=aU (show(plain x&&plain y)=true from q);simp[fc,ihx q1,ihy q2]
    |block k x ih=>exact fun q=>ih q
    |loop l x ih=>exact fun q=>ih q
    |inv=>intro q;cases q
    |aft=>intro q;cases q
    |pre=>intro q;cases q
    |spc=>intro q;cases q
    |_=>intro _;rfl
   have hk0:∀{x:XC},plain x=true→fE 0 x=true:=by
    intro x
    induction x with
    |seq x y ihx ihy=>intro q;obtain⟨q1,q2⟩:=aU (show(plain x&&plain y)=true from q);simp[fE,ihx q1,ihy q2]
    |cond p x y ihx ihy=>intro q;obtain⟨q1,q2⟩:=aU (show(plain x&&plain y)=true from q);simp[fE,ihx q1,ihy q2]
    |block k x ih=>exact fun q=>ih q
    |loop l x ih=>exact fun q=>ih q
    |inv=>intro q;cases q
    |aft=>intro q;cases q
    |pre=>intro q;cases q
    |spc=>intro q;cases q
    |_=>intro _;rfl
   exact YB (fl:=true) (pk:=0) hm (Wu hm htab hnat d) hf (fun _=>hp) (hk0 hp) (fun b j x q=>by rw[hno (x:=body) hp]at q;cases q) hE h hd h2 fun v M' nx' E' ρ' w' z q1 q2=>hr v M' nx' E' ρ' w' z q1 (q2.ext rfl)
  ·rw[e]at hk'
   exact UX (hnat f vs k sp e) hE h hd hk' hr
theorem ajI (hm:P.follows .mixedOrders=true) {cf:jt} (hcf:kT P cf) {lp:fx} {lf f k:Nat} {xf:XF} {sp:fF} (hf:bN P f xf=true) (hkp:fE k (ic xf)=true) (hlp:∀b j x,(b,j,x)∈fc (ic xf)→eE P (nOf xf) k lp b j x) (hrun:∀us M nx K,sp us M nx K=true→VN k cf lp lf xf us M nx K=true):dH P f k sp:=by
 intro us xs E ρ G F M nx w K R hE hs hd hk hr
 obtain⟨N,res,body⟩:=xf
 refine YB (fl:=false) (pk:=k) (K:=fun v M _=>ace k v M K) (G:=G) hm hcf hf (fun q=>by cases q) hkp hlp hE hs hd (hrun us M nx K hk) fun v M' nx' E' ρ' w' z q1 q2 q3 q4=> ?_
 obtain⟨v2,M2,n2,ρ2,f1,f2,f3,f4⟩:=akq q3 q4 q1
 exact hr v2 M2 n2 E' ρ2 w' z f3 q2.one q2.mem (fun i e i1 i2=>f4 i e i1 (q2.pin i e i1 i2)) f1 f2
theorem js (hm:P.follows .mixedOrders=true) {cf:jt} (hcf:kT P cf) {lp:fx} {lf j:Nat} {x:XC} (hkp:fE pk x=true) {α:Type _} (I:α→SL×T×Nat) (μ:α→Nat) (spec:α→KC→Bool) (hlp:∀b j' x',(b,j',x')∈fc x→eE P N pk lp b j' x')
  (hj:∀S M nx K,lp j S M nx K=true→∃p,(S,M,nx)=I p∧spec p K=true)
  (hbody:∀p K,spec p K=true→dj cf lp lf x (I p).1 (I p).2.1 (I p).2.2 (fun e S M nx=>Nat.casesOn e (aM fun p'=>aa (aN ((S,M,nx)=I p'∧μ p'<μ p)) (spec p' K)) (fun e'=>K (Nat.succ e') S M nx))=true):eE P N pk lp true j x:=by
 intro c S M nx E ρ G F a w K Q hE hc s h hk hq
 obtain⟨p,hp,hs⟩:=hj S M nx K hk
 have key:∀(n:Nat) (p:α),μ p<n→∀{S:SL} {M:T} {nx:Nat} {E:Env} {ρ:Ren} {a:Act} {w:World},(S,M,nx)=I p→spec p K=true→fV E→SR E ρ N S a→Sim E ρ G F M nx w→
   (∀e S' M' nx' E' ρ' a' w',K e S' M' nx'=true→Rel false pk E ρ E' ρ'→SR E' ρ' N S' a'→Sim E' ρ' G F M' nx' w'→Q (OH e) a' w')→Code.rounds P c Q n a w:=by
  intro n
  induction n with
  |zero=>intro p hn;omega
  |succ n ih=>
   intro p hn S M nx E ρ a w hI hs hE s h hq
   have hb:=hbody p K hs
   rw[←hI]at hb
   refine LC (fl:=false) hm hcf x c hE (fun q=>by cases q) hkp hlp hc s h hb fun e S' M' nx' E' ρ' a' w' k1 k2 k3 k4=> ?_
   match e,k1 with
   |0,k1=>
    obtain⟨p',k5⟩:=cd k1
    obtain⟨⟨k6,k7⟩,k8⟩:=ai k5
    exact ih p' (by omega) k6 k8 k2.one k3 k4 fun e S2 M2 nx2 E2 ρ2 a2 w2 j1 j2=>hq e _ _ _ _ _ _ _ j1 (k2.trans j2)
   |1,k1=>exact hq 1 _ _ _ _ _ _ _ k1 k2 k3 k4
   |m+2,k1=>exact hq (m+2) _ _ _ _ _ _ _ k1 k2 k3 k4
 exact wp_loop_rounds (μ p+1) (key (μ p+1) p (Nat.lt_succ_self _) hp hs hE s h hq)
theorem Gt (hm:P.follows .mixedOrders=true) {cf:jt} (hcf:kT P cf) {lp:fx} {lf j:Nat} {x:XC} (hkp:fE pk x=true) (hlp:∀b j' x',(b,j',x')∈fc x→eE P N pk lp b j' x') (hrun:∀S M nx K,lp j S M nx K=true→dj cf lp lf x S M nx K=true):eE P N pk lp false j x:=by
 intro c S M nx E ρ G F a w K Q hE hc s h hk hq
 exact LC (fl:=false) hm hcf x c hE (fun q=>by cases q) hkp hlp hc s h (hrun S M nx K hk) hq
end
noncomputable def shp (v:AV):Nat:=AV.casesOn v 0 (fun _ _=>1) (fun _=>2) (fun _=>3) (fun _ _=>4) (fun _ _ _ _=>5) (fun _=>6) 7 8 9 10 11 (fun _ _=>12) (fun _ _=>13) (fun _=>14) (fun _=>15) (fun _=>16) (fun _=>17) (fun s=>SY.casesOn s (fun _ _=>20) (fun _=>21) (fun _=>22) (fun _ _ _ _ _=>23) (fun _ _ _=>24) (fun _ _=>25) (fun _ _ _ _ _ _=>26) (fun _ _ _ _=>27) (fun _ _ _=>28) (fun _=>29))
noncomputable def aoX (vs:List AV) (n:Nat):Nat:=Option.casesOn (fb vs n) 0 shp
noncomputable def apd (vs:List AV) (l:List (Nat×Nat)):Bool:=List.rec true (fun p _ ih=>Bool.rec false ih (Nat.beq (aoX vs p.1) p.2)) l
noncomputable def Ls (f g:Nat) (vs:List AV) (l:List (Nat×Nat)):Bool:=Bool.rec false (apd vs l) (Nat.beq f g)
theorem US {P:Program} {f g k k0:Nat} {vs:List AV} {sp sp0:fF} {rest:Option ES} {l:List (Nat×Nat)} (h0:dH P g k0 sp0) (hr:rest=some (.mk k sp)→dH P f k sp) (h:(Bool.rec rest (some (ES.mk k0 sp0)) (Ls f g vs l):Option ES)=some (.mk k sp)):dH P f k sp:=by
 cases hb:Ls f g vs l with
 |false=>rw[hb]at h;exact hr h
 |true=>
  rw[hb]at h
  cases h
  unfold Ls at hb
  cases he:Nat.beq f g with
  |false=>rw[he]at hb;cases hb
  |true=>rw[apz he];exact h0
theorem dh {P:Program} {N k:Nat} {lp:fx} {b b0:Bool} {j j0:Nat} {x x0:XC} {l:List (Bool×Nat×XC)} (h0:eE P N k lp b0 j0 x0) (hr:(b,j,x)∈l→eE P N k lp b j x) (h:(b,j,x)∈(b0,j0,x0)::l):eE P N k lp b j x:=by
 rcases List.mem_cons.1 h with e|h
 ·injection e with e1 e2
  injection e2 with e3 e4
  subst e1;subst e3;subst e4
  exact h0
 ·exact hr h
theorem ax {p:Prop} {x y:Bool} (hp:p) (h:bn (aN p) x y=true):x=true:=by
 rcases jC h with⟨_,h⟩|⟨q,_⟩
 ·exact h
 ·exact absurd hp q
end Go.Sy
namespace Go.Proofs.YtjhpjjbnojbikaaGreat
open Go Go.RowKit Go.Shelf
attribute [local go_sem] Oper.semAt_some
structure Keep (ok:Nat→Prop) (W W':World):Prop where
 size:W.heap.size≤W'.heap.size
 block:∀k,ok k→k<W.heap.size→W'.heap[k]?=W.heap[k]?
theorem Keep.refl (ok:Nat→Prop) (W:World):Keep ok W W:=⟨apM _,fun _ _ _=>rfl⟩
theorem Keep.trans {ok:Nat→Prop} {A B C:World} (h:Keep ok A B) (k:Keep ok B C):Keep ok A C:=⟨Nat.le_trans h.size k.size,fun b hb hs=>(k.block b hb (Nat.lt_of_lt_of_le hs h.size)).trans (h.block b hb hs)⟩
theorem Keep.of {ok:Nat→Prop} {A B:World} (h:Below A.heap.size A B):Keep ok A B:=⟨h.size,fun b _ hs=>h.block b hs⟩
theorem Keep.cell {ok:Nat→Prop} {A B:World} (h:Keep ok A B) {p:Addr} (hb:ok p.block) (hs:p.block<A.heap.size):B.cell? p=A.cell? p:=World.cell?_of_block (h.block _ hb hs)
theorem Keep.put {ok:Nat→Prop} {w:World} (hn:∀b,ok b→b<w.heap.size) (W:World) (l:Nat) (o o':Obj) (hl:w.heap.size≤l) (h:W.heap[l]?=some o) (_:o.isCells=false) (_:o.isWalk=false):Keep ok W (W.putObj l o'):=
 ⟨(grownBy_putObj' W l o').size,fun b hb hs=>(grownBy_putObj' W l o').block b hs (fun e=>by have:=hn b hb;cases e;omega)⟩
set_option maxRecDepth 100000 in
set_option maxHeartbeats 1000000 in
theorem aeJ (l Ba Bb bv off cap gs:Nat) (ok:Nat→Prop) (lbs:Array Value) (zs:List (Int×Int)) (f:Int×Int→Bool) (hb:ok bv) (hBa:ok Ba) (hBb:ok Bb) (hlen:zs.length≤1000) (hgs:gs=160∨gs=176) (J Jx:List (Int×Int)→World→Prop)
  (hY:∀pre x W,J pre W→pre.length<zs.length→YieldAt Fence.wide 3 Tryz.prog l #[.agg #[.int .u8 x.1,.int .u16 x.2]] W fun e W'=>
   (e= .returned (.bool true)∧J (pre++[x]) W'∧Keep ok W W')∨(e= .returned (.bool false)∧Jx (pre++[x]) W'))
  (W:World) (hJ:AbidesFrom W.heap.size J) (hn:∀b,ok b→b<W.heap.size)
  (hsaid:∀x∈zs,∀W',Keep ok W W'→CallsIn Fence.wide 3 Tryz.prog gs (#[.agg #[.int .u8 x.1,.int .u16 x.2]]++lbs) W' fun e W''=>e= .returned (.bool (f x))∧Below W'.heap.size W' W'')
  (hWa:W.cell? ⟨Ba,2,none⟩=some (.slice (some ⟨bv,off,none⟩) zs.length cap)) (hWb:W.cell? ⟨Bb,0,none⟩=some (.func (.func gs) #[] lbs))
  (hc:∀j,j<zs.length→∀x,zs[j]?=some x→W.cell? ⟨bv,off+j*2,none⟩=some (.int .u8 x.1)∧W.cell? ⟨bv,off+j*2+1,none⟩=some (.int .u16 x.2)) (h0:J [] W):
  CallsIn Fence.wide 4 Tryz.prog 178 #[.func (.yield l) #[] #[],.pointer (some ⟨Ba,0,none⟩),.pointer (some ⟨Bb,0,none⟩)] W fun e W'=>(∃v,e= .returned v)∧
   ((∃ys,ys=zs.filter f∧J ys W')∨(∃pre,True∧Jx pre W')):=by
 refine callsIn_of_wp Tryz.func178 rfl trivial ?_ rfl
 simp only[Tryz.ntmps178,List.size_toArray,apw,apy,Nat.reduceAdd,Nat.reduceSub,Array.replicate_succ,Array.replicate_zero,List.push_toArray,List.append_toArray,apD,apC]
 gi_wp2
 gi_loopw [9] (fun i wr=>∃(k:Nat) (pre:List (Int×Int)),k≤zs.length∧i= .int .i64 k∧pre.length≤k∧pre=(zs.take k).filter f∧J pre wr∧Keep ok W wr)
  (fun i _=>zs.length - (intOf i).toNat)
 case atStart=>exact⟨0,[],Nat.zero_le _,rfl,apM _,by simp,h0,Keep.refl _ _⟩
 case round=>
  obtain⟨k,pre,hk,rfl,hpl,hpt,hJs,hnx⟩:=hrel
  by_cases hlt:k<zs.length
  ·obtain⟨x,hx⟩:∃x,zs[k]?=some x:=⟨_,List.getElem?_eq_getElem hlt⟩
   obtain⟨hc0,hc1⟩:=hc k hlt x hx
   have hc0:=(hnx.cell (p:=⟨bv,off+k*2,none⟩) hb (hn _ hb)).trans hc0
   have hc1:=(hnx.cell (p:=⟨bv,off+k*2+1,none⟩) hb (hn _ hb)).trans hc1
   have hb0:=(hnx.cell (p:=⟨Bb,0,none⟩) hBb (hn _ hBb)).trans hWb
   have hB1:Below wr.heap.size wr (wr.alloc (Obj.cells #[Value.int .u8 x.1,Value.int .u16 x.2] 52)):=(Below.refl _ wr).alloc (apM _) _
   have hwr:W.heap.size≤wr.heap.size:=hnx.size
   have hb1:=(hB1.cell (p:=⟨Bb,0,none⟩) (by have:=hn _ hBb;simp;omega)).trans hb0
   have hn0:(wr.alloc (Obj.cells #[Value.int .u8 x.1,Value.int .u16 x.2] 52)).cell? ⟨wr.heap.size,0,none⟩=some (.int .u8 x.1):=by unfold World.cell?;rw[World.alloc_heap_new];rfl
   have hn1:(wr.alloc (Obj.cells #[Value.int .u8 x.1,Value.int .u16 x.2] 52)).cell? ⟨wr.heap.size,1,none⟩=some (.int .u16 x.2):=by unfold World.cell?;rw[World.alloc_heap_new];rfl
   have hnx1:=hnx.trans (Keep.of hB1)
   have hs:=hsaid x (apA hx) _ hnx1
   rcases hgs with rfl|rfl<;>gi_wp2_with (refine⟨trivial,?_⟩;(first|gi_at_call 160|gi_at_call 176);refine hs.mono ?_;obtain⟨b,hbt⟩:∃b,f x=b:=⟨_,rfl⟩;rw[hbt];rintro e w3 ⟨rfl,hb3⟩;have hn0':=(hb3.cell (p:=⟨wr.heap.size,0,none⟩) (by simp)).trans hn0;have hn1':=(hb3.cell (p:=⟨wr.heap.size,1,none⟩) (by simp)).trans hn1;have hB3:=hB1.trans (hb3.mono (show wr.heap.size≤(wr.alloc (Obj.cells #[Value.int .u8 x.1,Value.int .u16 x.2] 52)).heap.size by simp));have hJ3:=hJ pre wr w3 none hJs ⟨hB3.os,hB3.tape,hB3.output,hB3.size,fun k hk _=>hB3.block k hk⟩ (fun r e=>by cases e);obtain⟨fn,tmps,assign,body,hy,hR⟩:=hY pre x w3 hJ3 (by omega);have hnx3:=hnx.trans (Keep.of hB3))
   iterate 2
    ·refine hR.mono ?_
     rintro e W4 (⟨rfl,hJ4,hk4⟩|⟨rfl,hJx4⟩)
     ·gi_wp2
      go_roundw
      case rel=>exact⟨k+1,pre++[x],by omega,by simp,by simp;omega,by rw[hpt,List.take_add_one,hx,List.filter_append];rw[Option.toList_some,List.filter_cons,hbt,if_pos (by assumption)];rfl,hJ4,hnx3.trans hk4⟩
      case measure=>simp[intOf];omega
     ·gi_wp2
      refine bodyPost_ret (results_none rfl _ _ _) rfl ?_
      exact⟨⟨_,rfl⟩,.inr ⟨_,trivial,hJx4⟩⟩
    ·refine⟨fun _ h=>(by cases h),?_⟩
     gi_wp2
     go_roundw
     case rel=>exact⟨k+1,pre,by omega,by simp,by omega,by rw[hpt,List.take_add_one,hx,List.filter_append];rw[Option.toList_some,List.filter_cons,hbt,if_neg (by assumption)];simp,hJ3,hnx3⟩
     case measure=>simp[intOf];omega
  ·obtain rfl:k=zs.length:=by omega
   gi_wp2
   go_end0
   exact⟨⟨_,rfl⟩,.inl ⟨pre,by simpa using hpt,hJs⟩⟩
abbrev GI (zs:List (Int×Int)):List Value:=zs.flatMap fun x=>[.int .u8 x.1,.int .u16 x.2]
theorem HO (Ba Bb bv off cap gs:Nat) (ok:Nat→Prop) (lbs:Array Value) (zs:List (Int×Int)) (f:Int×Int→Bool) (hb:ok bv) (hBa:ok Ba) (hBb:ok Bb) (hlen:zs.length≤1000) (hgs:gs=160∨gs=176) (w:World) (hn:∀b,ok b→b<w.heap.size)
  (hsaid:∀x∈zs,∀W',Keep ok w W'→CallsIn Fence.wide 3 Tryz.prog gs (#[.agg #[.int .u8 x.1,.int .u16 x.2]]++lbs) W' fun e W''=>e= .returned (.bool (f x))∧Below W'.heap.size W' W'')
  (hWa:w.cell? ⟨Ba,2,none⟩=some (.slice (some ⟨bv,off,none⟩) zs.length cap)) (hWb:w.cell? ⟨Bb,0,none⟩=some (.func (.func gs) #[] lbs))
  (hc:∀j,j<zs.length→∀x,zs[j]?=some x→w.cell? ⟨bv,off+j*2,none⟩=some (.int .u8 x.1)∧w.cell? ⟨bv,off+j*2+1,none⟩=some (.int .u16 x.2)):
  SeqStopsK Fence.wide 4 Tryz.prog 178 #[.pointer (some ⟨Ba,0,none⟩),.pointer (some ⟨Bb,0,none⟩)] (fun x:Int×Int=> #[.agg #[.int .u8 x.1,.int .u16 x.2]]) (Keep ok) (fun ys=>ys=zs.filter f) (fun _=>True) zs.length w:=fun l J Jx W hW hJ _ hY h0=>by
 have hW0:Keep ok w W:=Keep.of hW
 exact aeJ l Ba Bb bv off cap gs ok lbs zs f hb hBa hBb hlen hgs J Jx hY W hJ (fun b hb=>Nat.lt_of_lt_of_le (hn b hb) hW.size) (fun x hx W' h=>hsaid x hx W' (hW0.trans h)) ((hW0.cell (p:=⟨Ba,2,none⟩) hBa (hn _ hBa)).trans hWa) ((hW0.cell (p:=⟨Bb,0,none⟩) hBb (hn _ hBb)).trans hWb)
  (fun j hj x hx=>⟨(hW0.cell (p:=⟨bv,_,none⟩) hb (hn _ hb)).trans (hc j hj x hx).1,(hW0.cell (p:=⟨bv,_,none⟩) hb (hn _ hb)).trans (hc j hj x hx).2⟩) h0
theorem aoM:(Tryz.prog.info? 52).map (fun i=>(i.zero,i.size,i.bytes))=some (some (.agg #[.int .u8 0,.int .u16 0]),2,4):=by kernel_rfl
theorem Wt (w:World) (x y:Value) (t:TypeId):∀j u,[x,y][j]?=some u→(w.alloc (.cells #[x,y] t)).cell? ((⟨w.heap.size,0,none⟩:Addr).add j)=some u:=by
 intro j u hj
 rw[show(⟨w.heap.size,0,none⟩:Addr).add j=⟨w.heap.size,j,none⟩ by unfold Addr.add;split<;>simp_all]
 unfold World.cell?
 rw[World.alloc_heap_new]
 match j,hj with
 |0,hj=>simpa using hj
 |1,hj=>simpa using hj
 |j+2,hj=>simp at hj
def acL (W:World) (B:Nat) (x:Int×Int):Prop:=W.heap[B]?=some (.cells #[.int .u8 x.1,.int .u16 x.2] 52 (0,0))
theorem kG {W:World} {B:Nat} {x:Int×Int} (h:acL W B x):W.cell? ⟨B,0,none⟩=some (.int .u8 x.1)∧W.cell? ⟨B,1,none⟩=some (.int .u16 x.2):=by
 have h:W.heap[B]?=_:=h
 constructor<;>(unfold World.cell?;rw[h];rfl)
theorem agQ {β:Type} (B:Nat) (x:Int×Int):Own (fun(_:β) W=>acL W B x):=fun s X Y row hs hg hrow=>by
 have hs:X.heap[B]?=_:=hs
 exact(hg.block B (Array.getElem?_eq_some_iff.1 hs).1 (fun e=>by obtain⟨o,ho,hc⟩:=hrow B e.symm;rw[hs]at ho;cases ho;cases hc)).trans hs
set_option maxRecDepth 100000 in
set_option maxHeartbeats 2000000 in
theorem acn (Ba Bb bv off cap gs:Nat) (lbs:Array Value) (zs:List (Int×Int)) (f:Int×Int→Bool) (hlen:zs.length≤1000) (hgs:gs=160∨gs=176) (w:World) (hb:bv<w.heap.size) (hBa:Ba<w.heap.size) (hBb:Bb<w.heap.size)
  (hsaid:∀x∈zs,∀W',Keep (· <w.heap.size) w W'→CallsIn Fence.wide 3 Tryz.prog gs (#[.agg #[.int .u8 x.1,.int .u16 x.2]]++lbs) W' fun e W''=>e= .returned (.bool (f x))∧Below W'.heap.size W' W'')
  (hWa:w.cell? ⟨Ba,2,none⟩=some (.slice (some ⟨bv,off,none⟩) zs.length cap)) (hWb:w.cell? ⟨Bb,0,none⟩=some (.func (.func gs) #[] lbs))
  (hc:∀j,j<zs.length→∀x,zs[j]?=some x→w.cell? ⟨bv,off+j*2,none⟩=some (.int .u8 x.1)∧w.cell? ⟨bv,off+j*2+1,none⟩=some (.int .u16 x.2)):
  CallsIn Fence.wide 5 Tryz.prog 177 #[.slice none 0 0,.func (.func 178) #[] #[.pointer (some ⟨Ba,0,none⟩),.pointer (some ⟨Bb,0,none⟩)]] w fun e W'=>∃v,e= .returned v∧W'.ownsRow w.heap.size 52 2 v (zs.filter f).length (GI (zs.filter f))∧Below w.heap.size w W':=by
 obtain⟨i0,hi,hz0,hz1,hz2⟩:=info_parts aoM
 refine callsIn_of_wp_marks Tryz.func177 rfl trivial ?_ rfl
 simp only[Tryz.ntmps177,List.size_toArray,apw,apy,Nat.reduceAdd,Nat.reduceSub,Array.replicate_succ,Array.replicate_zero,List.push_toArray,List.append_toArray,apD,apC]
 gi_wp2
 have bO:=Boxed.new w 43 (.slice none 0 0)
 have hB0:Below w.heap.size w (w.alloc (.cells #[.slice none 0 0] 43)):=(Below.refl _ w).alloc (apM _) _
 refine wpIn_rangeFunc_ownH rfl (by decide) (gf:=178) (lb:= #[.pointer (some ⟨Ba,0,none⟩),.pointer (some ⟨Bb,0,none⟩)]) rfl trivial (enters_of Tryz.func178 (by kernel_rfl) rfl)
  (HO Ba Bb bv off cap gs (· <w.heap.size) lbs zs f hb hBa hBb hlen hgs _ (fun b hb=>by simp;omega) (fun x hx W' h=>hsaid x hx W' ((Keep.of hB0).trans h)) ((hB0.cell (p:=⟨Ba,2,none⟩) hBa).trans hWa) ((hB0.cell (p:=⟨Bb,0,none⟩) hBb).trans hWb)
   (fun j hj x hx=>⟨(hB0.cell (p:=⟨bv,_,none⟩) hb).trans (hc j hj x hx).1,(hB0.cell (p:=⟨bv,_,none⟩) hb).trans (hc j hj x hx).2⟩))
  Keep.trans (Keep.put (fun b hb=>by simp;omega)) (Below.refl _ _) (fun _=>rfl)
  (fun pre W=>(∃v,Boxed W w.heap.size 43 v∧W.ownsRow w.heap.size 52 2 v pre.length (GI pre)∧True)∧Below w.heap.size w W)
  (fun _ _ _=>False)
  (OwnFrom.and (Own.from (holdsRow_own w.heap.size w.heap.size 43 52 2 (fun pre=>pre.length) GI (fun _ _=>True)) _) (ownFrom_below (apM _) (by simp)))
  (fun _ _ _ _ _ hs _ _=>hs)
  ⟨⟨_,bO,World.ownsRow_nil _ _ _ _,trivial⟩,hB0⟩
  (fun x a' W=>∃Bx,w.heap.size<Bx∧acL W Bx x∧a'={tmps:= #[.slice none 0 0,.func (.func 178) #[] #[.pointer (some ⟨Ba,0,none⟩),.pointer (some ⟨Bb,0,none⟩)],.pointer (some ⟨w.heap.size,0,none⟩),undef,.slice none 0 0,.pointer (some ⟨Bx,0,none⟩),.func (.func 178) #[] #[.pointer (some ⟨Ba,0,none⟩),.pointer (some ⟨Bb,0,none⟩)],.agg #[.int .u8 x.1,.int .u16 x.2],undef,undef,undef,undef,undef],defers:=[]})
  (fun x a' _ X Y row hs hg hr=>by obtain⟨Bx,h1,h2,h3⟩:=hs;exact⟨Bx,h1,agQ Bx x () X Y row h2 hg (fun r e=>(hr r e).2),h3⟩)
  ?assign ?body ?done ?stop
 case assign=>
  rintro l pre x W K ⟨⟨v,hv,hrow,_⟩,hB⟩ hK
  gi_wp2
  exact hK _ _ ((KeepsOthers.alloc _ _).from _) (Keep.of ((Below.refl _ W).alloc (apM _) _)) ⟨⟨v,hv.alloc _,hrow.alloc _,trivial⟩,hB.alloc hB.size _⟩ ⟨W.heap.size,hv.lt,World.alloc_heap_new W _,rfl⟩
 case body=>
  rintro l pre x a' W hl ⟨r,hr⟩ ⟨⟨v,hv,hrow,_⟩,hB⟩ ⟨Bx,hBx,bX,rfl⟩ hlt
  have hc:=hv.cell
  obtain⟨hx0,hx1⟩:=kG bX
  have hmx:1001≤maxLen:=by decide
  have hpl:pre.length+1≤maxLen:=by omega
  have hpb:(pre.length+1)*4≤140737488355328:=by omega
  gi_wp2_with (gi_at_builtin;refine wpListIn_append_own _ rfl _ _ 43 rfl w.heap.size 52 i0 (.agg #[.int .u8 0,.int .u16 0]) 2 4 Tryz.underlying43 hi hz0 hz1 hz2 rfl (by decide) _ _ _ rfl (hrow.alloc _) ⟨W.heap.size,0,none⟩ 1 1 [.int .u8 x.1,.int .u16 x.2] rfl rfl (Wt _ _ _ _) (by simp[Value.oneCell']) hpl hpb (by have:=hB.size;simp;omega) ?_;intro v' w1 hown' hgrow _;obtain⟨g',cap',rfl⟩:=ownsRow_succ hown';obtain⟨hv1,hv2,hr2,hk2,hb2⟩:=hv.appended (by decide) hrow hB.size (apM _) hown' hgrow;have hc1:=hv1.cell;have hf1:=hv1.frozen)
  exact⟨hk2.from _,⟨hb2.size,fun b hb _=>hb2.block b hb⟩,⟨_,hv2,by simpa[List.flatMap_append] using hr2,trivial⟩,hB.trans hb2⟩
 case done=>
  rintro D ys W hD hS ⟨⟨v,hv,hrow,_⟩,hB⟩ hK
  have hc:=hv.cell
  gi_wp2
  subst hS
  refine⟨by simp,.inl ⟨_,_,rfl,run_takeDeferred hK,?_⟩⟩
  exact⟨_,results_tmp rfl _ _ _,v,rfl,ownsRow_putObj hrow _ hK rfl,hB.trans (belowK_b (w:=w) (apM _) W D _ _ (by simp at hD;omega) hK rfl rfl)⟩
 case stop=>
  rintro D c pre W _ _ h _
  exact h.elim
theorem acd (Ba Bb bv off cap gs:Nat) (lbs:Array Value) (zs:List (Int×Int)) (f:Int×Int→Bool) (hlen:zs.length≤1000) (hgs:gs=160∨gs=176) (w:World) (hb:bv<w.heap.size) (hBa:Ba<w.heap.size) (hBb:Bb<w.heap.size)
  (hsaid:∀x∈zs,∀W',Keep (· <w.heap.size) w W'→CallsIn Fence.wide 3 Tryz.prog gs (#[.agg #[.int .u8 x.1,.int .u16 x.2]]++lbs) W' fun e W''=>e= .returned (.bool (f x))∧Below W'.heap.size W' W'')
  (hWa:w.cell? ⟨Ba,2,none⟩=some (.slice (some ⟨bv,off,none⟩) zs.length cap)) (hWb:w.cell? ⟨Bb,0,none⟩=some (.func (.func gs) #[] lbs))
  (hc:∀j,j<zs.length→∀x,zs[j]?=some x→w.cell? ⟨bv,off+j*2,none⟩=some (.int .u8 x.1)∧w.cell? ⟨bv,off+j*2+1,none⟩=some (.int .u16 x.2)):
  CallsIn Fence.wide 6 Tryz.prog 158 #[.func (.func 178) #[] #[.pointer (some ⟨Ba,0,none⟩),.pointer (some ⟨Bb,0,none⟩)]] w fun e W'=>∃v,e= .returned v∧W'.ownsRow w.heap.size 52 2 v (zs.filter f).length (GI (zs.filter f))∧Below w.heap.size w W':=by
 refine callsIn_of_wp Tryz.func158 rfl trivial ?_ rfl
 simp only[Tryz.ntmps158,List.size_toArray,apw,apy,Nat.reduceAdd,Nat.reduceSub,Array.replicate_succ,Array.replicate_zero,List.push_toArray,List.append_toArray,apD,apC]
 gi_wp2_with (refine⟨trivial,?_⟩;gi_at_call 177;refine(acn Ba Bb bv off cap gs lbs zs f hlen hgs w hb hBa hBb hsaid hWa hWb hc).mono ?_;rintro e w3 ⟨v,rfl,h1,h2⟩)
 refine bodyPost_ret (results_tmp rfl _ _ _) rfl ?_
 exact⟨v,rfl,h1,h2⟩
attribute [local go_sem] Oper.semAt_some
theorem Qa {x:Int} (h1: -9223372036854775808≤x) (h2:x≤9223372036854775807):wrap64 x=x:=by unfold wrap64;omega
def Procs (w:World) (b:Nat) (zs:List (Int×Int)):Prop:=∀j,j<zs.length→∀x,zs[j]?=some x→w.cell? ⟨b,j*2,none⟩=some (.int .u8 x.1)∧w.cell? ⟨b,j*2+1,none⟩=some (.int .u16 x.2)
theorem Procs.below {n b:Nat} {A B:World} {zs:List (Int×Int)} (h:Below n A B) (hb:b<n) (p:Procs A b zs):Procs B b zs:=fun j hj x hx=>⟨(h.cell (p:=⟨b,_,none⟩) hb).trans (p j hj x hx).1,(h.cell (p:=⟨b,_,none⟩) hb).trans (p j hj x hx).2⟩
theorem apf:Tryz.prog.eqGuardType Tryz.prog.depth 52=false:=by kernel_rfl
attribute [local go_sem] apf
set_option maxRecDepth 100000 in
set_option maxHeartbeats 1000000 in
theorem ago (bl cap:Nat) (zs:List (Int×Int)) (hlen:zs.length≤1000) (y:Int×Int) (w:World) (hb:bl<w.heap.size) (hp:Procs w bl zs):
  CallsIn Fence.wide 1 Tryz.prog 59 #[.slice (some ⟨bl,0,none⟩) zs.length cap,.agg #[.int .u8 y.1,.int .u16 y.2]] w fun e W'=>∃z:Int,e= .returned (.int .i64 z)∧(0≤z↔y∈zs)∧Below w.heap.size w W':=by
 refine callsIn_of_wp Tryz.func59 rfl trivial ?_ rfl
 simp only[Tryz.ntmps59,List.size_toArray,apw,apy,Nat.reduceAdd,Nat.reduceSub,Array.replicate_succ,Array.replicate_zero,List.push_toArray,List.append_toArray,apD,apC]
 gi_wp2
 have hB1:Below w.heap.size w (w.alloc (Obj.cells #[Value.int .u8 y.1,Value.int .u16 y.2] 52)):=(Below.refl _ w).alloc (apM _) _
 gi_loopw [8] (fun i wr=>∃k:Nat,k≤zs.length∧i= .int .i64 k∧Below w.heap.size w wr∧acL wr w.heap.size y∧y∉zs.take k)
  (fun i _=>zs.length - (intOf i).toNat)
 case atStart=>exact⟨0,Nat.zero_le _,rfl,hB1,World.alloc_heap_new w _,by simp⟩
 case round=>
  obtain⟨k,hk,rfl,hB,bX,hno⟩:=hrel
  obtain⟨hx0,hx1⟩:=kG bX
  by_cases hlt:k<zs.length
  ·obtain⟨x,hx⟩:∃x,zs[k]?=some x:=⟨_,List.getElem?_eq_getElem hlt⟩
   obtain⟨hc0,hc1⟩:=hp k hlt x hx
   have hc0:=(hB.cell (p:=⟨bl,k*2,none⟩) hb).trans hc0
   have hc1:=(hB.cell (p:=⟨bl,k*2+1,none⟩) hb).trans hc1
   gi_wp2
   by_cases h1:y.1=x.1<;>by_cases h2:y.2=x.2
   all_goals gi_region
   all_goals gi_wp2
   ·refine bodyPost_ret (results_tmp rfl _ _ _) rfl ?_
    exact⟨_,rfl,⟨fun _=>by rw[show y=x from Prod.ext h1 h2];exact apA hx,fun _=>by omega⟩,hB.drew⟩
   all_goals exact⟨⟨k+1,by omega,by simp,hB.drew,bX,by rw[List.take_add_one,hx];intro hm;exact(List.mem_append.1 hm).elim hno fun q=>by(obtain rfl:y=x:=(by simpa using q));first|exact h1 rfl|exact h2 rfl⟩,by simp[intOf];omega⟩
  ·obtain rfl:k=zs.length:=by omega
   gi_wp2
   refine bodyPost_ret (results_tmp rfl _ _ _) rfl ?_
   exact⟨_,rfl,⟨fun h=>by omega,fun h=>absurd (by simpa using h) hno⟩,hB⟩
theorem Yq (bl cap:Nat) (zs:List (Int×Int)) (hlen:zs.length≤1000) (y:Int×Int) (w:World) (hb:bl<w.heap.size) (hp:Procs w bl zs):
  CallsIn Fence.wide 2 Tryz.prog 57 #[.slice (some ⟨bl,0,none⟩) zs.length cap,.agg #[.int .u8 y.1,.int .u16 y.2]] w fun e W'=>e= .returned (.bool (decide (y∈zs)))∧Below w.heap.size w W':=by
 refine callsIn_of_wp Tryz.func57 rfl trivial ?_ rfl
 simp only[Tryz.ntmps57,List.size_toArray,apw,apy,Nat.reduceAdd,Nat.reduceSub,Array.replicate_succ,Array.replicate_zero,List.push_toArray,List.append_toArray,apD,apC]
 have hB1:Below w.heap.size w (w.alloc (Obj.cells #[Value.int .u8 y.1,Value.int .u16 y.2] 52)):=(Below.refl _ w).alloc (apM _) _
 obtain⟨hx0,hx1⟩:=kG (x:=y) (World.alloc_heap_new w (Obj.cells #[Value.int .u8 y.1,Value.int .u16 y.2] 52))
 gi_wp2_with (refine⟨trivial,?_⟩;gi_at_call 59;refine(ago bl cap zs hlen y _ (by simp;omega) (hp.below hB1 hb)).mono ?_;rintro e w3 ⟨z,rfl,hz,h1⟩)
 refine bodyPost_ret (results_tmp rfl _ _ _) rfl ?_
 exact⟨by by_cases hm:y∈zs<;>simp_all,hB1.trans (h1.mono (by simp))⟩
theorem SC (bl bq cap:Nat) (zs:List (Int×Int)) (hlen:zs.length≤1000) (y:Int×Int) (w:World) (hb:bl<w.heap.size) (hq:bq<w.heap.size) (hp:Procs w bl zs) (hc:w.cell? ⟨bq,0,none⟩=some (.slice (some ⟨bl,0,none⟩) zs.length cap)):
  CallsIn Fence.wide 3 Tryz.prog 176 #[.agg #[.int .u8 y.1,.int .u16 y.2],.pointer (some ⟨bq,0,none⟩)] w fun e W'=>e= .returned (.bool (decide (y∈zs)))∧Below w.heap.size w W':=by
 refine callsIn_of_wp Tryz.func176 rfl trivial ?_ rfl
 simp only[Tryz.ntmps176,List.size_toArray,apw,apy,Nat.reduceAdd,Nat.reduceSub,Array.replicate_succ,Array.replicate_zero,List.push_toArray,List.append_toArray,apD,apC]
 have hB1:Below w.heap.size w (w.alloc (Obj.cells #[Value.int .u8 y.1,Value.int .u16 y.2] 52)):=(Below.refl _ w).alloc (apM _) _
 obtain⟨hx0,hx1⟩:=kG (x:=y) (World.alloc_heap_new w (Obj.cells #[Value.int .u8 y.1,Value.int .u16 y.2] 52))
 have hc1:=(hB1.cell (p:=⟨bq,0,none⟩) hq).trans hc
 gi_wp2_with (refine⟨trivial,?_⟩;gi_at_call 57;refine(Yq bl cap zs hlen y _ (by simp;omega) (hp.below hB1 hb)).mono ?_;rintro e w3 ⟨rfl,h1⟩)
 refine bodyPost_ret (results_tmp rfl _ _ _) rfl ?_
 exact⟨rfl,hB1.trans (h1.mono (by simp))⟩
theorem ag2 (v:Value) (w:World) (ho:v.oneCell'=true):CallsIn Fence.wide 4 Tryz.prog 157 #[v] w fun e W'=>e= .returned (.func (.func 176) #[] #[.pointer (some ⟨w.heap.size,0,none⟩)])∧W'=w.alloc (.cells #[v] 43):=by
 refine callsIn_of_wp Tryz.func157 rfl trivial ?_ rfl
 simp only[Tryz.ntmps157,List.size_toArray,apw,apy,Nat.reduceAdd,Nat.reduceSub,Array.replicate_succ,Array.replicate_zero,List.push_toArray,List.append_toArray,apD,apC]
 gi_wp2
 refine bodyPost_ret (results_tmp rfl _ _ _) rfl ?_
 exact⟨rfl,rfl⟩
theorem Xd (g nn:Int) (o:Option Addr) (n c gs:Nat) (lbs:Array Value) (w:World):CallsIn Fence.wide 4 Tryz.prog 159 #[.agg #[.int .u8 g,.int .u32 nn,.slice o n c],.func (.func gs) #[] lbs] w fun e W'=>e= .returned (.func (.func 178) #[] #[.pointer (some ⟨w.heap.size,0,none⟩),.pointer (some ⟨w.heap.size+1,0,none⟩)])∧W'=(w.alloc (.cells #[.int .u8 g,.int .u32 nn,.slice o n c] 45)).alloc (.cells #[.func (.func gs) #[] lbs] 113):=by
 refine callsIn_of_wp Tryz.func159 rfl trivial ?_ rfl
 simp only[Tryz.ntmps159,List.size_toArray,apw,apy,Nat.reduceAdd,Nat.reduceSub,Array.replicate_succ,Array.replicate_zero,List.push_toArray,List.append_toArray,apD,apC]
 gi_wp2
 refine bodyPost_ret (results_tmp rfl _ _ _) rfl ?_
 exact⟨rfl,rfl⟩
theorem adz (g nn:Int) (o:Option Addr) (n c:Nat) (w:World):CallsIn Fence.wide 4 Tryz.prog 90 #[.agg #[.int .u8 g,.int .u32 nn,.slice o n c]] w fun e W'=>e= .returned (.int .i64 (wrap64 (wrap64 (n / 2)+1)))∧W'=w.alloc (.cells #[.int .u8 g,.int .u32 nn,.slice o n c] 45):=by
 refine callsIn_of_wp Tryz.func90 rfl trivial ?_ rfl
 simp only[Tryz.ntmps90,List.size_toArray,apw,apy,Nat.reduceAdd,Nat.reduceSub,Array.replicate_succ,Array.replicate_zero,List.push_toArray,List.append_toArray,apD,apC]
 gi_wp2
 refine bodyPost_ret (results_tmp rfl _ _ _) rfl ?_
 exact⟨rfl,rfl⟩
theorem Procs.keep {ok:Nat→Prop} {b:Nat} {A B:World} {zs:List (Int×Int)} (p:Procs A b zs) (h:Keep ok A B) (hb:ok b) (hs:b<A.heap.size):Procs B b zs:=fun j hj x hx=>⟨(h.cell (p:=⟨b,_,none⟩) hb hs).trans (p j hj x hx).1,(h.cell (p:=⟨b,_,none⟩) hb hs).trans (p j hj x hx).2⟩
theorem ac4 (W:World) (a b c:Obj):(((W.alloc a).alloc b).alloc c).heap[W.heap.size]?=some a∧(((W.alloc a).alloc b).alloc c).heap[W.heap.size+1]?=some b∧(((W.alloc a).alloc b).alloc c).heap[W.heap.size+1+1]?=some c:=by
 refine⟨(Below.heap_alloc _ _ _ (by simp;omega)).trans ((Below.heap_alloc _ _ _ (by simp)).trans (World.alloc_heap_new W a)),(Below.heap_alloc _ _ _ (by simp)).trans ?_,?_⟩
 ·have:=World.alloc_heap_new (W.alloc a) b;rwa[World.size_alloc]at this
 ·have:=World.alloc_heap_new ((W.alloc a).alloc b) c;rwa[World.size_alloc,World.size_alloc]at this
theorem aeo {β:Type} (B:Nat) (c:Array Value) (t:TypeId) (fz:Nat×Nat):Own (fun(_:β) W=>W.heap[B]?=some (.cells c t fz)):=fun s X Y row hs hg hrow=>
 (hg.block B (Array.getElem?_eq_some_iff.1 hs).1 (fun e=>by obtain⟨o,ho,hc⟩:=hrow B e.symm;rw[hs]at ho;cases ho;cases hc)).trans hs
set_option maxRecDepth 100000 in
set_option maxHeartbeats 2000000 in
theorem ada (g nn:Int) (bv bl cv cl:Nat) (zs ls:List (Int×Int)) (hz:zs.length≤1000) (hl:ls.length≤1000) (w:World) (hbv:bv<w.heap.size) (hbl:bl<w.heap.size) (pz:Procs w bv zs) (pl:Procs w bl ls):
  CallsIn Fence.wide 5 Tryz.prog 162 #[.agg #[.int .u8 g,.int .u32 nn,.slice (some ⟨bv,0,none⟩) zs.length cv],.slice (some ⟨bl,0,none⟩) ls.length cl] w fun e W'=>e= .returned (.bool (decide (zs.length / 2+1≤(zs.filter fun x=>decide (x∈ls)).length)))∧Below w.heap.size w W':=by
 refine callsIn_of_wp_marks Tryz.func162 rfl trivial ?_ rfl
 simp only[Tryz.ntmps162,List.size_toArray,apw,apy,Nat.reduceAdd,Nat.reduceSub,Array.replicate_succ,Array.replicate_zero,List.push_toArray,List.append_toArray,apD,apC]
 gi_wp2
 obtain⟨W1,hW1⟩:∃W1,(w.alloc (Obj.cells #[Value.int .u8 g,Value.int .u32 nn,Value.slice (some ⟨bv,0,none⟩) zs.length cv] 45)).alloc (Obj.cells #[Value.int .i64 0] 3)=W1:=⟨_,rfl⟩
 have hB1:Below w.heap.size w W1:=by rw[←hW1];exact((Below.refl _ w).alloc (apM _) _).alloc (by simp) _
 have hs1:W1.heap.size=w.heap.size+2:=by rw[←hW1];simp
 have hvb:W1.heap[w.heap.size]?=some (.cells #[Value.int .u8 g,Value.int .u32 nn,Value.slice (some ⟨bv,0,none⟩) zs.length cv] 45 (0,0)):=by rw[←hW1];exact(Below.heap_alloc _ _ _ (by simp)).trans (World.alloc_heap_new w _)
 have hnb:Boxed W1 (w.heap.size+1) 3 (.int .i64 0):=by rw[←hW1];have:=World.alloc_heap_new (w.alloc (Obj.cells #[Value.int .u8 g,Value.int .u32 nn,Value.slice (some ⟨bv,0,none⟩) zs.length cv] 45)) (Obj.cells #[Value.int .i64 0] 3);rwa[World.size_alloc]at this
 have hc0:W1.cell? ⟨w.heap.size,0,none⟩=some (.int .u8 g):=by unfold World.cell?;rw[hvb];rfl
 have hc1:W1.cell? ⟨w.heap.size,1,none⟩=some (.int .u32 nn):=by unfold World.cell?;rw[hvb];rfl
 have hc2:W1.cell? ⟨w.heap.size,2,none⟩=some (.slice (some ⟨bv,0,none⟩) zs.length cv):=by unfold World.cell?;rw[hvb];rfl
 rw[hW1]
 refine wpIn_mono (Q:=Exit.then (fun a W'=>a={tmps:= #[.agg #[.int .u8 g,.int .u32 nn,.slice (some ⟨bv,0,none⟩) zs.length cv],.slice (some ⟨bl,0,none⟩) ls.length cl,.pointer (some ⟨w.heap.size,0,none⟩),undef,.bool false,.pointer (some ⟨w.heap.size+1,0,none⟩),.agg #[.int .u8 g,.int .u32 nn,.slice (some ⟨bv,0,none⟩) zs.length cv],.slice (some ⟨bl,0,none⟩) ls.length cl,.func (.func 176) #[] #[.pointer (some ⟨w.heap.size+2,0,none⟩)],.func (.func 178) #[] #[.pointer (some ⟨w.heap.size+2+1,0,none⟩),.pointer (some ⟨w.heap.size+2+1+1,0,none⟩)],undef,undef,undef,undef,undef,undef,undef],defers:=[]}∧
   W'=(((W1.alloc (.cells #[.slice (some ⟨bl,0,none⟩) ls.length cl] 43)).alloc (.cells #[.int .u8 g,.int .u32 nn,.slice (some ⟨bv,0,none⟩) zs.length cv] 45)).alloc (.cells #[.func (.func 176) #[] #[.pointer (some ⟨w.heap.size+2,0,none⟩)]] 113)).drew) (fun _ _ _=>False)) ?_ ?_
 ·gi_region_with (first|(refine⟨trivial,?_⟩;gi_at_call 157;refine(ag2 _ _ rfl).mono ?_;rintro e w' ⟨rfl,rfl⟩)|(refine⟨trivial,?_⟩;gi_at_call 159;refine(Xd _ _ _ _ _ _ _ _).mono ?_;rintro e w' ⟨rfl,rfl⟩))
  all_goals exact⟨rfl,rfl⟩
 ·rintro e a3 W3 h
  cases e<;>first|exact h.elim|skip
  obtain⟨rfl,rfl⟩:=h
  gi_wp2
  obtain⟨W4,hW4⟩:∃W4,(((W1.alloc (Obj.cells #[Value.slice (some ⟨bl,0,none⟩) ls.length cl] 43)).alloc (Obj.cells #[Value.int .u8 g,Value.int .u32 nn,Value.slice (some ⟨bv,0,none⟩) zs.length cv] 45)).alloc (Obj.cells #[Value.func (.func 176) #[] #[Value.pointer (some ⟨w.heap.size+2,0,none⟩)]] 113)).drew=W4:=⟨_,rfl⟩
  have hB14:Below W1.heap.size W1 W4:=by rw[←hW4];exact((((Below.refl _ W1).alloc (apM _) _).alloc (by simp) _).alloc (by simp;omega) _).drew
  have hB4:Below w.heap.size w W4:=hB1.trans (hB14.mono (by omega))
  have hs4:W4.heap.size=w.heap.size+5:=by rw[←hW4];simp[World.drew];omega
  have t:=ac4 W1 (Obj.cells #[Value.slice (some ⟨bl,0,none⟩) ls.length cl] 43) (Obj.cells #[Value.int .u8 g,Value.int .u32 nn,Value.slice (some ⟨bv,0,none⟩) zs.length cv] 45) (Obj.cells #[Value.func (.func 176) #[] #[Value.pointer (some ⟨w.heap.size+2,0,none⟩)]] 113)
  rw[hs1]at t
  obtain⟨t2,t3,t4⟩:W4.heap[w.heap.size+2]?=_∧W4.heap[w.heap.size+2+1]?=_∧W4.heap[w.heap.size+2+1+1]?=_:=by rw[←hW4];exact t
  have q2:W4.cell? ⟨w.heap.size+2,0,none⟩=some (Value.slice (some ⟨bl,0,none⟩) ls.length cl):=by unfold World.cell?;rw[t2];rfl
  have q3:W4.cell? ⟨w.heap.size+2+1,2,none⟩=some (Value.slice (some ⟨bv,0,none⟩) zs.length cv):=by unfold World.cell?;rw[t3];rfl
  have q4:W4.cell? ⟨w.heap.size+2+1+1,0,none⟩=some (Value.func (.func 176) #[] #[Value.pointer (some ⟨w.heap.size+2,0,none⟩)]):=by unfold World.cell?;rw[t4];rfl
  have hv4:W4.heap[w.heap.size]?=some (.cells #[Value.int .u8 g,Value.int .u32 nn,Value.slice (some ⟨bv,0,none⟩) zs.length cv] 45 (0,0)):=(hB14.block _ (by omega)).trans hvb
  have hn4:Boxed W4 (w.heap.size+1) 3 (.int .i64 0):=(hB14.block _ (by omega)).trans hnb
  rw[hW4]
  clear hW4
  have hok:∀b,(b<w.heap.size+5∧b≠w.heap.size+1)→b<W4.heap.size:=fun b hb=>by omega
  refine wpIn_rangeFunc_ownF rfl (by decide) (gf:=178) (lb:= #[.pointer (some ⟨w.heap.size+2+1,0,none⟩),.pointer (some ⟨w.heap.size+2+1+1,0,none⟩)]) rfl trivial (enters_of Tryz.func178 (by kernel_rfl) rfl)
   (HO (w.heap.size+2+1) (w.heap.size+2+1+1) bv 0 cv 176 (fun b=>b<w.heap.size+5∧b≠w.heap.size+1) #[.pointer (some ⟨w.heap.size+2,0,none⟩)] zs (fun x=>decide (x∈ls)) (by omega) (by omega) (by omega) hz (.inr rfl) W4 hok
    (fun x hx W' h=>(SC bl (w.heap.size+2) cl ls hl x W' (by have:=h.size;omega) (by have:=h.size;omega) ((pl.below hB4 hbl).keep h (by first|omega|(dsimp only;omega)) (by omega)) ((h.cell (p:=⟨w.heap.size+2,0,none⟩) (by first|omega|(dsimp only;omega)) (by first|omega|(dsimp only;omega))).trans q2)).mono (by rintro e W'' ⟨rfl,hb⟩;exact⟨rfl,hb⟩))
    q3 q4 (fun j hj x hx=>by have:=(pz.below hB4 hbv) j hj x hx;simpa using this))
   Keep.trans (Keep.put hok) (Below.refl _ _) (fun _=>rfl)
   (fun pre W=>(Boxed W (w.heap.size+1) 3 (.int .i64 (pre.length:Int))∧W.heap[w.heap.size]?=some (.cells #[Value.int .u8 g,Value.int .u32 nn,Value.slice (some ⟨bv,0,none⟩) zs.length cv] 45 (0,0)))∧Below w.heap.size w W)
   (fun _ _ _=>False)
   (OwnFrom.and (Own.from (fun s A B row hs hg hr=>⟨boxed_own _ _ (fun(_:Unit)=>_) () A B row hs.1 hg hr,aeo _ _ _ _ () A B row hs.2 hg hr⟩) _) (ownFrom_below (apM _) (by omega)))
   (fun _ _ _ _ _ hs _ _=>hs)
   ⟨⟨hn4,hv4⟩,hB4⟩
   (fun x=>{tmps:= #[.agg #[.int .u8 g,.int .u32 nn,.slice (some ⟨bv,0,none⟩) zs.length cv],.slice (some ⟨bl,0,none⟩) ls.length cl,.pointer (some ⟨w.heap.size,0,none⟩),undef,.bool false,.pointer (some ⟨w.heap.size+1,0,none⟩),.agg #[.int .u8 g,.int .u32 nn,.slice (some ⟨bv,0,none⟩) zs.length cv],.slice (some ⟨bl,0,none⟩) ls.length cl,.func (.func 176) #[] #[.pointer (some ⟨w.heap.size+2,0,none⟩)],.func (.func 178) #[] #[.pointer (some ⟨w.heap.size+2+1,0,none⟩),.pointer (some ⟨w.heap.size+2+1+1,0,none⟩)],.agg #[.int .u8 x.1,.int .u16 x.2],undef,undef,undef,undef,undef,undef],defers:=[]}) ?assign ?body ?done ?stop
  case assign=>
   intro l x W K hK
   gi_wp2
   simpa using hK
  case body=>
   rintro l pre x W ⟨⟨hz,hv⟩,hB⟩ hlt
   have hc:=hz.cell
   have hf:=hz.frozen
   gi_wp2
   have hg:=grownBy_setCell' W (w.heap.size+1) (Value.int .i64 ((pre.length:Int)+1))
   exact⟨KeepsOthers.setCell _ _ _,⟨hg.size,fun b hb hs=>hg.block b hs (fun e=>by cases e;exact hb.2 rfl)⟩,⟨by have h:=hz.set (.int .i64 ((pre.length:Int)+1));simpa using h,(hg.block _ (Array.getElem?_eq_some_iff.1 hv).1 (fun e=>by simp at e)).trans hv⟩,hB.setCell (p:=⟨w.heap.size+1,0,none⟩) (by first|omega|(dsimp only;omega)) _⟩
  case done=>
   rintro D ys W hD hS ⟨⟨hz,hv⟩,hB⟩ hK
   obtain⟨z,hzl⟩:∃z:Int,(ys.length:Int)=z:=⟨_,rfl⟩
   rw[hzl]at hz
   have hc:=hz.cell
   have hc0:W.cell? ⟨w.heap.size,0,none⟩=some (.int .u8 g):=by unfold World.cell?;rw[hv];rfl
   have hc1:W.cell? ⟨w.heap.size,1,none⟩=some (.int .u32 nn):=by unfold World.cell?;rw[hv];rfl
   have hc2:W.cell? ⟨w.heap.size,2,none⟩=some (.slice (some ⟨bv,0,none⟩) zs.length cv):=by unfold World.cell?;rw[hv];rfl
   gi_wp2
   refine wpIn_mono (Q:=Exit.then (fun a W'=>(∃(b:Bool) (x y z2 u:Value),b=decide (zs.length / 2+1≤ys.length)∧a={tmps:= #[.agg #[.int .u8 g,.int .u32 nn,.slice (some ⟨bv,0,none⟩) zs.length cv],.slice (some ⟨bl,0,none⟩) ls.length cl,.pointer (some ⟨w.heap.size,0,none⟩),undef,.bool b,.pointer (some ⟨w.heap.size+1,0,none⟩),.agg #[.int .u8 g,.int .u32 nn,.slice (some ⟨bv,0,none⟩) zs.length cv],.slice (some ⟨bl,0,none⟩) ls.length cl,.func (.func 176) #[] #[.pointer (some ⟨w.heap.size+2,0,none⟩)],.func (.func 178) #[] #[.pointer (some ⟨w.heap.size+2+1,0,none⟩),.pointer (some ⟨w.heap.size+2+1+1,0,none⟩)],undef,undef,undef,x,y,z2,u],defers:=[{target:=.collected D,args:= #[]}]})∧Below W.heap.size W W') (fun _ _ _=>False)) ?_ ?_
   ·have hd:W.drew.cell? ⟨w.heap.size+1,0,none⟩=some (.int .i64 z):=hc
    have hlt:w.heap.size+1<W.heap.size:=hz.lt
    have hne:¬w.heap.size+1=W.heap.size:=by omega
    have hmj:wrap64 (wrap64 (zs.length / 2)+1)=(zs.length / 2+1:Int):=by rw[Qa (x:=(zs.length / 2:Int)) (by omega) (by omega),Qa (by omega) (by omega)]
    rcases Int.lt_or_le z (wrap64 (wrap64 (zs.length / 2)+1)) with hM|hM
    ·have hN:¬(wrap64 (wrap64 (zs.length / 2)+1)≤z):=Int.not_le.2 hM
     gi_region_with (first|(refine⟨trivial,?_⟩;gi_at_call 90;refine(adz _ _ _ _ _ _).mono ?_;rintro e w' ⟨rfl,rfl⟩))
     all_goals exact⟨⟨_,_,_,_,_,by rw[hmj]at hM;simp;omega,rfl⟩,by first|exact((Below.refl _ W).alloc (apM _) _).drew|exact((Below.refl _ W).drew).alloc (apM _) _⟩
    ·gi_region_with (first|(refine⟨trivial,?_⟩;gi_at_call 90;refine(adz _ _ _ _ _ _).mono ?_;rintro e w' ⟨rfl,rfl⟩))
     all_goals exact⟨⟨_,_,_,_,_,by rw[hmj]at hM;simp;omega,rfl⟩,by first|exact((Below.refl _ W).alloc (apM _) _).drew|exact((Below.refl _ W).drew).alloc (apM _) _⟩
   ·rintro e a3 W3 h
    cases e<;>first|exact h.elim|skip
    obtain⟨⟨b,x,y,z2,u,hb,rfl⟩,hB3⟩:=h
    gi_wp2
    refine⟨by simp,.inl ⟨_,_,rfl,run_takeDeferred ((hB3.block _ (Array.getElem?_eq_some_iff.1 hK).1).trans hK),?_⟩⟩
    refine⟨_,results_tmp rfl _ _ _,by subst hS;subst hb;rfl,?_⟩
    exact(hB.trans (hB3.mono hB.size)).trans (belowK_b (w:=w) (apM _) W3 D _ _ (by omega) ((hB3.block _ (Array.getElem?_eq_some_iff.1 hK).1).trans hK) rfl rfl)
  case stop=>
   rintro D c pre W _ _ h _
   exact h.elim
theorem ag1 {a b f:Nat} {args:Array Value} {w:World} {R:Ending→World→Prop} (h:CallsIn Fence.wide a Tryz.prog f args w R):CallsIn Fence.wide b Tryz.prog f args w R:=callsIn_wide.2 (callsIn_wide.1 h)
theorem adK (y:Int×Int) (w:World):CallsIn Fence.wide 1 Tryz.prog 59 #[.slice none 0 0,.agg #[.int .u8 y.1,.int .u16 y.2]] w fun e W'=>e= .returned (.int .i64 (-1))∧Below w.heap.size w W':=by
 refine callsIn_of_wp Tryz.func59 rfl trivial ?_ rfl
 simp only[Tryz.ntmps59,List.size_toArray,apw,apy,Nat.reduceAdd,Nat.reduceSub,Array.replicate_succ,Array.replicate_zero,List.push_toArray,List.append_toArray,apD,apC]
 gi_wp2
 gi_loopw [8] (fun i wr=>i= .int .i64 0∧Below w.heap.size w wr) (fun _ _=>0)
 case atStart=>exact⟨rfl,(Below.refl _ w).alloc (apM _) _⟩
 case round=>
  obtain⟨rfl,hB⟩:=hrel
  gi_wp2
  refine bodyPost_ret (results_tmp rfl _ _ _) rfl ?_
  exact⟨rfl,hB⟩
theorem Wq (y:Int×Int) (w:World):CallsIn Fence.wide 2 Tryz.prog 57 #[.slice none 0 0,.agg #[.int .u8 y.1,.int .u16 y.2]] w fun e W'=>e= .returned (.bool false)∧Below w.heap.size w W':=by
 refine callsIn_of_wp Tryz.func57 rfl trivial ?_ rfl
 simp only[Tryz.ntmps57,List.size_toArray,apw,apy,Nat.reduceAdd,Nat.reduceSub,Array.replicate_succ,Array.replicate_zero,List.push_toArray,List.append_toArray,apD,apC]
 have hB1:Below w.heap.size w (w.alloc (Obj.cells #[Value.int .u8 y.1,Value.int .u16 y.2] 52)):=(Below.refl _ w).alloc (apM _) _
 obtain⟨hx0,hx1⟩:=kG (x:=y) (World.alloc_heap_new w (Obj.cells #[Value.int .u8 y.1,Value.int .u16 y.2] 52))
 gi_wp2_with (refine⟨trivial,?_⟩;gi_at_call 59;refine(adK y _).mono ?_;rintro e w3 ⟨rfl,h1⟩)
 refine bodyPost_ret (results_tmp rfl _ _ _) rfl ?_
 exact⟨rfl,hB1.trans (h1.mono (by simp))⟩
theorem aco (bq:Nat) (y:Int×Int) (w:World) (hq:bq<w.heap.size) (hc:w.cell? ⟨bq,0,none⟩=some (.slice none 0 0)):
  CallsIn Fence.wide 3 Tryz.prog 176 #[.agg #[.int .u8 y.1,.int .u16 y.2],.pointer (some ⟨bq,0,none⟩)] w fun e W'=>e= .returned (.bool false)∧Below w.heap.size w W':=by
 refine callsIn_of_wp Tryz.func176 rfl trivial ?_ rfl
 simp only[Tryz.ntmps176,List.size_toArray,apw,apy,Nat.reduceAdd,Nat.reduceSub,Array.replicate_succ,Array.replicate_zero,List.push_toArray,List.append_toArray,apD,apC]
 have hB1:Below w.heap.size w (w.alloc (Obj.cells #[Value.int .u8 y.1,Value.int .u16 y.2] 52)):=(Below.refl _ w).alloc (apM _) _
 obtain⟨hx0,hx1⟩:=kG (x:=y) (World.alloc_heap_new w (Obj.cells #[Value.int .u8 y.1,Value.int .u16 y.2] 52))
 have hc1:=(hB1.cell (p:=⟨bq,0,none⟩) hq).trans hc
 gi_wp2_with (refine⟨trivial,?_⟩;gi_at_call 57;refine(Wq y _).mono ?_;rintro e w3 ⟨rfl,h1⟩)
 refine bodyPost_ret (results_tmp rfl _ _ _) rfl ?_
 exact⟨rfl,hB1.trans (h1.mono (by simp))⟩
theorem agc (bc bq:Nat) (y:Int×Int) (q:Bool) (w:World) (hb:bc<w.heap.size) (hc:w.cell? ⟨bc,0,none⟩=some (.func (.func 176) #[] #[.pointer (some ⟨bq,0,none⟩)]))
  (ha:∀W',Below w.heap.size w W'→CallsIn Fence.wide 3 Tryz.prog 176 #[.agg #[.int .u8 y.1,.int .u16 y.2],.pointer (some ⟨bq,0,none⟩)] W' fun e W''=>e= .returned (.bool q)∧Below W'.heap.size W' W''):
  CallsIn Fence.wide 4 Tryz.prog 160 #[.agg #[.int .u8 y.1,.int .u16 y.2],.pointer (some ⟨bc,0,none⟩)] w fun e W'=>e= .returned (.bool (!q))∧Below w.heap.size w W':=by
 refine callsIn_of_wp Tryz.func160 rfl trivial ?_ rfl
 simp only[Tryz.ntmps160,List.size_toArray,apw,apy,Nat.reduceAdd,Nat.reduceSub,Array.replicate_succ,Array.replicate_zero,List.push_toArray,List.append_toArray,apD,apC]
 have hB1:Below w.heap.size w (w.alloc (Obj.cells #[Value.int .u8 y.1,Value.int .u16 y.2] 52)):=(Below.refl _ w).alloc (apM _) _
 obtain⟨hx0,hx1⟩:=kG (x:=y) (World.alloc_heap_new w (Obj.cells #[Value.int .u8 y.1,Value.int .u16 y.2] 52))
 have hc1:=(hB1.cell (p:=⟨bc,0,none⟩) hb).trans hc
 gi_wp2_with (refine⟨trivial,?_⟩;gi_at_call 176;refine(ha _ hB1).mono ?_;rintro e w3 ⟨rfl,h1⟩)
 refine bodyPost_ret (results_tmp rfl _ _ _) rfl ?_
 exact⟨rfl,hB1.trans (h1.mono (by simp))⟩
end Go.Proofs.YtjhpjjbnojbikaaGreat
namespace Go.Proofs.YtjhpjjbnojbikaaGreat
open Go Go.RowKit Go.Sy
attribute [local go_sem] Oper.semAt_some
open Go.Eng hiding ae
noncomputable def tX:List AV→Bool
 |[.int 1 _,.int 2 _]=>true
 |_=>false
def gz:List AV→Int×Int
 |[.int _ a,.int _ b]=>(a,b)
 |_=>(0,0)
theorem Of:∀{el:List AV},tX el=true→el=[.int 1 (gz el).1,.int 2 (gz el).2]:=by
 intro el h
 unfold tX at h
 split at h
 ·rfl
 ·cases h
noncomputable def xz (el:List AV):List (List AV)→Bool
 |[]=>false
 |d::r=>Bool.rec (xz el r) true (and (decide ((gz el).1=(gz d).1)) (decide ((gz el).2=(gz d).2)))
theorem memZ_eq {el:List AV}:∀{ds:List (List AV)},xz el ds=decide (gz el∈ds.map gz)
 |[]=>by simp[xz]
 |d::r=>by
  have ih:=memZ_eq (el:=el) (ds:=r)
  unfold xz
  rw[ih]
  by_cases h:gz el=gz d
  ·simp[h]
  ·have:(and (decide ((gz el).1=(gz d).1)) (decide ((gz el).2=(gz d).2)))=false:=by
    simp only[Bool.and_eq_false_iff,decide_eq_false_iff_not]
    by_cases h1:(gz el).1=(gz d).1
    ·exact .inr fun h2=>h (Prod.ext h1 h2)
    ·exact .inl h1
   rw[this]
   simp[h]
noncomputable def GF (q:List AV→Bool):List (List AV)→(List (List AV)→Nat→Bool)→Bool
 |[],k=>k [] 0
 |el::r,k=>Bool.rec (GF q r k) (GF q r fun l n=>fN (Nat.succ n) fun m=>k (el::l) m) (q el)
theorem CA {q:List AV→Bool}:∀{ev:List (List AV)} {k:List (List AV)→Nat→Bool},GF q ev k=k (ev.filter q) (ev.filter q).length
 |[],k=>rfl
 |el::r,k=>by
  unfold GF
  cases h:q el
  ·rw[List.filter_cons_of_neg (by simp[h])];exact CA
  ·rw[List.filter_cons_of_pos h]
   refine(CA (ev:=r)).trans ?_
   rw[bY];rfl
noncomputable def fj:fF:=fun us M nx K=>match us with
 |[.fn f [.ptr a oa,.ptr b ob]]=>aa (Nat.beq f 178) (aa (Nat.beq oa 0) (aa (Nat.beq ob 0) (eH M a fun _ _ _ ea=>eH M b fun _ _ _ eb=>match ea,eb with
  |[[_,_,.sl v vo m _]],[[.fn g [.ptr c oc]]]=>aa (Nat.beq g 160) (aa (Nat.beq vo 0) (aa (Nat.beq oc 0) (eH M c fun _ _ _ ec=>match ec with
   |[[.fn h [.ptr d od]]]=>aa (Nat.beq h 176) (aa (Nat.beq od 0) (eH M d fun _ _ _ ed=>match ed with
    |[[.nilS]]=>eH M v fun _ _ sv ev=>aa (Nat.beq sv 2) (aa (Nat.beq ev.length m) (aa (Nat.blt 0 m) (aa (Nat.ble m 1000) (aa (ev.all tX) (T.set bM M nx (some (.blk true 52 2 ev)) fun M'=>fN (Nat.succ nx) fun n=>K (.sl nx 0 m (.rest 0)) M' n)))))
    |[[.sl l lo n2 _]]=>eH M v fun _ _ sv ev=>eH M l fun _ _ sl el=>aa (Nat.beq sv 2) (aa (Nat.beq ev.length m) (aa (Nat.blt 0 m) (aa (Nat.ble m 1000) (aa (ev.all tX)
      (aa (Nat.beq sl 2) (aa (Nat.beq el.length n2) (aa (Nat.blt 0 n2) (aa (Nat.ble n2 1000) (aa (el.all tX) (aa (Nat.beq lo 0)
      (GF (fun x=>not (xz x el)) ev fun kl kn=>aa (Nat.blt 0 kn) (T.set bM M nx (some (.blk true 52 2 kl)) fun M'=>fN (Nat.succ nx) fun n=>K (.sl nx 0 kn (.rest 0)) M' n))))))))))))
    |_=>false))
   |_=>false)))
  |_,_=>false)))
 |_=>false
noncomputable def fY:fF:=fun us M nx K=>match us with
 |[.agg [.int gk g,.int nk n,.sl v vo m _],.sl l lo n2 _]=>aa (Nat.beq gk 1) (aa (Nat.beq nk 3) (aa (Nat.beq vo 0) (aa (Nat.beq lo 0) (eH M v fun _ _ sv ev=>eH M l fun _ _ sl el=>aa (Nat.beq sv 2) (aa (Nat.beq sl 2) (aa (Nat.beq ev.length m) (aa (Nat.beq el.length n2) (aa (Nat.blt 0 m) (aa (Nat.blt 0 n2) (aa (Nat.ble m 1000) (aa (Nat.ble n2 1000) (aa (ev.all tX) (aa (el.all tX) (GF (fun x=>xz x el) ev fun _ kn=>Bool.rec (K (.bool false) M nx) (K (.bool true) M nx) (Nat.ble (Nat.succ (Nat.div m 2)) kn)))))))))))))))
 |_=>false
section
variable {E:Env} {ρ:Ren} {G:GS} {F:List bh} {M:T} {nx:Nat} {w:World}
theorem BU (hs:Sim E ρ G F M nx w) {v Ty:Nat} {g:Bool} {els:List (List AV)} (hv:M.get v=some (.blk g Ty 2 els)) (ha:els.all tX=true) (h0:0<els.length):∃e,ρ v=some e∧e.b<w.heap.size∧Procs w e.b (els.map gz):=by
 have hal:∀(j:Nat) (el:List AV),els[j]?=some el→el=[.int 1 (gz el).1,.int 2 (gz el).2]:=fun j el h=>Of (List.all_eq_true.1 ha el (apA h))
 obtain⟨el0,he0⟩:∃el0,els[0]?=some el0:=⟨_,List.getElem?_eq_getElem h0⟩
 obtain⟨e,x,h1,h2,h3⟩:=hs.cell (q:=0) (r:=0) (v:=.int 1 (gz el0).1) hv he0 (by rw[hal _ _ he0];rfl)
 refine⟨e,h1,?_,fun j hj z hz=> ?_⟩
 ·rcases Nat.lt_or_ge e.b w.heap.size with h|h
  ·exact h
  ·rw[World.cell?,Array.getElem?_eq_none h]at h3;cases h3
 ·rw[List.getElem?_map]at hz
  obtain⟨el,hel,rfl⟩:=apE.1 hz
  obtain⟨e1,x1,a1,a2,a3⟩:=hs.cell (q:=j) (r:=0) (v:=.int 1 (gz el).1) hv hel (by rw[hal _ _ hel];rfl)
  obtain⟨e2,x2,b1,b2,b3⟩:=hs.cell (q:=j) (r:=1) (v:=.int 2 (gz el).2) hv hel (by rw[hal _ _ hel];rfl)
  obtain rfl:e1=e:=Option.some.inj (a1.symm.trans h1)
  obtain rfl:e2=e1:=Option.some.inj (b1.symm.trans h1)
  simp only[den,apQ]at a2 b2
  subst a2;subst b2
  exact⟨by have:=a3;simp only[Nat.add_zero]at this;exact this,b3⟩
end
theorem eP {k:Nat}:dH Tryz.prog 162 k fY:=by
 intro us xs E ρ G F M nx w K R hE hs hd hk hr
 unfold fY at hk
 split at hk
 case h_2=>cases hk
 rename_i gk g nk n v vo m vc l lo n2 lc
 obtain⟨e1,hk⟩:=aj hk
 obtain⟨e2,hk⟩:=aj hk
 obtain⟨e3,hk⟩:=aj hk
 obtain⟨e4,hk⟩:=aj hk
 obtain⟨gv,Tv,sv,ev,hv,hk⟩:=cM hk
 obtain⟨gl,Tl,sl,el,hl,hk⟩:=cM hk
 obtain⟨e5,hk⟩:=aj hk
 obtain⟨e6,hk⟩:=aj hk
 obtain⟨e7,hk⟩:=aj hk
 obtain⟨e8,hk⟩:=aj hk
 obtain⟨e9,hk⟩:=aj hk
 obtain⟨e10,hk⟩:=aj hk
 obtain⟨e11,hk⟩:=aj hk
 obtain⟨e12,hk⟩:=aj hk
 obtain⟨e13,hk⟩:=aj hk
 obtain⟨e14,hK⟩:=aj hk
 have e1:=apz e1
 have e2:=apz e2
 have e3:=apz e3
 have e4:=apz e4
 have e5:=apz e5
 have e6:=apz e6
 have e7:=apz e7
 have e8:=apz e8
 subst e1;subst e2;subst e3;subst e4;subst e5;subst e6;subst e7;subst e8
 rw[apV]at e9 e10
 rw[Nat.ble_eq]at e11 e12
 obtain⟨b1,h1,l1,p1⟩:=BU hs hv e13 e9
 obtain⟨b2,h2,l2,p2⟩:=BU hs hl e14 e10
 obtain⟨x0,ys,q0,q1,rfl⟩:=cE hd
 obtain⟨x1,ys2,q2,q3,rfl⟩:=cE q1
 obtain rfl:ys2=[]:=by simpa[aS] using q3.symm
 simp only[den,aS,h1,h2,apQ]at q0 q2
 subst q0;subst q2
 have body:=ada g n b1.b b2.b (df b1 vc) (df b2 lc) (ev.map gz) (el.map gz) (by simpa using e11) (by simpa using e12) w l1 l2 p1 p2
 rw[apx,apx]at body
 rw[CA]at hK
 have hf:((ev.map gz).filter fun x=>decide (x∈el.map gz)).length=(ev.filter fun x=>xz x el).length:=by
  rw[List.filter_map,apx]
  congr 2
  funext x
  exact memZ_eq.symm
 rw[hf]at body
 refine(callsIn_wide.1 body).mono ?_
 rintro en w' ⟨rfl,hb⟩
 by_cases hq:ev.length / 2+1≤(ev.filter fun x=>xz x el).length
 ·rw[show Nat.ble (Nat.succ (Nat.div ev.length 2)) (ev.filter fun x=>xz x el).length=true from by rw[Nat.ble_eq];exact hq]at hK
  exact hr _ _ _ E ρ w' _ hK hE (MLe.refl _) (fun _ _ _ h=>h) (hs.ext hb) (by simp[den,hq])
 ·rw[show Nat.ble (Nat.succ (Nat.div ev.length 2)) (ev.filter fun x=>xz x el).length=false from Bool.eq_false_iff.2 fun h=>hq (by rw[Nat.ble_eq]at h;exact h)]at hK
  exact hr _ _ _ E ρ w' _ hK hE (MLe.refl _) (fun _ _ _ h=>h) (hs.ext hb) (by simp[den,hq])
theorem akg {E:Env} {ρ:Ren} {nx g cap n:Nat} (h:ρ nx=some ⟨g,cap⟩):den E ρ (.sl nx 0 n (.rest 0))=some (.slice (some ⟨g,0,none⟩) n cap):=by
 simp[den,h,df]
theorem Wm {E:Env} {ρ:Ren}:∀{els:List (List AV)},els.all tX=true→aS E ρ els.flatten=some (GI (els.map gz))
 |[],_=>rfl
 |el::els,h=>by
  obtain⟨h1,h2⟩:=aU h
  have e:=Of h1
  have:=Wm (E:=E) (ρ:=ρ) h2
  rw[e]
  simp only[apB,apC,apD,aS,den,this,List.map_cons,List.flatMap_cons]
  rfl
theorem dW {k:Nat}:dH Tryz.prog 158 k fj:=by
 intro us xs E ρ G F M nx w K R hE hs hd hk hr
 unfold fj at hk
 split at hk
 case h_2=>cases hk
 rename_i f a oa b ob
 obtain⟨e1,hk⟩:=aj hk
 obtain⟨e2,hk⟩:=aj hk
 obtain⟨e3,hk⟩:=aj hk
 obtain⟨ga,Ta,sa,ea,ha,hk⟩:=cM hk
 obtain⟨gb,Tb,sb,eb,hb,hk⟩:=cM hk
 split at hk
 case h_2=>cases hk
 rename_i c0 c1 v vo m vc g c oc hk0
 obtain⟨e4,hk⟩:=aj hk
 obtain⟨e5,hk⟩:=aj hk
 obtain⟨e6,hk⟩:=aj hk
 obtain⟨gc,Tc,sc,ec,hc,hk⟩:=cM hk
 split at hk
 case h_2=>cases hk
 rename_i h d od
 obtain⟨e7,hk⟩:=aj hk
 obtain⟨e8,hk⟩:=aj hk
 obtain⟨gd,Td,sd,ed,hdd,hk'⟩:=cM hk
 clear hk
 have e1:=apz e1
 have e2:=apz e2
 have e3:=apz e3
 have e4:=apz e4
 have e5:=apz e5
 have e6:=apz e6
 have e7:=apz e7
 have e8:=apz e8
 subst e1;subst e2;subst e3;subst e4;subst e5;subst e6;subst e7;subst e8
 have lt:∀{b o:Nat} {x:Value},w.cell? ⟨b,o,none⟩=some x→b<w.heap.size:=fun{b o x} h=>by
  rcases Nat.lt_or_ge b w.heap.size with q|q
  ·exact q
  ·rw[World.cell?,Array.getElem?_eq_none q]at h;cases h
 obtain⟨ba,xa,a1,a2,a3⟩:=hs.cell (q:=0) (r:=2) ha rfl rfl
 obtain⟨bb,xb,b1,b2,b3⟩:=hs.cell (q:=0) (r:=0) hb rfl rfl
 obtain⟨bc,xc,c1,c2,c3⟩:=hs.cell (q:=0) (r:=0) hc rfl rfl
 simp only[Nat.zero_mul,Nat.zero_add,Nat.add_zero]at a3 b3 c3
 -- what is the same,whoever is gone
 have all:∀bd,ρ d=some bd→∀(f:Int×Int→Bool) (kl:List (List AV)) (kn:Nat) (gv:Bool) (Tv:Nat) (ev:List (List AV)),M.get v=some (.blk gv Tv 2 ev)→ev.length=m→0<m→m≤1000→ev.all tX=true→kl.all tX=true→kl.map gz=(ev.map gz).filter f→kl.length=kn→0<kn→
   (∀(y:Int×Int) (W':World),Keep (· <w.heap.size) w W'→CallsIn Fence.wide 3 Tryz.prog 176 #[.agg #[.int .u8 y.1,.int .u16 y.2],.pointer (some ⟨bd.b,0,none⟩)] W' fun e W''=>e= .returned (.bool (!f y))∧Below W'.heap.size W' W'')→
   (T.set bM M nx (some (.blk true 52 2 kl)) fun M'=>fN (Nat.succ nx) fun n=>K (.sl nx 0 kn (.rest 0)) M' n)=true→Calls Tryz.prog 158 xs.toArray w R:=by
  intro bd d1 f kl kn gv Tv ev hv e10 e11 e12 e13 e14 e15 e16 e17 hgone hk
  obtain⟨M',hK,g1,g2⟩:=T.set_ok _ _ _ _ _ hk
  rw[bY]at hK
  subst e10;subst e16
  obtain⟨bv,h1,l1,p1⟩:=BU hs hv e13 e11
  simp only[den,aS,h1,c1,d1,apQ]at a2 b2 c2
  subst a2;subst b2;subst c2
  obtain⟨x0,ys,q0,q1,rfl⟩:=cE hd
  obtain rfl:ys=[]:=by simpa[aS] using q1.symm
  simp only[den,aS,a1,b1,apQ]at q0
  subst q0
  have body:=acd ba.b bb.b bv.b 0 _ 160 #[.pointer (some ⟨bc.b,0,none⟩)] (ev.map gz) f (by simpa using e12) (.inl rfl) w l1 (lt a3) (lt b3)
   (fun x _ W' hW=>by
    have h:=ag1 (b:=3) (agc bc.b bd.b x (!f x) W' (Nat.lt_of_lt_of_le (lt c3) hW.size) ((hW.cell (p:=⟨bc.b,0,none⟩) (lt c3) (lt c3)).trans c3) (fun W2 hB=>hgone x W2 (hW.trans (Keep.of hB))))
    rw[Bool.not_not]at h
    exact h)
   (by rw[apx];exact a3) b3 (fun j hj x hx=>by simpa using p1 j hj x hx)
  refine(callsIn_wide.1 body).mono ?_
  rintro en w' ⟨r,rfl,hrow,hB⟩
  rw[←e15,apx]at hrow
  rcases hrow.2 with⟨_,h0⟩|⟨g',cap,cur,rfl,r1,r2,r3,r4,r5,r6⟩
  ·omega
  have hfr:=hs.fresh nx (apM _)
  have hS:Sim E (ρ.set nx ⟨g',cap⟩) G F M' (nx+1) w':=hs.regrow (i:=nx) (old:=none) (o':=.blk true 52 2 kl) (ob':=.cells cur 52 (0,0)) hfr (Nat.le_succ _) (Nat.lt_succ_self _) (fun b h=>by cases h)
   ⟨hB.os,hB.tape,hB.output,hB.size,fun k hk _=>hB.block k hk⟩ r2 (.inr r1)
   ⟨(fun el hel=>by rw[Of (List.all_eq_true.1 e14 el hel)];rfl),by decide,cur,GI (kl.map gz),rfl,Wm e14,by simpa using r5,by simpa using r6,by simpa using r3,r4⟩ g1 (fun m hm _=>g2 m hm) (fun h=>absurd rfl h)
  exact hr _ _ _ E _ w' _ hK hE (MLe.refl _) (fun m e' hm he=>Ren.le_set _ hfr m e' he) hS (akg (Ren.set_self _ _ _))
 split at hk'
 ·have hk:=hk'
  obtain⟨gv,Tv,sv,ev,hv,hk⟩:=cM hk
  obtain⟨e9,hk⟩:=aj hk
  obtain⟨e10,hk⟩:=aj hk
  obtain⟨e11,hk⟩:=aj hk
  obtain⟨e12,hk⟩:=aj hk
  obtain⟨e13,hz⟩:=aj hk
  have e9:=apz e9
  have e10:=apz e10
  subst e9
  rw[apV]at e11
  rw[Nat.ble_eq]at e12
  obtain⟨bd,xd,d1,d2,d3⟩:=hs.cell (q:=0) (r:=0) hdd rfl rfl
  simp only[den,apQ]at d2
  subst d2
  simp only[Nat.zero_mul,Nat.zero_add,Nat.add_zero]at d3
  exact all bd d1 (fun _=>true) ev m gv Tv ev hv e10 e11 e12 e13 e13 (by rw[List.filter_eq_self.2 (fun _ _=>rfl)]) e10 e11
   (fun y W' hW=>ag1 (aco bd.b y W' (Nat.lt_of_lt_of_le (lt d3) hW.size) ((hW.cell (p:=⟨bd.b,0,none⟩) (lt d3) (lt d3)).trans d3))) hz
 ·rename_i l lo n2 lc
  have hk:=hk'
  obtain⟨gv,Tv,sv,ev,hv,hk⟩:=cM hk
  obtain⟨gl,Tl,sl,el,hl,hk⟩:=cM hk
  obtain⟨e9,hk⟩:=aj hk
  obtain⟨e10,hk⟩:=aj hk
  obtain⟨e11,hk⟩:=aj hk
  obtain⟨e12,hk⟩:=aj hk
  obtain⟨e13,hk⟩:=aj hk
  obtain⟨e14,hk⟩:=aj hk
  obtain⟨e15,hk⟩:=aj hk
  obtain⟨e16,hk⟩:=aj hk
  obtain⟨e17,hk⟩:=aj hk
  obtain⟨e18,hk⟩:=aj hk
  obtain⟨e19,hk⟩:=aj hk
  rw[CA]at hk
  obtain⟨e20,hz⟩:=aj hk
  have e9:=apz e9
  have e10:=apz e10
  have e14:=apz e14
  have e15:=apz e15
  have e19:=apz e19
  subst e9;subst e14;subst e15;subst e19
  rw[apV]at e11 e16 e20
  rw[Nat.ble_eq]at e12 e17
  obtain⟨bd,xd,d1,d2,d3⟩:=hs.cell (q:=0) (r:=0) hdd rfl rfl
  obtain⟨bl,h2,l2,p2⟩:=BU hs hl e18 e16
  simp only[den,h2,apQ]at d2
  subst d2
  simp only[Nat.zero_mul,Nat.zero_add,Nat.add_zero]at d3
  have hall:(ev.filter fun x=>not (xz x el)).all tX=true:=List.all_eq_true.2 fun x hx=>List.all_eq_true.1 e13 x (List.mem_filter.1 hx).1
  refine all bd d1 (fun x=> !decide (x∈el.map gz)) _ _ gv Tv ev hv e10 e11 e12 e13 hall ?_ rfl e20 ?_ hz
  ·rw[List.filter_map]
   congr 2
   funext x
   simp[memZ_eq]
  ·intro y W' hW
   have h:=ag1 (b:=3) (SC bl.b bd.b (df bl lc) (el.map gz) (by simpa using e17) y W' (Nat.lt_of_lt_of_le l2 hW.size) (Nat.lt_of_lt_of_le (lt d3) hW.size) (p2.keep hW l2 l2) (by rw[apx];exact(hW.cell (p:=⟨bd.b,0,none⟩) (lt d3) (lt d3)).trans d3))
   simpa using h
 ·cases hk'
attribute [local go_sem] Oper.semAt_some
open Go.Eng hiding ae
theorem Dw {F:Fence} {n:Nat} {P:Program} (w:World) {ops:Array Oper} {rest:List Oper} {o:Oper} {a:Act} {Q:Exit→Act→World→Prop} (hgd:o.guard=none) (s x:Operand) (t tn:TypeId)
  (ho:o.op= .call {callee:=.builtin .append,args:= #[s,x],argTypes:= #[t,tn]}) (vs vx:Value) (hs:a.eval s=vs) (hx:a.eval x=vx)
  (v':Value) (w':World) (hr:(Builtin.append_ #[t,tn] o.type #[vs,vx]).run P w= .ok v' w') (h:wpListIn F n P ops Q rest (a.put o.dst v') w'):wpListIn F n P ops Q (o::rest) a w:=by
 refine wpListIn_plain hgd fun K hK'=> ?_
 unfold Oper.wpIn
 refine⟨?_,?_⟩
 ·simp[Oper.about,ho,resolve,Target.leads,Sem.run_pure]
 ·rw[Oper.semAt_plain F _ _ (by rw[ho];intro c hc';cases hc')]
  simp[execOp,ho,resolve,invoke,builtin,hs,hx,hr,Result.andThen]
  exact hK' _ _ h
theorem aaj {cs:Array Value} {n c:Nat} (h:cs.size=2) (hc:n≤c):(Builtin.zeroCells cs n++Builtin.zeroCells cs (c - n)).size=c*2:=by
 simp[Builtin.zeroCells,h]
 omega
theorem WG (w:World) (o:Obj):(w.alloc o).drew.heap[w.heap.size]?=some o:=by
 show(w.heap.push o)[w.heap.size]?=some o
 simp
theorem WH (w:World) (o:Obj):Below w.heap.size w (w.alloc o).drew:=⟨rfl,rfl,rfl,by
 show _≤(w.heap.push o).size
 simp,fun k hk=>by
 show(w.heap.push o)[k]?=_
 rw[Array.getElem?_push,if_neg (by omega)]⟩
theorem aka (w:World):CallsIn Fence.wide 3 Tryz.prog 156 #[.slice none 0 0,.int .i64 0] w fun e W'=>e= .returned (.slice none 0 0)∧W'=w:=by
 refine callsIn_of_wp Tryz.func156 rfl trivial ?_ rfl
 simp only[Tryz.ntmps156,List.size_toArray,apw,apy,Nat.reduceAdd,Nat.reduceSub,Array.replicate_succ,Array.replicate_zero,List.push_toArray,List.append_toArray,apD,apC]
 gi_wp2
 refine bodyPost_ret (results_tmp rfl _ _ _) rfl ?_
 exact⟨rfl,rfl⟩
set_option maxRecDepth 100000 in
set_option maxHeartbeats 1000000 in
theorem agq (n:Nat) (h0:0<n) (hn:n≤1000) (w:World):CallsIn Fence.wide 3 Tryz.prog 156 #[.slice none 0 0,.int .i64 n] w fun e W'=>∃cap cur,e= .returned (.slice (some ⟨w.heap.size,0,none⟩) 0 cap)∧cur.size=cap*2∧cap≤maxLen∧W'.heap[w.heap.size]?=some (.cells cur 52 (0,0))∧Below w.heap.size w W':=by
 obtain⟨i0,z,hi,hz0,hz1,hz2,hz3,hz4⟩:=kE (P:=Tryz.prog) (E:=52) (size:=2) (bytes:=4) (by kernel_rfl)
 have hb:n*i0.bytes≤281474976710656:=by rw[hz3];omega
 refine callsIn_of_wp Tryz.func156 rfl trivial ?_ rfl
 simp only[Tryz.ntmps156,List.size_toArray,apw,apy,Nat.reduceAdd,Nat.reduceSub,Array.replicate_succ,Array.replicate_zero,List.push_toArray,List.append_toArray,apD,apC]
 have hr:=Lib.run_append_nil_zeros (P:=Tryz.prog) w 43 3 43 52 i0 z .i64 .i64 Tryz.underlying43 Tryz.underlying3 hi hz0 n h0 (by omega) (by omega) hb
 have hc1:=grownCap_ge w n 0 52
 have hc2:=grownCap_le_maxLen w n 0 52 (by have:maxLen=9223372036854775807:=rfl;omega)
 gi_wp2_with (gi_at_builtin;refine Dw _ rfl _ _ 43 3 rfl _ _ rfl rfl _ _ hr ?_)
 all_goals refine bodyPost_ret (results_tmp rfl _ _ _) rfl ⟨_,_,rfl,?_,hc2,WG _ _,WH _ _⟩
 ·exact aaj hz2 hc1
 ·rename_i hno
  exfalso
  cases z<;>first|exact hno _ rfl|(simp[Value.cells]at hz2;done)
noncomputable def kN:fF:=fun us M nx K=>match us with
 |[.nilS,.int k (.ofNat n)]=>aa (Nat.beq k 0) (Nat.rec (K .nilS M nx) (fun _ _=>aa (Nat.ble n 1000) (T.set bM M nx (some (.blk true 52 2 [])) fun M'=>fN (Nat.succ nx) fun q=>K (.sl nx 0 0 (.rest 0)) M' q)) n)
 |_=>false
theorem fS {k:Nat}:dH Tryz.prog 156 k kN:=by
 intro us xs E ρ G F M nx w K R hE hs hd hk hr
 unfold kN at hk
 split at hk
 case h_2=>cases hk
 rename_i kk n
 obtain⟨e1,hk⟩:=aj hk
 have e1:=apz e1
 subst e1
 obtain⟨x0,ys,q0,q1,rfl⟩:=cE hd
 obtain⟨x1,ys2,q2,q3,rfl⟩:=cE q1
 obtain rfl:ys2=[]:=by simpa[aS] using q3.symm
 simp only[den,apQ]at q0 q2
 subst q0;subst q2
 cases n with
 |zero=>
  refine(callsIn_wide.1 (aka w)).mono ?_
  rintro en w' ⟨rfl,rfl⟩
  exact hr _ _ _ E ρ w' _ hk hE (MLe.refl _) (fun _ _ _ h=>h) hs rfl
 |succ m=>
  obtain⟨e2,hk⟩:=aj (show aa ((m+1).ble 1000) (T.set bM M nx (some (AObj.blk true 52 2 [])) fun M'=>fN nx.succ fun q=>K (AV.sl nx 0 0 (ACap.rest 0)) M' q)=true from hk)
  rw[Nat.ble_eq]at e2
  obtain⟨M',hK,g1,g2⟩:=T.set_ok _ _ _ _ _ hk
  rw[bY]at hK
  refine(callsIn_wide.1 (agq (m+1) (Nat.succ_pos _) e2 w)).mono ?_
  rintro en w' ⟨cap,cur,rfl,r1,r2,r3,hB⟩
  have hfr:=hs.fresh nx (apM _)
  have hS:Sim E (ρ.set nx ⟨w.heap.size,cap⟩) G F M' (nx+1) w':=hs.regrow (i:=nx) (old:=none) (o':=.blk true 52 2 []) (ob':=.cells cur 52 (0,0)) hfr (Nat.le_succ _) (Nat.lt_succ_self _) (fun b h=>by cases h)
   ⟨hB.os,hB.tape,hB.output,hB.size,fun k hk _=>hB.block k hk⟩ r3 (.inr (apM _))
   ⟨(fun el hel=>by simp at hel),by decide,cur,[],rfl,rfl,by simpa using r1,by simp,by simp,r2⟩ g1 (fun m hm _=>g2 m hm) (fun h=>absurd rfl h)
  exact hr _ _ _ E _ w' _ hK hE (MLe.refl _) (fun m e' hm he=>Ren.le_set _ hfr m e' he) hS (by simp[den,Ren.set_self,df])
end Go.Proofs.YtjhpjjbnojbikaaGreat
