/- Definitions and lemmas of the proof, without a condition of their own. -/
import Derived.Test.YtacomabmhnodlaaGreatDoorM1
import Derived.LoopN
import Derived.Laws.ResultCell
import Derived.Lib.ItoaMem
import Derived.Lib.Join
import Derived.Shelf.Strings.Builder1
import Derived.Shelf.Strings.Builder2
import Derived.Shelf.Strings.OnBuilder
import Derived.Shelf.Small.Strs
import Derived.Shelf.Small.Wraps
import Derived.Shelf.Utf8.RuneCount
import Derived.Shelf.Strconv.Itoa0
import Derived.Shelf.Strconv.Itoa1
import Derived.Shelf.LaysM
import Derived.Shelf.Strconv.Itoa2
import Derived.Shelf.Strconv.Itoa3
import Derived.Shelf.Strconv.Itoa4
import Derived.Ground.MpProg
import Derived.Shelf.Pu.ParseUintPublic10
import Derived.Shelf.Pu.ErrVarParseUint
import Derived.Shelf.Strings.Search1
import Derived.Shelf.Strings.Search2
import Derived.Shelf.Strings.Search3
import Derived.Shelf.Strings.Count
import Derived.Shelf.Strings.Shaped
import Derived.Shelf.GgClosure.StringsIndexFunc
import Derived.Ground.GgwProg
import Derived.Shelf.GgClosure.StringsIndexFuncTop
import Derived.Shelf.GgClosure.StringsRunes
import Derived.Shelf.Strings.Prefix
import Derived.Shelf.Strings.Split
import Derived.Shelf.Strings.SplitShaped
import Derived.Shelf.Unicode.Decode
import Derived.Shelf.Strings.RuneCount
import Derived.Shelf.Strings.Explode
import Derived.Shelf.Unicode.DecodeSlow
import Derived.Shelf.Unicode.DecodeAny
import Derived.Shelf.Strings.FuncGrows
import Derived.Test.YtacomabmhnodlaaGreatDoorProg
import Derived.Lib.Split
import Derived.Lib.IndexBytes
import Derived.Lib.AtoiAll
import Derived.Lib.ItoaNum
import Derived.Lib.JoinLaws
import Derived.Test.YtacomabmhnodlaaGreatDoorChecked
import Derived.KernelRfl
import Derived.WalkKit
import Derived.Lib.AppendIntMem
import Derived.Lib.ParseIntBCases
open Bool renaming and_eq_true→aaU
open List renaming cons_append→aaJ,eq_nil_of_length_eq_zero→aaX,flatten_cons→aaH,getElem?_take_of_lt→aaT,length_append→aaC,length_map→aaE,map_cons→aaI,mem_cons→aaM,mem_of_getElem?→aaG,nil_append→aaK
open Nat renaming blt_eq→aa0,eq_of_beq_eq_true→aaF,le_refl→aaS
open Option renaming map_eq_some_iff→aaL
open Option.some renaming inj→aaZ,injEq→aaV
open UInt8 renaming ofNat→aaY
namespace Go.Sy
open Go Go.RowKit Go.Eng
noncomputable def wJ (ps:List (Nat×Nat)) (i:Nat):Option Nat:=List.rec none (fun p _ ih=>Bool.rec ih (some p.2) (Nat.beq p.1 i)) ps
theorem jj:∀{ps:List (Nat×Nat)} {i j:Nat},wJ ps i=some j→(i,j)∈ps
 |[],i,j,h=>by cases h
 |p::ps,i,j,h=>by
  have h':(Bool.rec (wJ ps i) (some p.2) (Nat.beq p.1 i):Option Nat)=some j:=h
  cases hb:Nat.beq p.1 i with
  |true=>
   rw[hb]at h'
   cases h'
   have:=aaF hb
   subst this
   simp
  |false=>rw[hb]at h';exact List.mem_cons_of_mem _ (jj h')
def jo (ps:List (Nat×Nat)) (ρ:Ren):Ren:=fun j=>match ps.find? (fun p=>Nat.beq p.2 j) with|some p=>ρ p.1|none=>none
def gh:List (Nat×Nat)→Bool
 |[]=>true
 |p::ps=>(ps.all fun q=> !Nat.beq q.2 p.2)&&(ps.all fun q=> !Nat.beq q.1 p.1)&&gh ps
theorem dA:∀{ps:List (Nat×Nat)} {ρ:Ren} {i j:Nat},gh ps=true→(i,j)∈ps→jo ps ρ j=ρ i
 |[],ρ,i,j,_,h=>by cases h
 |p::ps,ρ,i,j,ho,h=>by
  simp only[gh,aaU]at ho
  rcases aaM.1 h with rfl|h
  ·simp[jo]
  ·have hne:Nat.beq p.2 j=false:=by
    have:=List.all_eq_true.1 ho.1.1 _ h
    simp only[Bool.not_eq_true']at this
    cases hb:Nat.beq p.2 j with
    |false=>rfl
    |true=>
     have:=aaF hb
     subst this
     simp at this
   have:=dA (ρ:=ρ) ho.2 h
   simp only[jo,List.find?_cons,hne]at this ⊢
   exact this
theorem uw:∀{ps:List (Nat×Nat)} {i j k:Nat},gh ps=true→(i,j)∈ps→(i,k)∈ps→j=k
 |[],i,j,k,_,h,_=>by cases h
 |p::ps,i,j,k,ho,h,h2=>by
  simp only[gh,aaU]at ho
  have hno:∀q∈ps,q.1≠p.1:=fun q hq e=>by
   have:=List.all_eq_true.1 ho.1.2 q hq
   rw[e]at this
   simp at this
  rcases aaM.1 h with e1|h1
  ·rcases aaM.1 h2 with e2|h3
   ·rw[←e1]at e2;injection e2 with _ e;exact e.symm
   ·exact absurd (by rw[←e1]) (hno _ h3)
  ·rcases aaM.1 h2 with e2|h3
   ·exact absurd (by rw[←e2]) (hno _ h1)
   ·exact uw ho.2 h1 h3
noncomputable def zy (ps:List (Nat×Nat)):SY→Option SY
 |.prow i n=>(wJ ps i).map fun j=>.prow j n
 |.psub i sz a n=>(wJ ps i).map fun j=>.psub j sz a n
 |.pfix i n c=>(wJ ps i).map fun j=>.pfix j n c
 |.rptr i sz q o=>(wJ ps i).map fun j=>.rptr j sz q o
 |.kmp i=>(wJ ps i).map fun j=>.kmp j
 |s=>some s
mutual
noncomputable def fb (ps:List (Nat×Nat)):AV→Option AV
 |.bad=>none
 |.int k z=>some (.int k z)
 |.bool b=>some (.bool b)
 |.str l=>some (.str l)
 |.nilP=>some .nilP
 |.nilS=>some .nilS
 |.nilM=>some .nilM
 |.nilF=>some .nilF
 |.nilI=>some .nilI
 |.ptr i o=>(wJ ps i).map fun j=>.ptr j o
 |.sl i o n c=>(wJ ps i).map fun j=>.sl j o n c
 |.map i=>(wJ ps i).map fun j=>.map j
 |.yl i=>(wJ ps i).map fun j=>.yl j
 |.any _=>none
 |.sy s=>(zy ps s).map .sy
 |.iface t v=>(fb ps v).map fun u=>.iface t u
 |.fn f c=>(iE ps c).map fun u=>.fn f u
 |.agg l=>(iE ps l).map .agg
 |.tup l=>(iE ps l).map .tup
noncomputable def iE (ps:List (Nat×Nat)):List AV→Option (List AV)
 |[]=>some []
 |v::r=>(fb ps v).bind fun u=>(iE ps r).map fun l=>u::l
end
section
variable {P:Program} {E:Env} {ρ:Ren} {G:GS} {F:List aA} {M:T} {nx:Nat} {w:World} {ps:List (Nat×Nat)} {t2:Nat→Value}
theorem PA (ho:gh ps=true) {s u:SY} {x:Value} (h:zy ps s=some u) (hd:bc E ρ s=some x):bc ⟨t2,E.M⟩ (jo ps ρ) u=some x:=by
 cases s with
 |prow i n=>
  simp only[zy,aaL]at h
  obtain⟨j,h1,rfl⟩:=h
  simp only[bc,dA ho (jj h1)]at hd ⊢
  exact hd
 |psub i sz a n=>
  simp only[zy,aaL]at h
  obtain⟨j,h1,rfl⟩:=h
  simp only[bc,dA ho (jj h1)]at hd ⊢
  exact hd
 |pfix i n c=>
  simp only[zy,aaL]at h
  obtain⟨j,h1,rfl⟩:=h
  simp only[bc,dA ho (jj h1)]at hd ⊢
  exact hd
 |rptr i sz q o=>
  simp only[zy,aaL]at h
  obtain⟨j,h1,rfl⟩:=h
  simp only[bc,dA ho (jj h1)]at hd ⊢
  exact hd
 |kmp i=>
  simp only[zy,aaL]at h
  obtain⟨j,h1,rfl⟩:=h
  simp only[bc,dA ho (jj h1)]at hd ⊢
  exact hd
 |int k z=>cases h;exact hd
 |bool p=>cases h;exact hd
 |str l=>cases h;exact hd
 |imm=>cases h;exact hd
 |pim=>cases h;exact hd
mutual
theorem lm (ho:gh ps=true):∀(v u:AV) (x:Value),fb ps v=some u→den E ρ v=some x→den ⟨t2,E.M⟩ (jo ps ρ) u=some x
 |.bad,u,x,h,_=>by simp[fb]at h
 |.any _,u,x,h,_=>by simp[fb]at h
 |.int _ _,u,x,h,hd|.bool _,u,x,h,hd|.str _,u,x,h,hd|.nilP,u,x,h,hd|.nilS,u,x,h,hd|.nilM,u,x,h,hd|.nilF,u,x,h,hd|.nilI,u,x,h,hd=>by
  simp only[fb,aaV]at h
  subst h
  simpa[den] using hd
 |.ptr i o,u,x,h,hd=>by
  simp only[fb,aaL]at h
  obtain⟨j,h1,rfl⟩:=h
  simp only[den,dA ho (jj h1)]at hd ⊢
  exact hd
 |.sl i o n c,u,x,h,hd=>by
  simp only[fb,aaL]at h
  obtain⟨j,h1,rfl⟩:=h
  simp only[den,dA ho (jj h1)]at hd ⊢
  exact hd
 |.map i,u,x,h,hd=>by
  simp only[fb,aaL]at h
  obtain⟨j,h1,rfl⟩:=h
  simp only[den,dA ho (jj h1)]at hd ⊢
  exact hd
 |.yl i,u,x,h,hd=>by
  simp only[fb,aaL]at h
  obtain⟨j,h1,rfl⟩:=h
  simp only[den,dA ho (jj h1)]at hd ⊢
  exact hd
 |.sy s,u,x,h,hd=>by
  simp only[fb,aaL]at h
  obtain⟨s',h1,rfl⟩:=h
  simp only[den]at hd ⊢
  exact PA ho h1 hd
 |.iface t v,u,x,h,hd=>by
  simp only[fb,aaL]at h
  obtain⟨y,h1,rfl⟩:=h
  simp only[den]at hd ⊢
  rcases e:den E ρ v with _|z
  ·rw[e]at hd;cases hd
  ·rw[e]at hd;rw[lm ho v y z h1 e];exact hd
 |.fn f c,u,x,h,hd=>by
  simp only[fb,aaL]at h
  obtain⟨y,h1,rfl⟩:=h
  simp only[den]at hd ⊢
  rcases e:aD E ρ c with _|z
  ·rw[e]at hd;cases hd
  ·rw[e]at hd;rw[nq ho c y z h1 e];exact hd
 |.agg c,u,x,h,hd=>by
  simp only[fb,aaL]at h
  obtain⟨y,h1,rfl⟩:=h
  simp only[den]at hd ⊢
  rcases e:aD E ρ c with _|z
  ·rw[e]at hd;cases hd
  ·rw[e]at hd;rw[nq ho c y z h1 e];exact hd
 |.tup c,u,x,h,hd=>by
  simp only[fb,aaL]at h
  obtain⟨y,h1,rfl⟩:=h
  simp only[den]at hd ⊢
  rcases e:aD E ρ c with _|z
  ·rw[e]at hd;cases hd
  ·rw[e]at hd;rw[nq ho c y z h1 e];exact hd
theorem nq (ho:gh ps=true):∀(l m:List AV) (xs:List Value),iE ps l=some m→aD E ρ l=some xs→aD ⟨t2,E.M⟩ (jo ps ρ) m=some xs
 |[],m,xs,h,hd=>by
  simp only[iE,aaV]at h
  subst h
  simpa[aD] using hd
 |v::r,m,xs,h,hd=>by
  obtain⟨x,ys,h1,h2,rfl⟩:=bg hd
  simp only[iE,Option.bind_eq_some_iff,aaL]at h
  obtain⟨u,g1,l,g2,rfl⟩:=h
  exact bu (lm ho v u x g1 h1) (nq ho r l ys g2 h2)
end
noncomputable def AR (ps:List (Nat×Nat)):List (List AV)→Option (List (List AV))
 |[]=>some []
 |v::r=>(iE ps v).bind fun u=>(AR ps r).map fun l=>u::l
theorem FU:∀{l m:List AV},iE ps l=some m→m.length=l.length
 |[],m,h=>by simp only[iE,aaV]at h;subst h;rfl
 |v::r,m,h=>by
  simp only[iE,Option.bind_eq_some_iff,aaL]at h
  obtain⟨u,g1,l,g2,rfl⟩:=h
  simp[FU g2]
theorem FV:∀{l m a b:List AV},iE ps l=some a→iE ps m=some b→iE ps (l++m)=some (a++b)
 |[],m,a,b,h,h2=>by simp only[iE,aaV]at h;subst h;simpa using h2
 |v::r,m,a,b,h,h2=>by
  simp only[iE,Option.bind_eq_some_iff,aaL]at h
  obtain⟨u,g1,l,g2,rfl⟩:=h
  simp[iE,g1,FV g2 h2]
theorem AQ:∀{l m:List (List AV)},AR ps l=some m→iE ps l.flatten=some m.flatten∧m.length=l.length∧∀n,(∀x∈l,x.length=n)→∀x∈m,x.length=n
 |[],m,h=>by simp only[AR,aaV]at h;subst h;exact⟨rfl,rfl,fun n _ x hx=>by simp at hx⟩
 |v::r,m,h=>by
  simp only[AR,Option.bind_eq_some_iff,aaL]at h
  obtain⟨u,g1,l,g2,rfl⟩:=h
  obtain⟨h1,h2,h3⟩:=AQ g2
  refine⟨FV g1 h1,by simp[h2],fun n hn x hx=> ?_⟩
  rcases aaM.1 hx with rfl|hx
  ·rw[FU g1];exact hn v (by simp)
  ·exact h3 n (fun y hy=>hn y (by simp[hy])) x hx
noncomputable def AS (ps:List (Nat×Nat)):List (AV×AV×Nat)→Option (List (AV×AV×Nat))
 |[]=>some []
 |e::r=>(fb ps e.1).bind fun k=>(fb ps e.2.1).bind fun v=>(AS ps r).map fun l=>(k,v,e.2.2)::l
theorem DL (ho:gh ps=true):∀{l m:List (AV×AV×Nat)} {ms:List MapEntry},AS ps l=some m→bv E ρ l=some ms→bv ⟨t2,E.M⟩ (jo ps ρ) m=some ms
 |[],m,ms,h,hd=>by
  simp only[AS,aaV]at h
  subst h
  simpa[bv] using hd
 |(k,v,b)::r,m,ms,h,hd=>by
  obtain⟨x,y,ms',h1,h2,h3,rfl⟩:=di hd
  simp only[AS,Option.bind_eq_some_iff,aaL]at h
  obtain⟨k',g1,v',g2,l,g3,rfl⟩:=h
  simp only[bv,lm ho k k' x g1 h1,lm ho v v' y g2 h2,DL ho g3 h3]
noncomputable def fu (ps:List (Nat×Nat)):AObj→Option AObj
 |.blk g Ty sz els=>(AR ps els).map fun e=>.blk g Ty sz e
 |.map es cl=>(AS ps es).map fun e=>.map e cl
 |.prow Ty sz α l enc=>some (.prow Ty sz α l enc)
 |.kmap sure ak av α l k v=>some (.kmap sure ak av α l k v)
 |.defs=>some .defs
 |.iter ..=>none
theorem zB (ho:gh ps=true) {e:dw} {o o':AObj} {ob:Obj} (h:fu ps o=some o') (hr:ORel E ρ e o ob):ORel ⟨t2,E.M⟩ (jo ps ρ) e o' ob:=by
 cases o with
 |blk g Ty sz els=>
  simp only[fu,aaL]at h
  obtain⟨els',h1,rfl⟩:=h
  obtain⟨f1,f2,f3⟩:=AQ h1
  obtain⟨q0,q1,arr,xs,q2,q3,q4⟩:=hr
  refine⟨f3 sz q0,q1,arr,xs,q2,nq ho _ _ _ f1 q3,?_⟩
  rw[f2];exact q4
 |map es cl=>
  simp only[fu,aaL]at h
  obtain⟨es',h1,rfl⟩:=h
  obtain⟨ms,q1,q2⟩:=hr
  exact⟨ms,DL ho h1 q1,q2⟩
 |iter=>simp[fu]at h
 |defs=>
  simp only[fu,aaV]at h
  subst h;exact hr
 |prow Ty sz α l enc=>
  simp only[fu,aaV]at h
  subst h;exact hr
 |kmap sure ak av α l k v=>
  simp only[fu,aaV]at h
  subst h
  obtain⟨es,cl,ms,h1,h2,h3⟩:=hr
  exact⟨es,cl,ms,h1,Ii (E:=E) (E':=⟨t2,E.M⟩) rfl h1 h2,h3⟩
theorem fH {e:dw} {o o':AObj} (h:fu ps o=some o'):bW e o'=bW e o∧(AJ o→AJ o'):=by
 cases o with
 |blk g Ty sz els=>
  simp only[fu,aaL]at h
  obtain⟨els',h1,rfl⟩:=h
  exact⟨rfl,fun q=>q⟩
 |map es cl=>
  simp only[fu,aaL]at h
  obtain⟨es',h1,rfl⟩:=h
  exact⟨rfl,fun q=>q⟩
 |iter=>simp[fu]at h
 |defs=>
  simp only[fu,aaV]at h
  subst h;exact⟨rfl,fun q=>q⟩
 |prow Ty sz α l enc=>
  simp only[fu,aaV]at h
  subst h;exact⟨rfl,fun q=>q⟩
 |kmap sure ak av α l k v=>
  simp only[fu,aaV]at h
  subst h;exact⟨rfl,fun q=>q⟩
noncomputable def sd (ps:List (Nat×Nat)) (M:T) (l:List (Nat×Nat)):T→(T→Bool)→Bool:=List.rec (fun acc K=>K acc) (fun p _ ih acc K=>cY (M.get p.1) fun o=>cY (fu ps o) fun o'=>T.set bE acc p.2 (some o') fun acc=>ih acc K) l
theorem xH:∀{l:List (Nat×Nat)} {acc:T} {K:T→Bool},(∀j o,acc.get j=some o→∃i o0,(i,j)∈ps∧M.get i=some o0∧fu ps o0=some o)→(∀p∈l,p∈ps)→sd ps M l acc K=true→
  ∃M',K M'=true∧∀j o,M'.get j=some o→∃i o0,(i,j)∈ps∧M.get i=some o0∧fu ps o0=some o
 |[],acc,K,ha,_,h=>⟨acc,h,ha⟩
 |p::l,acc,K,ha,hl,h=>by
  have h':(cY (M.get p.1) fun o=>cY (fu ps o) fun o'=>T.set bE acc p.2 (some o') fun acc=>sd ps M l acc K)=true:=h
  obtain⟨o,h1,h2⟩:=bm h'
  obtain⟨o',h3,h4⟩:=bm h2
  obtain⟨acc',h5,s1,s2⟩:=T.set_ok _ _ _ _ _ h4
  refine xH (fun j ob hj=> ?_) (fun q hq=>hl q (by simp[hq])) h5
  by_cases e:j=p.2
  ·subst e
   rw[s1]at hj
   cases hj
   exact⟨p.1,o,hl p (by simp),h1,h3⟩
  ·rw[s2 j e]at hj
   exact ha j ob hj
noncomputable def WA (live:List Nat) (ps:List (Nat×Nat)) (nx':Nat) (S:SL) (M:T) (K:SL→T→Nat→Bool):Bool:=
 ac (gh ps&&ps.all fun p=>Nat.blt p.2 nx') (sd ps M ps .leaf fun M'=>List.rec (motive:=fun _=>SL→Bool) (fun acc=>K acc M' nx') (fun t _ ih acc=>Option.casesOn (fb ps (bp t S)) (ih acc) fun v=>ih (.cons t v acc)) live .nil)
theorem Sim.ren (h:Sim E ρ G F M nx w) (ho:gh ps=true) {nx':Nat} (hn:∀p∈ps,p.2<nx') {M':T} (hM:∀j o,M'.get j=some o→∃i o0,(i,j)∈ps∧M.get i=some o0∧fu ps o0=some o):Sim E (jo ps ρ) G F M' nx' w:=by
 obtain⟨c,hh,hob,hinj⟩:=h.ex
 refine⟨⟨c,hh,fun j o hj=> ?_,fun j k e f o o' hj hk he hf hb1 hb2 hb=> ?_⟩,h.mem,fun j hj=> ?_⟩
 ·obtain⟨i,o0,h1,h2,h3⟩:=hM j o hj
  obtain⟨e,a1,q⟩:=hob i o0 h2
  have hB:=fH (e:=e) h3
  refine⟨e,by rw[dA ho h1];exact a1,?_⟩
  rcases q with⟨q1,ob,q2,q3⟩|⟨q1,q2⟩
  ·exact .inl ⟨by rw[hB.1];exact q1,ob,q2,zB ho h3 q3⟩
  ·exact .inr ⟨by rw[hB.1];exact q1,hB.2 q2⟩
 ·obtain⟨i,o0,h1,h2,h3⟩:=hM j o hj
  obtain⟨i',o1,g1,g2,g3⟩:=hM k o' hk
  rw[dA ho h1]at he
  rw[dA ho g1]at hf
  rw[(fH (e:=e) h3).1]at hb1
  rw[(fH (e:=f) g3).1]at hb2
  have:=hinj i i' e f o0 o1 h2 g2 he hf hb1 hb2 hb
  subst this
  exact uw ho h1 g1
 ·unfold jo
  split
  ·rename_i p hp
   have h1:=List.mem_of_find?_eq_some hp
   have h2:=List.find?_some hp
   have:=aaF h2
   have:=hn p h1
   omega
  ·rfl
theorem SI {N:Nat} {S:SL} {a:Act} (s:SR E ρ N S a) (h:Sim E ρ G F M nx w) {live:List Nat} {nx':Nat} {K:SL→T→Nat→Bool} (hk:WA live ps nx' S M K=true):
  ∃S' M' ρ',SR E ρ' N S' a∧Sim E ρ' G F M' nx' w∧K S' M' nx'=true∧∀i j,(i,j)∈ps→ρ' j=ρ i:=by
 obtain⟨h1,h2⟩:=aj hk
 simp only[aaU]at h1
 obtain⟨M',h3,h4⟩:=xH (ps:=ps) (fun j o hj=>by simp[T.get_leaf]at hj) (fun p hp=>hp) h2
 have hn:∀p∈ps,p.2<nx':=fun p hp=>by
  have:=List.all_eq_true.1 h1.2 p hp
  simpa[aa0] using this
 have key:∀(live:List Nat) (acc:SL),SR E (jo ps ρ) N acc a→(List.rec (motive:=fun _=>SL→Bool) (fun acc=>K acc M' nx') (fun t _ ih acc=>Option.casesOn (fb ps (bp t S)) (ih acc) fun v=>ih (.cons t v acc)) live acc)=true→∃S',SR E (jo ps ρ) N S' a∧K S' M' nx'=true:=by
  intro live
  induction live with
  |nil=>exact fun acc sa hk=>⟨acc,sa,hk⟩
  |cons t live ih=>
   intro acc sa hk
   have hk':Option.casesOn (motive:=fun _=>Bool) (fb ps (bp t S)) (List.rec (motive:=fun _=>SL→Bool) (fun acc=>K acc M' nx') (fun t _ ih acc=>Option.casesOn (fb ps (bp t S)) (ih acc) fun v=>ih (.cons t v acc)) live acc)
    (fun v=>List.rec (motive:=fun _=>SL→Bool) (fun acc=>K acc M' nx') (fun t _ ih acc=>Option.casesOn (fb ps (bp t S)) (ih acc) fun v=>ih (.cons t v acc)) live (.cons t v acc))=true:=hk
   rcases e:fb ps (bp t S) with _|v
   ·rw[e]at hk'
    exact ih acc sa hk'
   ·rw[e]at hk'
    refine ih (.cons t v acc) ⟨sa.size,sa.defs,fun u=> ?_⟩ hk'
    by_cases q:t=u
    ·subst q
     rw[gL]
     rcases s.at_ t with q|⟨x,q1,q2⟩
     ·rw[q]at e;simp[fb]at e
     ·exact .inr ⟨x,lm h1.1 _ _ _ e q1,q2⟩
    ·rw[ky _ _ q]
     exact sa.at_ u
 obtain⟨S',k1,k2⟩:=key live .nil ⟨s.size,s.defs,fun _=>.inl rfl⟩ h3
 exact⟨S',M',_,k1,h.ren h1.1 hn h4,k2,fun i j q=>dA h1.1 q⟩
noncomputable def aao:SY→List Nat
 |.prow i _=>[i]
 |.psub i _ _ _=>[i]
 |.pfix i _ _=>[i]
 |.rptr i _ _ _=>[i]
 |.kmp i=>[i]
 |_=>[]
mutual
noncomputable def uO:AV→List Nat
 |.ptr i _=>[i]
 |.sl i _ _ _=>[i]
 |.map i=>[i]
 |.yl i=>[i]
 |.sy s=>aao s
 |.iface _ v=>uO v
 |.fn _ c=>zS c
 |.agg l=>zS l
 |.tup l=>zS l
 |_=>[]
noncomputable def zS:List AV→List Nat
 |[]=>[]
 |v::r=>uO v++zS r
end
noncomputable def aap:AObj→List Nat
 |.blk _ _ _ els=>zS els.flatten
 |.map es _=>es.flatMap fun e=>uO e.1++uO e.2.1
 |_=>[]
noncomputable def oZ (M:T):Nat→List Nat→List Nat→List Nat
 |0,_,seen=>seen
 |_+1,[],seen=>seen
 |n+1,i::todo,seen=>match seen.any (Nat.beq i),M.get i with
  |false,some o=>oZ M n (todo++aap o) (seen++[i])
  |_,_=>oZ M n todo seen
def CQ:Nat→List Nat→List (Nat×Nat)
 |_,[]=>[]
 |k,i::r=>(i,k)::CQ (k+1) r
def Co:Nat→List Nat→List Nat
 |0,l=>l
 |k+1,l=>Co k (k::l)
def Be (ps:List (Nat×Nat)):Nat→Bool
 |0=>true
 |k+1=>List.any ps (fun p=>Nat.beq p.1 k&&Nat.beq p.2 k)&&Be ps k
theorem zE {ps:List (Nat×Nat)}:∀{k:Nat},Be ps k=true→∀i,i<k→(i,i)∈ps
 |0,_,i,hi=>by omega
 |k+1,h,i,hi=>by
  simp only[Be,aaU]at h
  rcases Nat.lt_succ_iff_lt_or_eq.1 hi with h1|rfl
  ·exact zE h.2 i h1
  ·obtain⟨p,q1,q2⟩:=List.any_eq_true.1 h.1
   simp only[aaU]at q2
   have e1:=aaF q2.1
   have e2:=aaF q2.2
   have:p=(i,i):=by cases p;simp_all
   rw[←this];exact q1
noncomputable def QS (k:Nat) (live:List Nat) (S:SL) (M:T):List (Nat×Nat):=CQ 0 (oZ M 200 (Co k (live.flatMap fun t=>uO (bp t S))) [])
noncomputable def Yz (k:Nat) (live:List Nat) (S:SL) (M:T) (K:SL→T→Nat→Bool):Bool:=ac (Be (QS k live S M) k) (WA live (QS k live S M) (QS k live S M).length S M K)
theorem Ub {N k:Nat} {S:SL} {a:Act} (s:SR E ρ N S a) (h:Sim E ρ G F M nx w) {live:List Nat} {K:SL→T→Nat→Bool} (hk:Yz k live S M K=true):
  ∃S' M' nx' ρ',SR E ρ' N S' a∧Sim E ρ' G F M' nx' w∧K S' M' nx'=true∧∀i e,i<k→ρ i=some e→ρ' i=some e:=by
 obtain⟨h1,h2⟩:=aj hk
 obtain⟨S',M',ρ',g1,g2,g3,g4⟩:=SI s h h2
 exact⟨S',M',_,ρ',g1,g2,g3,fun i e q1 q2=>by rw[g4 i i (zE h1 i q1)];exact q2⟩
end
section
variable {P:Program} {E:Env} {ρ:Ren} {G:GS} {F:List aA} {M:T} {nx:Nat} {w:World}
noncomputable def Mo (v:AV) (Ty sz:Nat) (α:Type) (enc:α→List PL) (M:T) (nx:Nat) (K:AV→T→Nat→Bool):Bool:=aS (eA v) (lF v fun s=>SY.casesOn s (fun _ _=>false) (fun _=>false) (fun _=>false) (fun _ _ _ _ _=>false) (fun _ _ _=>false) (fun i n=>kT M i fun Ty' sz' _ l _=>ac (Nat.beq Ty Ty') (ac (Nat.beq sz sz') (ac (aC (l=[])) (T.set bE M i (some (.prow Ty sz α [] enc)) fun M'=>K (.sy (.prow i n)) M' nx)))) (fun _ _ _ _=>false) (fun _ _ _ _=>false) (fun _ _ _=>false) (fun _=>false)) (qP v
 (ac (Nat.blt 0 sz) (T.set bE M nx (some (.prow Ty sz α [] enc)) fun M'=>fN (Nat.succ nx) fun q=>K (.sy (.prow nx 0)) M' q))
 (fun i o n c=>ac (Nat.beq o 0) (eL M i fun g Ty' sz' els=>ac (Nat.beq Ty Ty') (ac (Nat.beq sz sz') (ACap.casesOn c
  (fun c=>ac (Bool.rec true false g) (ac (Nat.beq n 0) (ac (Nat.beq (dv els) c) (ac (Nat.ble c 9223372036854775807)
   (T.set bE M i none fun M1=>T.set bE M1 nx (some (.prow Ty sz α [] enc)) fun M'=>fN (Nat.succ nx) fun q=>K (.sy (.prow nx 0)) M' q)))))
  (fun k=>ac (Nat.beq k 0) (ac g (ac (Nat.beq (dv els) n) (Fc els fun pss=>aN fun l:List α=>ac (aC (l.map enc=pss))
   (T.set bE M i none fun M1=>T.set bE M1 nx (some (.prow Ty sz α l enc)) fun M'=>fN (Nat.succ nx) fun q=>K (.sy (.prow nx l.length)) M' q))))))))))
theorem Sim.nilRow (h:Sim E ρ G F M nx w) {M':T} {Ty sz:Nat} {α:Type} {enc:α→List PL} (hsz:0<sz) (h1:M'.get nx=some (.prow Ty sz α [] enc)) (h2:∀m,m≠nx→M'.get m=M.get m):Sim E (ρ.set nx ⟨0,0⟩) G F M' (nx+1) w:=by
 have h0:=h.fresh nx (aaS _)
 have hle:=Ren.le_set (ρ:=ρ) ⟨0,0⟩ h0
 obtain⟨c,hh,hob,hinj⟩:=h.ex
 refine⟨⟨c,hh,fun j o hj=> ?_,fun j k e f o o' hj hk he hf hb1 hb2 hb=> ?_⟩,h.mem,fun j hj=> ?_⟩
 ·by_cases q:j=nx
  ·subst q
   rw[h1]at hj;cases hj
   exact⟨_,Ren.set_self _ _ _,.inr ⟨rfl,rfl,hsz⟩⟩
  ·rw[h2 j q]at hj
   obtain⟨e,a1,⟨q1,ob,q2,q3⟩|q1⟩:=hob j o hj
   ·exact⟨e,hle _ _ a1,.inl ⟨q1,ob,q2,q3.mono hle⟩⟩
   ·exact⟨e,hle _ _ a1,.inr q1⟩
 ·have nb:∀m e o,M'.get m=some o→ρ.set nx ⟨0,0⟩ m=some e→bW e o=true→m≠nx:=fun m e o q1 q2 q3 q4=>by
   subst q4
   rw[h1]at q1;cases q1
   rw[Ren.set_self]at q2;cases q2
   cases q3
  have nj:=nb j e o hj he hb1
  have nk:=nb k f o' hk hf hb2
  rw[h2 j nj]at hj
  rw[h2 k nk]at hk
  rw[Ren.set_ne _ nj]at he
  rw[Ren.set_ne _ nk]at hf
  exact hinj j k e f o o' hj hk he hf hb1 hb2 hb
 ·rw[Ren.set_ne _ (by omega)]
  exact h.fresh j (by omega)
theorem Sim.rekey (h:Sim E ρ G F M nx w) {i:Nat} {o o':AObj} {e e':dw} {M':T} (hi:M.get i=some o) (he:ρ i=some e) (hb:e'.b=e.b) (hB:bW e o=true) (hB':bW e' o'=true) (hr:∀ob,ORel E ρ e o ob→ORel E ρ e' o' ob)
  (h1:M'.get nx=some o') (h2:∀m,m≠nx→m≠i→M'.get m=M.get m) (h3:M'.get i=none):Sim E (ρ.set nx e') G F M' (nx+1) w:=by
 have h0:=h.fresh nx (aaS _)
 have hle:=Ren.le_set (ρ:=ρ) e' h0
 have hinx:i≠nx:=fun q=>by rw[q,h0]at he;cases he
 obtain⟨c,hh,hob,hinj⟩:=h.ex
 refine⟨⟨c,hh,fun j o2 hj=> ?_,fun j k f1 f2 o1 o2 hj hk hf1 hf2 hb1 hb2 hbb=> ?_⟩,h.mem,fun j hj=> ?_⟩
 ·by_cases q:j=nx
  ·subst q
   rw[h1]at hj;cases hj
   obtain⟨f,a1,⟨q1,ob,q2,q3⟩|⟨q1,_⟩⟩:=hob i o hi
   ·rw[he]at a1;cases a1
    exact⟨e',Ren.set_self _ _ _,.inl ⟨hB',ob,by rw[hb];exact q2,(hr ob q3).mono hle⟩⟩
   ·rw[he]at a1;cases a1
    rw[hB]at q1;cases q1
  ·have qi:j≠i:=fun q=>by subst q;rw[h3]at hj;cases hj
   rw[h2 j q qi]at hj
   obtain⟨f,a1,⟨q1,ob,q2,q3⟩|q1⟩:=hob j o2 hj
   ·exact⟨f,hle _ _ a1,.inl ⟨q1,ob,q2,q3.mono hle⟩⟩
   ·exact⟨f,hle _ _ a1,.inr q1⟩
 ·have old:∀m,m≠nx→∀o3,M'.get m=some o3→m≠i∧M.get m=some o3:=fun m q o3 q2=>by
   have qi:m≠i:=fun q=>by subst q;rw[h3]at q2;cases q2
   exact⟨qi,by rw[←h2 m q qi];exact q2⟩
  by_cases q1:j=nx
  ·by_cases q2:k=nx
   ·omega
   ·exfalso
    subst q1
    rw[Ren.set_self]at hf1;cases hf1
    rw[Ren.set_ne _ q2]at hf2
    obtain⟨p1,p2⟩:=old k q2 o2 hk
    exact p1 (hinj k i f2 e o2 o p2 hi hf2 he hb2 hB (by rw[←hb,hbb]))
  ·by_cases q2:k=nx
   ·exfalso
    subst q2
    rw[Ren.set_self]at hf2;cases hf2
    rw[Ren.set_ne _ q1]at hf1
    obtain⟨p1,p2⟩:=old j q1 o1 hj
    exact p1 (hinj j i f1 e o1 o p2 hi hf1 he hb1 hB (by rw[hbb,hb]))
   ·rw[Ren.set_ne _ q1]at hf1
    rw[Ren.set_ne _ q2]at hf2
    exact hinj j k f1 f2 o1 o2 (old j q1 o1 hj).2 (old k q2 o2 hk).2 hf1 hf2 hb1 hb2 hbb
 ·rw[Ren.set_ne _ (by omega)]
  exact h.fresh j (by omega)
theorem Sim.reobj (h:Sim E ρ G F M nx w) {i:Nat} {o o':AObj} (hi:M.get i=some o) (hB:∀e,bW e o'=bW e o) (hr:∀e ob,ρ i=some e→ORel E ρ e o ob→ORel E ρ e o' ob) (hn:AJ o→AJ o') {M':T} (h1:M'.get i=some o') (h2:∀m,m≠i→M'.get m=M.get m):Sim E ρ G F M' nx w:=by
 obtain⟨c,hh,hob,hinj⟩:=h.ex
 have old:∀m o2,M'.get m=some o2→∃o3,M.get m=some o3∧∀e,bW e o2=bW e o3:=fun m o2 hm=>by
  by_cases q1:m=i
  ·subst q1
   rw[h1]at hm;cases hm
   exact⟨_,hi,hB⟩
  ·rw[h2 m q1]at hm
   exact⟨o2,hm,fun e=>rfl⟩
 refine⟨⟨c,hh,fun m o2 hm=> ?_,fun m k e f o2 o3 hm hk he hf hb1 hb2 hb=> ?_⟩,h.mem,h.fresh⟩
 ·by_cases q1:m=i
  ·subst q1
   rw[h1]at hm;cases hm
   obtain⟨e,a1,⟨b1,ob,b2,b3⟩|⟨b1,b2⟩⟩:=hob m _ hi
   ·exact⟨e,a1,.inl ⟨by rw[hB];exact b1,ob,b2,hr e ob a1 b3⟩⟩
   ·exact⟨e,a1,.inr ⟨by rw[hB];exact b1,hn b2⟩⟩
  ·rw[h2 m q1]at hm
   exact hob m o2 hm
 ·obtain⟨o4,f1,f2⟩:=old m o2 hm
  obtain⟨o5,f3,f4⟩:=old k o3 hk
  rw[f2]at hb1
  rw[f4]at hb2
  exact hinj m k e f o4 o5 f1 f3 he hf hb1 hb2 hb
theorem Iq (h:Sim E ρ G F M nx w) {v:AV} {Ty sz:Nat} {α:Type} {enc:α→List PL} {K:AV→T→Nat→Bool} (hk:Mo v Ty sz α enc M nx K=true):
  ∃v' M' nx' ρ',ρ.Le ρ'∧Sim E ρ' G F M' nx' w∧K v' M' nx'=true∧(∀x,den E ρ v=some x→den E ρ' v'=some x)∧v≠ .bad:=by
 have h0:=h.fresh nx (aaS _)
 rcases aP hk with⟨-,g⟩|⟨-,hk⟩
 ·replace g:=fj g
  clear hk
  obtain⟨s,rfl,g⟩:=g
  cases s<;>first|(cases g;done)|skip
  case prow i n=>
   obtain⟨Ty',sz',α',l,enc',hi,g1⟩:=gy g
   obtain⟨q1,g2⟩:=aj g1
   obtain⟨q2,g3⟩:=aj g2
   have q1:=aaF q1
   have q2:=aaF q2
   subst q1;subst q2
   obtain⟨hl,g4⟩:=aa g3
   subst hl
   obtain⟨M',g5,s1,s2⟩:=T.set_ok _ _ _ _ _ g4
   refine⟨_,M',nx,ρ,Ren.Le.refl _,h.reobj (o':=.prow Ty sz α [] enc) hi (fun e=>rfl) (fun e ob _ hr=> ?_) (fun q=>⟨rfl,q.2⟩) s1 s2,g5,fun x hx=>hx,by simp⟩
   obtain⟨arr,xs,o1,o2,o3,o4,o5,o6,o7⟩:=hr
   exact⟨arr,xs,o1,o2,fun y hy=>(by simp at hy),by simpa using o4,o5,o6,o7⟩
 rcases jl hk with⟨e,g⟩|⟨i,o,n,c,e,g⟩
 ·obtain⟨g1,g2⟩:=aj g
  rw[aa0]at g1
  obtain⟨M',k1,s1,s2⟩:=T.set_ok _ _ _ _ _ g2
  rw[bO]at k1
  have hle:=Ren.le_set (ρ:=ρ) ⟨0,0⟩ h0
  refine⟨_,M',nx+1,_,hle,h.nilRow g1 s1 s2,k1,(fun x hx=> ?_),(by rw[e];simp)⟩
  rw[e]at hx
  cases hx
  simp[den,bc,Ren.set_self,kQ]
 ·obtain⟨q2,g2⟩:=aj g
  have q2:=aaF q2
  subst q2
  obtain⟨gr,Ty',sz',els,hi,g3⟩:=cH g2
  obtain⟨q4,g5⟩:=aj g3
  obtain⟨q5,g6⟩:=aj g5
  have q4:=aaF q4
  have q5:=aaF q5
  subst q4;subst q5
  obtain⟨f,arr,xs,e1,e2,e3,e4,e5,e6,e7,e8,e9⟩:=h.cellsAt hi
  have hinx:i≠nx:=fun q=>by rw[q,h0]at e1;cases e1
  cases c with
  |ex c=>
   obtain⟨q1,g7⟩:=aj g6
   obtain⟨q3,g8⟩:=aj g7
   obtain⟨q6,g9⟩:=aj g8
   obtain⟨q7,g10⟩:=aj g9
   have q1:gr=false:=by cases gr;rfl;cases q1
   subst q1
   have q3:=aaF q3
   subst q3
   have q6:els.length=c:=by rw[←cd];exact aaF q6
   rw[Nat.ble_eq]at q7
   obtain⟨M1,k1,s1,s2⟩:=T.set_ok _ _ _ _ _ g10
   obtain⟨M',k2,s3,s4⟩:=T.set_ok _ _ _ _ _ k1
   rw[bO]at k2
   have hle:=Ren.le_set (ρ:=ρ) ⟨f.b,c+1⟩ h0
   refine⟨_,M',nx+1,_,hle,h.rekey (o':=.prow Ty sz α [] enc) (e':=⟨f.b,c+1⟩) hi e1 rfl rfl (iC rfl) (fun ob hr=> ?_) s3 (fun m a1 a2=>by rw[s4 m a1,s2 m a2]) (by rw[s4 i hinx,s1]),k2,(fun x hx=> ?_),(by rw[e];simp)⟩
   ·obtain⟨_,_,arr',xs',o1,o2,o3⟩:=hr
    simp only[cond_false]at o3
    have hl:=ch o2
    rw[eB e4,←o3,Array.length_toList]at hl
    refine⟨arr',[],o1,e5,fun y hy=>(by simp at hy),by simp[pv],?_,by simp,by simp,by simpa[maxLen] using q7⟩
    simp only[Nat.add_sub_cancel]
    rw[hl,q6]
   ·rw[e]at hx
    simp only[den,e1,cT]at hx
    cases hx
    simp[den,bc,Ren.set_self,kQ]
  |rest k=>
   obtain⟨q1,g7⟩:=aj g6
   have q1:=aaF q1
   subst q1
   obtain⟨q3,g8⟩:=aj g7
   subst q3
   obtain⟨q6,g9⟩:=aj g8
   have q6:els.length=n:=by rw[←cd];exact aaF q6
   obtain⟨p1,p2,p3⟩:=e9 rfl
   obtain⟨pss,g10,r1,r2,r3,r4⟩:=zj e3 e4 g9
   obtain⟨l,g11⟩:=bR g10
   obtain⟨hl,g12⟩:=aa g11
   obtain⟨M1,k1,s1,s2⟩:=T.set_ok _ _ _ _ _ g12
   obtain⟨M',k2,s3,s4⟩:=T.set_ok _ _ _ _ _ k1
   rw[bO]at k2
   have hle:=Ren.le_set (ρ:=ρ) ⟨f.b,f.cap+1⟩ h0
   have hlen:l.length=els.length:=by rw[←r4,←hl,aaE]
   refine⟨_,M',nx+1,_,hle,h.rekey (o':=.prow Ty sz α l enc) (e':=⟨f.b,f.cap+1⟩) hi e1 rfl rfl (iC rfl) (fun ob hr=> ?_) s3 (fun m a1 a2=>by rw[s4 m a1,s2 m a2]) (by rw[s4 i hinx,s1]),k2,(fun x hx=> ?_),(by rw[e];simp)⟩
   ·obtain⟨_,_,arr',xs',o1,o2,o3⟩:=hr
    rw[e3]at o2
    cases o2
    simp only[cond_true]at o3
    obtain⟨u1,u2,u3,u4⟩:=o3
    have hx:xs=(l.flatMap enc).map bQ:=by rw[r1,←hl,List.flatMap_def]
    refine⟨arr',xs,o1,e5,fun y hy=>r3 _ (by rw[←hl];exact List.mem_map.2 ⟨y,hy,rfl⟩),by rw[hx];exact qK (fun p hp=>r2 p (by rw[←hl,←List.flatMap_def];exact hp)),by simpa using u1,by rw[hlen];exact u2,by rw[hlen];simpa using u3,by simpa using u4⟩
   ·rw[e]at hx
    simp only[den,e1,cT]at hx
    cases hx
    simp[den,bc,Ren.set_self,kQ,hlen,q6]
noncomputable def Ft (t Ty sz:Nat) (α:Type) (enc:α→List PL) (S:SL) (M:T) (nx:Nat) (K:SL→T→Nat→Bool):Bool:=Mo (bp t S) Ty sz α enc M nx fun v M nx=>K (.cons t v S) M nx
theorem Ip {N:Nat} {S:SL} {a:Act} (s:SR E ρ N S a) (h:Sim E ρ G F M nx w) {t Ty sz:Nat} {α:Type} {enc:α→List PL} {K:SL→T→Nat→Bool} (hk:Ft t Ty sz α enc S M nx K=true):
  ∃S' M' nx' ρ',ρ.Le ρ'∧SR E ρ' N S' a∧Sim E ρ' G F M' nx' w∧K S' M' nx'=true:=by
 obtain⟨v',M',nx',ρ',hl,h1,h2,h3,h4⟩:=Iq h hk
 refine⟨_,M',nx',ρ',hl,⟨s.size,s.defs,fun u=> ?_⟩,h1,h2⟩
 by_cases q:t=u
 ·subst q
  rw[gL]
  obtain⟨x,q1,q2⟩:=(s.at_ t).resolve_left h4
  exact .inr ⟨x,h3 x q1,q2⟩
 ·rw[ky _ _ q]
  exact(s.mono hl).at_ u
theorem Sim.swap (h:Sim E ρ G F M nx w) {i q r:Nat} {g:Bool} {Ty sz:Nat} {els:List (List AV)} {el:List AV} {v v':AV} (hi:M.get i=some (.blk g Ty sz els)) (hq:els[q]?=some el) (hr:el[r]?=some v)
  (hv:∀x,den E ρ v=some x→den E ρ v'=some x) {M':T} (h1:M'.get i=some (.blk g Ty sz (els.take q++[el.take r++[v']++el.drop (r+1)]++els.drop (q+1)))) (h2:∀m,m≠i→M'.get m=M.get m):Sim E ρ G F M' nx w:=by
 obtain⟨c,hh,hob,hinj⟩:=h.ex
 have hle1:=(List.getElem?_eq_some_iff.1 hq).1
 have hle2:=(List.getElem?_eq_some_iff.1 hr).1
 have old:∀m o,M'.get m=some o→∃o2,M.get m=some o2∧∀e,bW e o=bW e o2:=fun m o hm=>by
  by_cases q1:m=i
  ·subst q1
   rw[h1]at hm;cases hm
   exact⟨_,hi,fun e=>rfl⟩
  ·rw[h2 m q1]at hm
   exact⟨o,hm,fun e=>rfl⟩
 refine⟨⟨c,hh,fun m o hm=> ?_,fun m k e f o o' hm hk he hf hb1 hb2 hb=> ?_⟩,h.mem,h.fresh⟩
 ·by_cases q1:m=i
  ·subst q1
   rw[h1]at hm;cases hm
   obtain⟨e,a1,⟨b1,ob,b2,b3⟩|⟨b1,b2⟩⟩:=hob m _ hi
   ·refine⟨e,a1,.inl ⟨rfl,ob,b2,?_⟩⟩
    obtain⟨c1,c2,arr,xs,c3,c4,c5⟩:=b3
    have hel:∀l∈els.take q++[el.take r++[v']++el.drop (r+1)]++els.drop (q+1),l.length=sz:=by
     intro l hl
     simp only[List.mem_append,List.mem_singleton]at hl
     have:=c1 el (aaG hq)
     rcases hl with(hl|rfl)|hl
     ·exact c1 l (List.mem_of_mem_take hl)
     ·simp only[aaC,List.length_take,List.length_drop,List.length_singleton];omega
     ·exact c1 l (List.mem_of_mem_drop hl)
    have hlen:(els.take q++[el.take r++[v']++el.drop (r+1)]++els.drop (q+1)).length=els.length:=by
     simp only[aaC,List.length_take,List.length_drop,List.length_singleton];omega
    have e1:els=els.take q++[el]++els.drop (q+1):=by
     rw[List.append_assoc,List.singleton_append]
     have:=List.take_append_drop q els
     rw[List.drop_eq_getElem_cons hle1]at this
     rw[←(List.getElem?_eq_some_iff.1 hq).2];exact this.symm
    have e2:el=el.take r++[v]++el.drop (r+1):=by
     rw[List.append_assoc,List.singleton_append]
     have:=List.take_append_drop r el
     rw[List.drop_eq_getElem_cons hle2]at this
     rw[←(List.getElem?_eq_some_iff.1 hr).2];exact this.symm
    have hd:aD E ρ (els.take q++[el.take r++[v']++el.drop (r+1)]++els.drop (q+1)).flatten=some xs:=by
     rw[e1]at c4
     simp only[List.flatten_append,aaH,List.flatten_nil,List.append_nil]at c4 ⊢
     obtain⟨y1,z1,d1,d2,rfl⟩:=dS c4
     obtain⟨y2,z2,d3,d4,rfl⟩:=dS d1
     rw[e2]at d4
     obtain⟨y3,z3,d5,d6,rfl⟩:=dS d4
     obtain⟨y4,z4,d7,d8,rfl⟩:=dS d5
     obtain⟨x,_,d9,d10,rfl⟩:=bg d8
     refine dJ (dJ d3 (dJ (dJ d7 ?_) d6)) d2
     exact bu (hv x d9) d10
    refine⟨hel,c2,arr,xs,c3,hd,?_⟩
    rw[hlen];exact c5
   ·cases b1
  ·rw[h2 m q1]at hm
   exact hob m o hm
 ·obtain⟨o2,f1,f2⟩:=old m o hm
  obtain⟨o3,f3,f4⟩:=old k o' hk
  rw[f2]at hb1
  rw[f4]at hb2
  exact hinj m k e f o2 o3 f1 f3 he hf hb1 hb2 hb
noncomputable def RQ (i q r Ty sz:Nat) (α:Type) (enc:α→List PL) (M:T) (nx:Nat) (K:T→Nat→Bool):Bool:=
 eL M i fun _ _ _ els=>cY (ez els q) fun el=>cY (ez el r) fun v=>aS (eA v) (K M nx) (Mo v Ty sz α enc M nx fun v' M' nx'=>eL M' i fun g T2 s2 els=>cY (ez els q) fun el'=>cY (ez el' r) fun v2=>ac (aC (v2=v))
  (upd el' r [v'] fun e2=>upd els q [e2] fun els2=>T.set bE M' i (some (.blk g T2 s2 els2)) fun M2=>K M2 nx'))
theorem QR (h:Sim E ρ G F M nx w) {i q r Ty sz:Nat} {α:Type} {enc:α→List PL} {K:T→Nat→Bool} (hk:RQ i q r Ty sz α enc M nx K=true):
  ∃M' nx' ρ',ρ.Le ρ'∧Sim E ρ' G F M' nx' w∧K M' nx'=true:=by
 obtain⟨g,T1,s1,els,h1,hk⟩:=cH hk
 obtain⟨el,h2,hk⟩:=bm hk
 obtain⟨v,h3,hk⟩:=bm hk
 rcases aP hk with⟨-,hk⟩|⟨-,hk⟩
 ·exact⟨M,nx,ρ,Ren.Le.refl _,h,hk⟩
 obtain⟨v',M',nx',ρ',le,sm,hk,hv,hb⟩:=Iq h hk
 obtain⟨g,T2,s2,els2,h4,hk⟩:=cH hk
 obtain⟨el2,h5,hk⟩:=bm hk
 obtain⟨v2,h6,hk⟩:=bm hk
 obtain⟨hvv,hk2⟩:=aa hk
 obtain⟨hk3,l1⟩:=dr hk2
 obtain⟨hk4,l2⟩:=dr hk3
 obtain⟨M2,hk5,g1,g2⟩:=T.set_ok _ _ _ _ _ hk4
 clear hk hk2 hk3 hk4
 subst hvv
 rw[fc]at h2 h3 h5 h6
 refine⟨M2,nx',ρ',le,sm.swap h4 h5 h6 (fun x hx=> ?_) g1 g2,hk5⟩
 -- the cell's value is known already in the old numbers
 obtain⟨e,arr,xs,e1,e2,e3,e4,e5,e6,e7,e8,e9⟩:=h.cellsAt h1
 have hmem:v2∈els.flatten:=List.mem_flatten.2 ⟨el,aaG h2,aaG h3⟩
 obtain⟨k,hk2⟩:=List.mem_iff_getElem?.1 hmem
 obtain⟨y,y1,_⟩:=mc e3 hk2
 have:=gj le v2 y y1
 rw[this]at hx
 cases hx
 exact hv _ y1
noncomputable def RJ (i q r:Nat) (M:T) (K:T→Bool):Bool:=
 eL M i fun _ _ _ els=>cY (ez els q) fun el=>cY (ez el r) fun v=>Me v M fun u M'=>eL M' i fun g T2 s2 els=>cY (ez els q) fun el'=>cY (ez el' r) fun v2=>ac (aC (v2=v))
  (upd el' r [u] fun e2=>upd els q [e2] fun els2=>T.set bE M' i (some (.blk g T2 s2 els2)) K)
theorem Qx (h:Sim E ρ G F M nx w) {i q r:Nat} {K:T→Bool} (hk:RJ i q r M K=true):
  ∃E' M',zd ρ E E'∧E'.at_=E.at_∧Sim E' ρ G F M' nx w∧K M'=true:=by
 obtain⟨g,T1,s1,els,h1,hk⟩:=cH hk
 obtain⟨el,h2,hk⟩:=bm hk
 obtain⟨v,h3,hk⟩:=bm hk
 rw[fc]at h2 h3
 obtain⟨e,arr,xs,e1,e2,e3,e4,e5,e6,e7,e8,e9⟩:=h.cellsAt h1
 have hmem:v∈els.flatten:=List.mem_flatten.2 ⟨el,aaG h2,aaG h3⟩
 obtain⟨k,hk2⟩:=List.mem_iff_getElem?.1 hmem
 obtain⟨y,y1,_⟩:=mc e3 hk2
 obtain⟨E1,M1,u,f1,f2,f3,f4,hk3⟩:=Kh h y1 hk
 obtain⟨g,T2,s2,els2,h4,hk4⟩:=cH hk3
 obtain⟨el2,h5,hk5⟩:=bm hk4
 obtain⟨v2,h6,hk6⟩:=bm hk5
 obtain⟨hvv,hk7⟩:=aa hk6
 obtain⟨hk8,l1⟩:=dr hk7
 obtain⟨hk9,l2⟩:=dr hk8
 obtain⟨M2,hk10,g1,g2⟩:=T.set_ok _ _ _ _ _ hk9
 subst hvv
 rw[fc]at h5 h6
 refine⟨E1,M2,f1,f2,f3.swap h4 h5 h6 (fun x hx=> ?_) g1 g2,hk10⟩
 rw[lW f1 _ _ y1]at hx
 cases hx
 exact gj (ρ:=fun _=>none) (fun _ _ q=>by cases q) u y f4
noncomputable def HQ (v:AV) (K:AV→Bool):Bool:=AV.casesOn v (K .bad) (fun k z=>K (.int k z)) (fun b=>K (.bool b)) (fun l=>K (.str l)) (fun i o=>K (.ptr i o)) (fun i o n c=>K (.sl i o n c)) (fun i=>K (.map i)) (K .nilP) (K .nilS) (K .nilM) (K .nilF) (K .nilI) (fun t v=>K (.iface t v)) (fun f c=>K (.fn f c)) (fun i=>K (.yl i)) (fun l=>K (.agg l)) (fun l=>K (.tup l)) (fun i=>K (.any i)) (fun s=>K (.sy s))
theorem De {v:AV} {K:AV→Bool} (h:HQ v K=true):K v=true:=by
 cases v<;>exact h
noncomputable def MY (v:AV):AV:=AV.casesOn v .bad (fun k z=>.sy (.int k z)) (fun b=>.sy (.bool (b=true))) (fun l=>.sy (.str (l.map aaY))) (fun i o=>.ptr i o) (fun i o n c=>.sl i o n c) (fun i=>.map i) .nilP .nilS .nilM .nilF .nilI (fun t v=>.iface t v) (fun f c=>.fn f c) (fun i=>.yl i) (fun l=>.agg l) (fun l=>.tup l) (fun i=>.any i) (fun s=>.sy s)
theorem Cn {v:AV} {x:Value} (h:den E ρ v=some x):den E ρ (MY v)=some x:=by
 cases v<;>first|exact h|skip
 case bool b=>
  simp only[den]at h
  cases h
  show bc E ρ (.bool (b=true))=_
  simp only[bc,tZ]
noncomputable def Zq (t:Nat) (S:SL) (K:SL→Bool):Bool:=HQ (MY (bp t S)) fun v=>K (.cons t v S)
theorem Uv {N:Nat} {S:SL} {a:Act} (s:SR E ρ N S a) {t:Nat} {K:SL→Bool} (hk:Zq t S K=true):∃S',SR E ρ N S' a∧K S'=true:=by
 have hk:=De hk
 refine⟨_,⟨s.size,s.defs,fun u=> ?_⟩,hk⟩
 by_cases q:t=u
 ·subst q
  rw[gL]
  rcases s.at_ t with q|⟨x,q1,q2⟩
  ·rw[q];exact .inl rfl
  ·exact .inr ⟨x,Cn q1,q2⟩
 ·rw[ky _ _ q]
  exact s.at_ u
noncomputable def aas (M:T) (i q r:Nat):Bool:=Option.casesOn (M.get i) false fun ob=>AObj.casesOn ob (fun _ _ _ els=>Option.casesOn (ez els q) false fun el=>Option.casesOn (ez el r) false fun _=>true) (fun _ _=>false) (fun _ _ _ _=>false) false (fun _ _ _ _ _=>false) (fun _ _ _ _ _ _ _=>false)
noncomputable def Uu (i q r:Nat) (M:T) (K:T→Bool):Bool:=aS (aas M i q r) (eL M i fun g Ty sz els=>cY (ez els q) fun el=>cY (ez el r) fun v=>HQ (MY v) fun v'=>upd el r [v'] fun e2=>upd els q [e2] fun els2=>T.set bE M i (some (.blk g Ty sz els2)) K) (K M)
theorem Sd (h:Sim E ρ G F M nx w) {i q r:Nat} {K:T→Bool} (hk:Uu i q r M K=true):∃M',Sim E ρ G F M' nx w∧K M'=true:=by
 rcases aP hk with⟨-,hk⟩|⟨-,hk⟩
 case inr=>exact⟨M,h,hk⟩
 obtain⟨g,Ty,sz,els,h1,hk⟩:=cH hk
 obtain⟨el,h2,hk⟩:=bm hk
 obtain⟨v,h3,hk⟩:=bm hk
 have hk:=De hk
 obtain⟨hk,l1⟩:=dr hk
 obtain⟨hk,l2⟩:=dr hk
 obtain⟨M2,hk,g1,g2⟩:=T.set_ok _ _ _ _ _ hk
 rw[fc]at h2 h3
 exact⟨M2,h.swap h1 h2 h3 (fun x hx=>Cn hx) g1 g2,hk⟩
theorem Sim.swapM (h:Sim E ρ G F M nx w) {i:Nat} {es es':List (AV×AV×Nat)} {cl:Nat} (hi:M.get i=some (.map es cl)) (hv:∀ms,bv E ρ es=some ms→bv E ρ es'=some ms) {M':T} (h1:M'.get i=some (.map es' cl)) (h2:∀m,m≠i→M'.get m=M.get m):Sim E ρ G F M' nx w:=by
 obtain⟨c,hh,hob,hinj⟩:=h.ex
 have old:∀m o,M'.get m=some o→∃o2,M.get m=some o2∧∀e,bW e o=bW e o2:=fun m o hm=>by
  by_cases q1:m=i
  ·subst q1
   rw[h1]at hm;cases hm
   exact⟨_,hi,fun e=>rfl⟩
  ·rw[h2 m q1]at hm
   exact⟨o,hm,fun e=>rfl⟩
 refine⟨⟨c,hh,fun m o hm=> ?_,fun m k e f o o' hm hk he hf hb1 hb2 hb=> ?_⟩,h.mem,h.fresh⟩
 ·by_cases q1:m=i
  ·subst q1
   rw[h1]at hm;cases hm
   obtain⟨e,a1,⟨b1,ob,b2,b3⟩|⟨b1,b2⟩⟩:=hob m _ hi
   ·obtain⟨ms,c1,c2⟩:=b3
    exact⟨e,a1,.inl ⟨rfl,ob,b2,ms,hv ms c1,c2⟩⟩
   ·cases b1
  ·rw[h2 m q1]at hm
   exact hob m o hm
 ·obtain⟨o2,f1,f2⟩:=old m o hm
  obtain⟨o3,f3,f4⟩:=old k o' hk
  rw[f2]at hb1
  rw[f4]at hb2
  exact hinj m k e f o2 o3 f1 f3 he hf hb1 hb2 hb
noncomputable def Uw (es:List (AV×AV×Nat)) (K:List (AV×AV×Nat)→Bool):Bool:=List.rec (motive:=fun _=>(List (AV×AV×Nat)→Bool)→Bool) (fun K=>K []) (fun e _ ih K=>HQ (MY e.2.1) fun v=>ih fun l=>K ((e.1,v,e.2.2)::l)) es K
theorem MZ:∀{es:List (AV×AV×Nat)} {K:List (AV×AV×Nat)→Bool},Uw es K=true→∃es',K es'=true∧∀ms,bv E ρ es=some ms→bv E ρ es'=some ms
 |[],K,h=>⟨[],h,fun ms q=>q⟩
 |(k,v,b)::es,K,h=>by
  have h1:=De (show HQ (MY v) (fun v=>Uw es fun l=>K ((k,v,b)::l))=true from h)
  obtain⟨es',h2,h3⟩:=MZ h1
  refine⟨_,h2,fun ms q=> ?_⟩
  obtain⟨x,y,ms',q1,q2,q3,rfl⟩:=di q
  simp only[bv,q1,Cn q2,h3 _ q3]
noncomputable def Ut (i:Nat) (M:T) (K:T→Bool):Bool:=od M i fun es cl=>Uw es fun es'=>T.set bE M i (some (.map es' cl)) K
theorem Sb (h:Sim E ρ G F M nx w) {i:Nat} {K:T→Bool} (hk:Ut i M K=true):∃M',Sim E ρ G F M' nx w∧K M'=true:=by
 obtain⟨es,cl,h1,hk⟩:=iS hk
 obtain⟨es',hk,h2⟩:=MZ (E:=E) (ρ:=ρ) hk
 obtain⟨M2,hk,g1,g2⟩:=T.set_ok _ _ _ _ _ hk
 exact⟨M2,h.swapM h1 h2 g1 g2,hk⟩
noncomputable def Wn (i:Nat) (M:T) (K:T→Bool):Bool:=eL M i fun g Ty sz _=>Bool.rec false (T.set bE M i (some (.blk true Ty sz [])) K) g
theorem Su (h:Sim E ρ G F M nx w) {i:Nat} {K:T→Bool} (hk:Wn i M K=true):∃M',Sim E ρ G F M' nx w∧K M'=true:=by
 obtain⟨g,Ty,sz,els,h1,hk1⟩:=cH hk
 cases g with
 |false=>cases hk1
 |true=>
  obtain⟨M2,hk2,g1,g2⟩:=T.set_ok _ _ _ _ _ hk1
  obtain⟨e,ob,a1,a2,a3⟩:=h.obj h1
  obtain⟨b1,b2,arr,xs,b3,b4,b5⟩:=a3
  obtain⟨c1,c2,c3,c4⟩:=b5
  have hr:ORel E ρ e (.blk true Ty sz []) ob:=⟨by simp,b2,arr,[],b3,by simp[aD],c1,by simp,by simp,c4⟩
  exact⟨M2,h.turn h1 a1 rfl rfl rfl (fun _ _ _=>rfl) a2 hr g1 g2,hk2⟩
theorem Sim.swapK (h:Sim E ρ G F M nx w) {i:Nat} {es:List (AV×AV×Nat)} {cl:Nat} {ak av:Bool} {α:Type} {l:List α} {kf vf:α→List PL} (hi:M.get i=some (.map es cl)) (hs:es.map (fun e=>(e.1,e.2.1))=l.map (fun x=>(cW ak (kf x),cW av (vf x)))) {M':T} (h1:M'.get i=some (.kmap true ak av α l kf vf)) (h2:∀m,m≠i→M'.get m=M.get m):Sim E ρ G F M' nx w:=by
 obtain⟨c,hh,hob,hinj⟩:=h.ex
 have old:∀m o,M'.get m=some o→∃o2,M.get m=some o2∧∀e,bW e o=bW e o2:=fun m o hm=>by
  by_cases q1:m=i
  ·subst q1
   rw[h1]at hm;cases hm
   exact⟨_,hi,fun e=>rfl⟩
  ·rw[h2 m q1]at hm
   exact⟨o,hm,fun e=>rfl⟩
 refine⟨⟨c,hh,fun m o hm=> ?_,fun m k e f o o' hm hk he hf hb1 hb2 hb=> ?_⟩,h.mem,h.fresh⟩
 ·by_cases q1:m=i
  ·subst q1
   rw[h1]at hm;cases hm
   obtain⟨e,a1,⟨b1,ob,b2,b3⟩|⟨b1,b2⟩⟩:=hob m _ hi
   ·obtain⟨ms,c1,c2⟩:=b3
    exact⟨e,a1,.inl ⟨rfl,ob,b2,es,cl,ms,hs,c1,c2⟩⟩
   ·cases b1
  ·rw[h2 m q1]at hm
   exact hob m o hm
 ·obtain⟨o2,f1,f2⟩:=old m o hm
  obtain⟨o3,f3,f4⟩:=old k o' hk
  rw[f2]at hb1
  rw[f4]at hb2
  exact hinj m k e f o2 o3 f1 f3 he hf hb1 hb2 hb
noncomputable def XG (i:Nat) (ak av:Bool) (α:Type) (kf vf:α→List PL) (M:T) (K:T→Bool):Bool:=aS (XT M i) (K M) (od M i fun es _=>aN fun l:List α=>ac (aC (es.map (fun e=>(e.1,e.2.1))=l.map (fun x=>(cW ak (kf x),cW av (vf x))))) (T.set bE M i (some (.kmap true ak av α l kf vf)) K))
theorem NW (h:Sim E ρ G F M nx w) {i:Nat} {ak av:Bool} {α:Type} {kf vf:α→List PL} {K:T→Bool} (hk:XG i ak av α kf vf M K=true):∃M',Sim E ρ G F M' nx w∧K M'=true:=by
 rcases aP hk with⟨_,hk⟩|⟨_,hk⟩
 ·exact⟨M,h,hk⟩
 obtain⟨es,cl,h1,hk⟩:=iS hk
 obtain⟨l,hk⟩:=bR hk
 obtain⟨hs,hk⟩:=aa hk
 obtain⟨M2,hk,g1,g2⟩:=T.set_ok _ _ _ _ _ hk
 exact⟨M2,h.swapK h1 hs g1 g2,hk⟩
theorem Sim.reobjE (h:Sim E ρ G F M nx w) {i:Nat} {o o':AObj} {e0:dw} (hi:M.get i=some o) (he0:ρ i=some e0) (hB:bW e0 o=true) (hB':bW e0 o'=true) (hr:∀ob,ORel E ρ e0 o ob→ORel E ρ e0 o' ob) {M':T} (h1:M'.get i=some o') (h2:∀m,m≠i→M'.get m=M.get m):Sim E ρ G F M' nx w:=by
 obtain⟨c,hh,hob,hinj⟩:=h.ex
 have old:∀m o2 e,M'.get m=some o2→ρ m=some e→∃o3,M.get m=some o3∧bW e o2=bW e o3:=fun m o2 e hm he=>by
  by_cases q1:m=i
  ·subst q1
   rw[h1]at hm;cases hm
   rw[he0]at he;cases he
   exact⟨_,hi,by rw[hB,hB']⟩
  ·rw[h2 m q1]at hm
   exact⟨o2,hm,rfl⟩
 refine⟨⟨c,hh,fun m o2 hm=> ?_,fun m k e f o2 o3 hm hk he hf hb1 hb2 hb=> ?_⟩,h.mem,h.fresh⟩
 ·by_cases q1:m=i
  ·subst q1
   rw[h1]at hm;cases hm
   obtain⟨e,a1,⟨b1,ob,b2,b3⟩|⟨b1,b2⟩⟩:=hob m _ hi
   ·rw[he0]at a1;cases a1
    exact⟨_,he0,.inl ⟨hB',ob,b2,hr ob b3⟩⟩
   ·rw[he0]at a1;cases a1
    rw[hB]at b1;cases b1
  ·rw[h2 m q1]at hm
   exact hob m o2 hm
 ·obtain⟨o4,f1,f2⟩:=old m o2 e hm he
  obtain⟨o5,f3,f4⟩:=old k o3 f hk hf
  rw[f2]at hb1
  rw[f4]at hb2
  exact hinj m k e f o4 o5 f1 f3 he hf hb1 hb2 hb
theorem Sim.nilObj (h:Sim E ρ G F M nx w) {M':T} {o:AObj} (hB:bW ⟨0,0⟩ o=false) (hN:AJ o) (h1:M'.get nx=some o) (h2:∀m,m≠nx→M'.get m=M.get m):Sim E (ρ.set nx ⟨0,0⟩) G F M' (nx+1) w:=by
 have h0:=h.fresh nx (aaS _)
 have hle:=Ren.le_set (ρ:=ρ) ⟨0,0⟩ h0
 obtain⟨c,hh,hob,hinj⟩:=h.ex
 refine⟨⟨c,hh,fun j o hj=> ?_,fun j k e f o o' hj hk he hf hb1 hb2 hb=> ?_⟩,h.mem,fun j hj=> ?_⟩
 ·by_cases q:j=nx
  ·subst q
   rw[h1]at hj;cases hj
   exact⟨_,Ren.set_self _ _ _,.inr ⟨hB,hN⟩⟩
  ·rw[h2 j q]at hj
   obtain⟨e,a1,⟨q1,ob,q2,q3⟩|q1⟩:=hob j o hj
   ·exact⟨e,hle _ _ a1,.inl ⟨q1,ob,q2,q3.mono hle⟩⟩
   ·exact⟨e,hle _ _ a1,.inr q1⟩
 ·have nb:∀m e o,M'.get m=some o→ρ.set nx ⟨0,0⟩ m=some e→bW e o=true→m≠nx:=fun m e o q1 q2 q3 q4=>by
   subst q4
   rw[h1]at q1;cases q1
   rw[Ren.set_self]at q2;cases q2
   rw[hB]at q3;cases q3
  have nj:=nb j e o hj he hb1
  have nk:=nb k f o' hk hf hb2
  rw[h2 j nj]at hj
  rw[h2 k nk]at hk
  rw[Ren.set_ne _ nj]at he
  rw[Ren.set_ne _ nk]at hf
  exact hinj j k e f o o' hj hk he hf hb1 hb2 hb
 ·rw[Ren.set_ne _ (by omega)]
  exact h.fresh j (by omega)
noncomputable def NU (i q r:Nat) (M:T) (K:T→Bool):Bool:=eL M i fun g Ty sz els=>cY (ez els q) fun el=>cY (ez el r) fun v=>Fu v (fun j=>td M j fun sure ak av α l kf vf=>aS sure false
  (ac (aS (aC (l=[])) (upd el r [.nilM] fun e2=>upd els q [e2] fun els2=>T.set bE M i (some (.blk g Ty sz els2)) K) true)
   (T.set bE M j (some (.kmap true ak av α l kf vf)) fun M1=>eL M1 i fun g Ty sz els=>cY (ez els q) fun el=>cY (ez el r) fun v2=>ac (aC (v2=v)) (upd el r [.map j] fun e2=>upd els q [e2] fun els2=>T.set bE M1 i (some (.blk g Ty sz els2)) K)))) (K M)
theorem NT (h:Sim E ρ G F M nx w) {i q r:Nat} {K:T→Bool} (hk:NU i q r M K=true):∃M',Sim E ρ G F M' nx w∧K M'=true:=by
 obtain⟨g,Ty,sz,els,h1,hk⟩:=cH hk
 obtain⟨el,h2,hk⟩:=bm hk
 obtain⟨v,h3,hk⟩:=bm hk
 rw[fc]at h2 h3
 rcases IA hk with⟨j,rfl,hk⟩|hk
 case inr=>exact⟨M,h,hk⟩
 obtain⟨sure,ak,av,α,l,kf,vf,hj,hk⟩:=oB hk
 rcases aP hk with⟨_,hk⟩|⟨hs,hk⟩
 ·cases hk
 subst hs
 obtain⟨k1,k2⟩:=aj hk
 obtain⟨e,h4,q5⟩:=h.objP hj
 rcases q5 with⟨b1,ob,b2,b3⟩|⟨b1,b2⟩
 ·have b1':(false|| !Nat.beq e.cap 0)=true:=b1
  have b4:Nat.beq e.cap 0=false:=by simpa using b1'
  obtain⟨M1,k3,s1,s2⟩:=T.set_ok _ _ _ _ _ k2
  obtain⟨g,Ty,sz,els,h1,hk⟩:=cH k3
  obtain⟨el,h2,hk⟩:=bm hk
  obtain⟨v2,h3,hk⟩:=bm hk
  rw[fc]at h2 h3
  obtain⟨hvv,hk3⟩:=aa hk
  subst hvv
  obtain⟨hk4,_⟩:=dr hk3
  obtain⟨hk5,_⟩:=dr hk4
  obtain⟨M2,hk6,g1,g2⟩:=T.set_ok _ _ _ _ _ hk5
  have hS:Sim E ρ G F M1 nx w:=h.reobjE (o':=.kmap true ak av α l kf vf) hj h4 b1 rfl (fun ob q=>q) s1 s2
  refine⟨M2,hS.swap h1 h2 h3 (fun x hx=> ?_) g1 g2,hk6⟩
  simp only[den,bc,h4,b4,cond_false]at hx ⊢
  exact hx
 ·have b1':(false|| !Nat.beq e.cap 0)=false:=b1
  have b4:Nat.beq e.cap 0=true:=by simpa using b1'
  rw[prB_true.2 b2.2]at k1
  obtain⟨hk,_⟩:=dr (show(upd el r [.nilM] fun e2=>upd els q [e2] fun els2=>T.set bE M i (some (.blk g Ty sz els2)) K)=true from k1)
  obtain⟨hk,_⟩:=dr hk
  obtain⟨M2,hk,g1,g2⟩:=T.set_ok _ _ _ _ _ hk
  refine⟨M2,h.swap h1 h2 h3 (fun x hx=> ?_) g1 g2,hk⟩
  simp only[den,bc,h4,b4,cond_true]at hx ⊢
  exact hx
noncomputable def RG (v:AV) (ak av:Bool) (α:Type) (kf vf:α→List PL) (M:T) (nx:Nat) (K:AV→T→Nat→Bool):Bool:=rP v (T.set bE M nx (some (.kmap false ak av α [] kf vf)) fun M'=>fN (Nat.succ nx) fun q=>K (.sy (.kmp nx)) M' q)
 (fun j=>XG j ak av α kf vf M fun M1=>td M1 j fun sure ak av α l kf vf=>ac sure (T.set bE M1 j none fun M2=>T.set bE M2 nx (some (.kmap false ak av α l kf vf)) fun M'=>fN (Nat.succ nx) fun q=>K (.sy (.kmp nx)) M' q))
theorem Qt (h:Sim E ρ G F M nx w) {v:AV} {ak av:Bool} {α:Type} {kf vf:α→List PL} {K:AV→T→Nat→Bool} (hk:RG v ak av α kf vf M nx K=true):
  ∃v' M' nx' ρ',ρ.Le ρ'∧Sim E ρ' G F M' nx' w∧K v' M' nx'=true∧(∀x,den E ρ v=some x→den E ρ' v'=some x):=by
 rcases lG hk with⟨rfl,g⟩|⟨j,rfl,g⟩
 ·obtain⟨M',k1,s1,s2⟩:=T.set_ok _ _ _ _ _ g
  rw[bO]at k1
  refine⟨_,M',nx+1,_,Ren.le_set _ (h.fresh nx (aaS _)),h.nilObj (o:=.kmap false ak av α [] kf vf) rfl ⟨rfl,rfl⟩ s1 s2,k1,fun x hx=> ?_⟩
  cases hx
  simp[den,bc,Ren.set_self]
 ·obtain⟨M1,hS,k1⟩:=NW h g
  have k1:=oB k1
  obtain⟨sure,ak2,av2,α2,l2,kf2,vf2,hj,k2⟩:=k1
  obtain⟨hs,k3⟩:=aj k2
  subst hs
  obtain⟨e,ob,h4,_,_⟩:=hS.obj hj
  obtain⟨M2,k4,s1,s2⟩:=T.set_ok _ _ _ _ _ k3
  obtain⟨M3,k5,s3,s4⟩:=T.set_ok _ _ _ _ _ k4
  rw[bO]at k5
  have h0:=hS.fresh nx (aaS _)
  have hne:j≠nx:=fun q=>by rw[q,h0]at h4;cases h4
  refine⟨_,M3,nx+1,_,Ren.le_set (ρ:=ρ) ⟨e.b,1⟩ h0,hS.rekey (o':=.kmap false ak2 av2 α2 l2 kf2 vf2) (e':=⟨e.b,1⟩) hj h4 rfl rfl rfl (fun ob q=>q) s3 (fun m a1 a2=>by rw[s4 m a1,s2 m a2]) (by rw[s4 j hne,s1]),k5,fun x hx=> ?_⟩
  simp only[den,h4]at hx
  cases hx
  simp only[den,bc,Ren.set_self]
  rfl
noncomputable def NS (i q r:Nat) (ak av:Bool) (α:Type) (kf vf:α→List PL) (M:T) (nx:Nat) (K:T→Nat→Bool):Bool:=
 eL M i fun _ _ _ els=>cY (ez els q) fun el=>cY (ez el r) fun v=>aS (eA v) (K M nx) (RG v ak av α kf vf M nx fun v' M' nx'=>eL M' i fun g T2 s2 els=>cY (ez els q) fun el'=>cY (ez el' r) fun v2=>ac (aC (v2=v))
  (upd el' r [v'] fun e2=>upd els q [e2] fun els2=>T.set bE M' i (some (.blk g T2 s2 els2)) fun M2=>K M2 nx'))
theorem NR (h:Sim E ρ G F M nx w) {i q r:Nat} {ak av:Bool} {α:Type} {kf vf:α→List PL} {K:T→Nat→Bool} (hk:NS i q r ak av α kf vf M nx K=true):
  ∃M' nx' ρ',ρ.Le ρ'∧Sim E ρ' G F M' nx' w∧K M' nx'=true:=by
 obtain⟨g,T1,s1,els,h1,hk⟩:=cH hk
 obtain⟨el,h2,hk⟩:=bm hk
 obtain⟨v,h3,hk⟩:=bm hk
 rcases aP hk with⟨-,hk⟩|⟨-,hk⟩
 ·exact⟨M,nx,ρ,Ren.Le.refl _,h,hk⟩
 obtain⟨v',M',nx',ρ',le,sm,hk,hv⟩:=Qt h hk
 obtain⟨g,T2,s2,els2,h4,hk⟩:=cH hk
 obtain⟨el2,h5,hk⟩:=bm hk
 obtain⟨v2,h6,hk⟩:=bm hk
 obtain⟨hvv,hk2⟩:=aa hk
 obtain⟨hk3,l1⟩:=dr hk2
 obtain⟨hk4,l2⟩:=dr hk3
 obtain⟨M2,hk5,g1,g2⟩:=T.set_ok _ _ _ _ _ hk4
 clear hk hk2 hk3 hk4
 subst hvv
 rw[fc]at h2 h3 h5 h6
 refine⟨M2,nx',ρ',le,sm.swap h4 h5 h6 (fun x hx=> ?_) g1 g2,hk5⟩
 obtain⟨e,arr,xs,e1,e2,e3,e4,e5,e6,e7,e8,e9⟩:=h.cellsAt h1
 have hmem:v2∈els.flatten:=List.mem_flatten.2 ⟨el,aaG h2,aaG h3⟩
 obtain⟨k,hk2⟩:=List.mem_iff_getElem?.1 hmem
 obtain⟨y,y1,_⟩:=mc e3 hk2
 have:=gj le v2 y y1
 rw[this]at hx
 cases hx
 exact hv _ y1
noncomputable def QF (t n:Nat) (S:SL) (K:SL→Bool):Bool:=AV.casesOn (bp t S) false (fun _ _=>K S) (fun _=>false) (fun _=>false) (fun _ _=>false) (fun _ _ _ _=>false) (fun _=>false) false false false false false (fun _ _=>false) (fun _ _=>false) (fun _=>false) (fun _=>false) (fun _=>false) (fun _=>false)
 (fun s=>SY.casesOn s (fun k z=>wQ n z (fun j=>fN j fun j=>K (.cons t (.int k (Int.ofNat j)) S)) 0) (fun _=>false) (fun _=>false) (fun _ _ _ _ _=>false) (fun _ _ _=>false) (fun _ _=>false) (fun _ _ _ _=>false) (fun _ _ _ _=>false) (fun _ _ _=>false) (fun _=>false))
theorem TP {N:Nat} {S:SL} {a:Act} (s:SR E ρ N S a) {t n:Nat} {K:SL→Bool} (hk:QF t n S K=true):∃S',SR E ρ N S' a∧K S'=true:=by
 unfold QF at hk
 generalize e:bp t S=v at hk
 cases v<;>first|(cases hk;done)|exact⟨S,s,hk⟩|skip
 case sy s'=>
  cases s'<;>first|(cases hk;done)|skip
  case int k z=>
   obtain⟨j,h1,_,h2⟩:=th (show wQ n z (fun j=>fN j fun j=>K (.cons t (.int k (Int.ofNat j)) S)) 0=true from hk)
   rw[bO]at h2
   refine⟨_,⟨s.size,s.defs,fun u=> ?_⟩,h2⟩
   by_cases q:t=u
   ·subst q
    rw[gL]
    rcases s.at_ t with q|⟨x,q1,q2⟩
    ·rw[e]at q;cases q
    ·refine .inr ⟨x,?_,q2⟩
     rw[e]at q1
     rw[←q1,h1]
     rfl
   ·rw[ky _ _ q]
    exact s.at_ u
noncomputable def RL (i q r n:Nat) (M:T) (K:T→Bool):Bool:=eL M i fun g Ty sz els=>cY (ez els q) fun el=>cY (ez el r) fun v=>AV.casesOn v false (fun _ _=>K M) (fun _=>false) (fun _=>false) (fun _ _=>false) (fun _ _ _ _=>false) (fun _=>false) false false false false false (fun _ _=>false) (fun _ _=>false) (fun _=>false) (fun _=>false) (fun _=>false) (fun _=>false)
 (fun s=>SY.casesOn s (fun k z=>wQ n z (fun j=>fN j fun j=>upd el r [.int k (Int.ofNat j)] fun e2=>upd els q [e2] fun els2=>T.set bE M i (some (.blk g Ty sz els2)) K) 0) (fun _=>false) (fun _=>false) (fun _ _ _ _ _=>false) (fun _ _ _=>false) (fun _ _=>false) (fun _ _ _ _=>false) (fun _ _ _ _=>false) (fun _ _ _=>false) (fun _=>false))
theorem QE (h:Sim E ρ G F M nx w) {i q r n:Nat} {K:T→Bool} (hk:RL i q r n M K=true):∃M',Sim E ρ G F M' nx w∧K M'=true:=by
 obtain⟨g,Ty,sz,els,h1,hk1⟩:=cH hk
 obtain⟨el,h2,hk2⟩:=bm hk1
 obtain⟨v,h3,hk3⟩:=bm hk2
 clear hk hk1 hk2
 rw[fc]at h2 h3
 cases v<;>first|(cases hk3;done)|exact⟨M,h,hk3⟩|skip
 case sy s'=>
  cases s'<;>first|(cases hk3;done)|skip
  case int k z=>
   obtain⟨j,e1,_,e2⟩:=th (show wQ n z (fun j=>fN j fun j=>upd el r [.int k (Int.ofNat j)] fun e2=>upd els q [e2] fun els2=>T.set bE M i (some (.blk g Ty sz els2)) K) 0=true from hk3)
   rw[bO]at e2
   obtain⟨e3,l1⟩:=dr e2
   obtain⟨e4,l2⟩:=dr e3
   obtain⟨M2,e5,g1,g2⟩:=T.set_ok _ _ _ _ _ e4
   refine⟨M2,h.swap h1 h2 h3 (v':=.int k (Int.ofNat j)) (fun x hx=> ?_) g1 g2,e5⟩
   rw[←hx,e1]
   rfl
noncomputable def Fm (n:Nat) (z:Int) (K:Nat→Bool) (D:Bool):Nat→Bool:=Nat.rec (fun _=>D) (fun _ ih k=>aS (aC (z=Int.ofNat k)) (K k) (ih (Nat.succ k))) n
theorem HS {z:Int} {K:Nat→Bool} {D:Bool}:∀{n k:Nat},Fm n z K D k=true→(∃j:Nat,z=(j:Int)∧K j=true)∨D=true
 |0,k,h=>.inr h
 |n+1,k,h=>by
  have h':aS (aC (z=Int.ofNat k)) (K k) (Fm n z K D (Nat.succ k))=true:=h
  rcases je h' with⟨q,g⟩|⟨_,g⟩
  ·exact .inl ⟨k,q,g⟩
  ·exact HS g
noncomputable def RK (i q r n:Nat) (M:T) (K:T→Bool):Bool:=eL M i fun g Ty sz els=>cY (ez els q) fun el=>cY (ez el r) fun v=>AV.casesOn v false (fun _ _=>K M) (fun _=>false) (fun _=>false) (fun _ _=>false) (fun _ _ _ _=>false) (fun _=>false) false false false false false (fun _ _=>false) (fun _ _=>false) (fun _=>false) (fun _=>false) (fun _=>false) (fun _=>false)
 (fun s=>SY.casesOn s (fun k z=>Fm n z (fun j=>fN j fun j=>upd el r [.int k (Int.ofNat j)] fun e2=>upd els q [e2] fun els2=>T.set bE M i (some (.blk g Ty sz els2)) K) (K M) 0) (fun _=>false) (fun _=>false) (fun _ _ _ _ _=>false) (fun _ _ _=>false) (fun _ _=>false) (fun _ _ _ _=>false) (fun _ _ _ _=>false) (fun _ _ _=>false) (fun _=>false))
theorem QD (h:Sim E ρ G F M nx w) {i q r n:Nat} {K:T→Bool} (hk:RK i q r n M K=true):∃M',Sim E ρ G F M' nx w∧K M'=true:=by
 obtain⟨g,Ty,sz,els,h1,hk1⟩:=cH hk
 obtain⟨el,h2,hk2⟩:=bm hk1
 obtain⟨v,h3,hk3⟩:=bm hk2
 clear hk hk1 hk2
 rw[fc]at h2 h3
 cases v<;>first|(cases hk3;done)|exact⟨M,h,hk3⟩|skip
 case sy s'=>
  cases s'<;>first|(cases hk3;done)|skip
  case int k z=>
   rcases HS (show Fm n z (fun j=>fN j fun j=>upd el r [.int k (Int.ofNat j)] fun e2=>upd els q [e2] fun els2=>T.set bE M i (some (.blk g Ty sz els2)) K) (K M) 0=true from hk3) with⟨j,e1,e2⟩|e2
   ·rw[bO]at e2
    obtain⟨e3,l1⟩:=dr e2
    obtain⟨e4,l2⟩:=dr e3
    obtain⟨M2,e5,g1,g2⟩:=T.set_ok _ _ _ _ _ e4
    refine⟨M2,h.swap h1 h2 h3 (v':=.int k (Int.ofNat j)) (fun x hx=> ?_) g1 g2,e5⟩
    rw[←hx,e1]
    rfl
   ·exact⟨M,h,e2⟩
end
inductive Adm:Type 1|can (k:Nat) (live:List Nat)|born (t Ty sz:Nat) (α:Type) (enc:α→List PL)|cell (i q r Ty sz:Nat) (α:Type) (enc:α→List PL)|up (t:Nat)|upc (i q r:Nat)|upm (i:Nat)|fix (t n:Nat)|frz (t:Nat)|fixc (i q r n:Nat)|frzc (i q r:Nat)|fixo (i q r n:Nat)|kb (i:Nat) (ak av:Bool) (α:Type) (kf vf:α→List PL)|die|kfork (i q r:Nat)|bors (t Ty sz:Nat) (α:Type) (enc:α→List PL)|kjoin (i q r:Nat) (ak av:Bool) (α:Type) (kf vf:α→List PL)|shr (i:Nat)
noncomputable def eY (l:List Adm):SL→T→Nat→(SL→T→Nat→Bool)→Bool:=List.rec (fun S M nx K=>K S M nx) (fun a _ ih S M nx K=>Adm.casesOn a (fun k live=>Yz k live S M fun S M nx=>ih S M nx K) (fun t Ty sz α enc=>Ft t Ty sz α enc S M nx fun S M nx=>ih S M nx K) (fun i q r Ty sz α enc=>RQ i q r Ty sz α enc M nx fun M nx=>ih S M nx K) (fun t=>Zq t S fun S=>ih S M nx K) (fun i q r=>Uu i q r M fun M=>ih S M nx K) (fun i=>Ut i M fun M=>ih S M nx K) (fun t n=>QF t n S fun S=>ih S M nx K) (fun t=>Me (bp t S) M fun v M=>ih (.cons t v S) M nx K) (fun i q r n=>RL i q r n M fun M=>ih S M nx K) (fun i q r=>RJ i q r M fun M=>ih S M nx K) (fun i q r n=>RK i q r n M fun M=>ih S M nx K) (fun i ak av α kf vf=>XG i ak av α kf vf M fun M=>ih S M nx K) false (fun i q r=>NU i q r M fun M=>ih S M nx K) (fun t Ty sz α enc=>aS (eA (bp t S)) (ih S M nx K) (Ft t Ty sz α enc S M nx fun S M nx=>ih S M nx K)) (fun i q r ak av α kf vf=>NS i q r ak av α kf vf M nx fun M nx=>ih S M nx K) (fun i=>Wn i M fun M=>ih S M nx K)) l
noncomputable def xp (l:List (Nat×List Adm)) (e:Nat):List Adm:=List.rec [] (fun p _ ih=>Bool.rec ih p.2 (Nat.beq p.1 e)) l
noncomputable def Lh (S:SL):Nat:=AV.casesOn (bp 0 S) 0 (fun _ z=>Int.casesOn z (fun n=>Nat.succ n) (fun _=>0)) (fun _=>0) (fun _=>0) (fun _ _=>0) (fun _ _ _ _=>0) (fun _=>0) 0 0 0 0 0 (fun _ _=>0) (fun _ _=>0) (fun _=>0) (fun _=>0) (fun _=>0) (fun _=>0) (fun _=>0)
noncomputable def XV (l:List (Nat×List Adm)) (e:Nat):Bool:=List.rec false (fun p _ ih=>Bool.rec ih true (Nat.beq p.1 e)) l
noncomputable def Du (l:List (Nat×List Adm)) (e:Nat) (S:SL):List Adm:=Bool.rec (xp l e) (xp l (Nat.add e (Nat.mul 1000 (Lh S)))) (XV l (Nat.add e (Nat.mul 1000 (Lh S))))
inductive XC:Type 1|bad|skip|ret|exit (k:Nat)|reg (draw:Bool) (n:Nat) (tr:XTr)|seq (x y:XC)|cond (p:XP) (x y:XC)|block (k:Nat) (c:XC)|loop (live:List Nat) (c:XC)|inv (j:Nat) (c:XC)|aft (x:XC) (l:List (Nat×List Adm))|pre (l:List Adm) (x:XC)|spc (j:Nat) (x:XC)
abbrev KC:=Nat→SL→T→Nat→Bool
noncomputable def Ya (v:AV) (K0:Bool) (K:AV→Bool):Bool:=AV.casesOn v K0 (fun k z=>K (.int k z)) (fun b=>K (.bool b)) (fun l=>K (.str l)) (fun i o=>K (.ptr i o)) (fun i o n c=>K (.sl i o n c)) (fun i=>K (.map i)) (K .nilP) (K .nilS) (K .nilM) (K .nilF) (K .nilI) (fun t v=>K (.iface t v)) (fun f c=>K (.fn f c)) (fun i=>K (.yl i)) (fun l=>K (.agg l)) (fun l=>K (.tup l)) (fun i=>K (.any i)) (fun s=>K (.sy s))
theorem XZ {v:AV} {K0:Bool} {K:AV→Bool} (h:Ya v K0 K=true):(v= .bad∧K0=true)∨K v=true:=by
 cases v<;>first|exact .inr h|exact .inl ⟨rfl,h⟩
noncomputable def Bf (S:SL) (live:List Nat):SL→(SL→Bool)→Bool:=List.rec (fun acc K=>K acc) (fun t _ ih acc K=>Ya (bp t S) (ih acc K) fun v=>ih (.cons t v acc) K) live
noncomputable def RP (p:XP) (S:SL) (K:Bool→SL→Bool):Bool:=XP.casesOn p (fun n=>Cz n S K) (fun v=>KB v fun b=>K b S) (fun _=>false)
abbrev gO:=Nat→SL→T→Nat→KC→Bool
noncomputable def df (cf:ii) (lp:gO) (lf:Nat) (c:XC):SL→T→Nat→KC→Bool:=XC.rec
 (fun _ _ _ _=>false) (fun S M nx K=>K 0 S M nx) (fun S M nx K=>K 1 S M nx) (fun k S M nx K=>K k S M nx)
 (fun _ _ tr S M nx K=>Fb cf tr S M nx fun S M nx=>K 0 S M nx)
 (fun _ _ ihx ihy S M nx K=>ihx S M nx fun e S M nx=>Nat.casesOn e (ihy S M nx K) fun e'=>K (Nat.succ e') S M nx)
 (fun p _ _ ihx ihy S M nx K=>RP p S fun b S=>aS b (ihx S M nx K) (ihy S M nx K))
 (fun k _ ih S M nx K=>ih S M nx fun e S M nx=>aS (Nat.beq e k) (K 0 S M nx) (K e S M nx))
 (fun live _ ih S M nx K=>Nat.rec (motive:=fun _=>SL→T→Nat→Bool) (fun _ _ _=>false) (fun _ again S M nx=>Bf S live .nil fun S=>ih S M nx fun e S M nx=>Nat.casesOn e (again S M nx) fun e'=>K (Nat.succ e') S M nx) lf S M nx)
 (fun j _ _ S M nx K=>lp j S M nx K)
 (fun _ l ih S M nx K=>ih S M nx fun e S M nx=>eY (Du l e S) S M nx (K e))
 (fun l _ ih S M nx K=>eY l S M nx fun S M nx=>ih S M nx K)
 (fun j _ _ S M nx K=>lp j S M nx K) c
def Df:Nat→Exit
 |0=>.normal|1=>.ret|n+2=>.exit n
def Bk:List XSt→Bool
 |[]=>true
 |.a ..::_=>false
 |_::r=>Bk r
def fp (P:Program) (N:Nat):XC→Code→Bool
 |.bad,_=>true
 |.skip,.skip=>true
 |.ret,.ret=>true
 |.exit k,.exit i=>Nat.beq k (i+2)
 |.reg draw n tr,.region _ ops d=>decide (draw=d)&&BU P ops N tr&&(match draw,tr with|true,_=>xz ops n [] (KV tr)|false,.leaf sts=>Bk sts&&Nat.beq ops.size n&&decide ((sts.map fun s=>(uN s).1)=List.range n)|_,_=>false)
 |.seq x y,.seq a b=>fp P N x a&&fp P N y b
 |.cond p x y,.cond c a b=>bJ p c&&fp P N x a&&fp P N y b
 |.block k c,.block i a=>Nat.beq k (i+2)&&fp P N c a
 |.loop _ c,.loop a=>fp P N c a
 |.inv _ c,.loop a=>fp P N c a
 |.aft x _,c=>fp P N x c
 |.pre _ x,c=>fp P N x c
 |.spc _ x,c=>fp P N x c
 |_,_=>false
def plain:XC→Bool
 |.seq x y=>plain x&&plain y
 |.cond _ x y=>plain x&&plain y
 |.block _ c=>plain c
 |.loop _ c=>plain c
 |.inv ..|.aft ..|.pre ..|.spc ..=>false
 |_=>true
def eU:XC→List (Bool×Nat×XC)
 |.seq x y=>eU x++eU y
 |.cond _ x y=>eU x++eU y
 |.block _ c=>eU c
 |.loop _ c=>eU c
 |.inv j c=>[(true,j,c)]
 |.aft x _=>eU x
 |.pre _ x=>eU x
 |.spc j x=>[(false,j,x)]
 |_=>[]
section
variable {P:Program} {E:Env} {ρ:Ren} {G:GS} {F:List aA} {M:T} {nx:Nat} {w:World} {N:Nat} {S:SL} {a:Act} {ops:Array Oper} {o:Oper}
theorem QP (s:SR E ρ N S a) {p:XP} {c:Operand} {K:Bool→SL→Bool} (ho:bJ p c=true) (h:RP p S K=true):∃b S',a.eval c= .bool b∧SR E ρ N S' a∧K b S'=true:=by
 cases p with
 |t n=>
  cases c<;>simp only[bJ]at ho<;>first|(cases ho;done)|skip
  have:=aaF ho
  subst this
  obtain⟨b,S',h1,h2,h3⟩:=JG s (show Cz n S K=true from h)
  exact⟨b,S',h1,h2,h3⟩
 |c v=>
  cases c<;>simp only[bJ]at ho<;>first|(cases ho;done)|skip
  have hd:=tf (E:=E) (ρ:=ρ) ho
  obtain⟨b,rfl,h1⟩:=Ca (show KB v (fun b=>K b S)=true from h)
  cases hd
  exact⟨b,S,rfl,s,h1⟩
 |f n=>cases h
theorem zF (s:SR E ρ N S a):∀{live:List Nat} {acc:SL} {K:SL→Bool},SR E ρ N acc a→Bf S live acc K=true→∃S',SR E ρ N S' a∧K S'=true
 |[],acc,K,sa,h=>⟨acc,sa,h⟩
 |t::live,acc,K,sa,h=>by
  have h':Ya (bp t S) (Bf S live acc K) (fun v=>Bf S live (.cons t v acc) K)=true:=h
  rcases XZ h' with⟨_,h1⟩|h1
  ·exact zF s sa h1
  ·refine zF s ⟨sa.size,sa.defs,fun u=> ?_⟩ h1
   by_cases e:t=u
   ·subst e
    rw[gL]
    exact s.at_ t
   ·rw[ky _ _ e]
    exact sa.at_ u
theorem SR.nil (h1:a.tmps.size=N) (h2:a.defers=[]):SR E ρ N .nil a:=⟨h1,h2,fun _=>.inl rfl⟩
theorem pB {Q:Exit→Act→World→Prop}:∀{sts:List XSt} {a:Act} {w:World},Bk sts=true→nf P ops (fun a w=>Q .normal a w) (sts.map uN) a w→wpOps P ops Q (sts.map fun s=>(uN s).1) a w
 |[],_,_,_,h=>h
 |.p i d g x::r,a,w,hn,⟨v,h1,h2⟩=>by
  rw[aaI,wpOps_cons]
  exact xN ((h1 w).to (pB (Q:=Q) (by simpa[Bk] using hn) h2))
 |.r i d g x::r,a,w,hn,⟨v,h1,h2⟩=>by
  rw[aaI,wpOps_cons]
  exact xN (h1.to (pB (Q:=Q) (by simpa[Bk] using hn) h2))
 |.e i d g x::r,a,w,hn,h=>by
  rw[aaI,wpOps_cons]
  exact xN (op1.mono h fun a w h=>pB (Q:=Q) (by simpa[Bk] using hn) h)
 |.c i d g f xs::r,a,w,hn,h=>by
  rw[aaI,wpOps_cons]
  exact xN (op1.mono h fun a w h=>pB (Q:=Q) (by simpa[Bk] using hn) h)
 |.k i d g t f xs::r,a,w,hn,h=>by
  rw[aaI,wpOps_cons]
  exact xN (op1.mono h fun a w h=>pB (Q:=Q) (by simpa[Bk] using hn) h)
 |.a i d g x::r,a,w,hn,h=>by simp[Bk]at hn
structure Rel (fl:Bool) (pk:Nat) (E:Env) (ρ:Ren) (E':Env) (ρ':Ren):Prop where
 one:dG E'
 mem:MLe E.M E'.M
 ext:fl=true→Ext E ρ E' ρ'
 pin:∀i e,i<pk→ρ i=some e→ρ' i=some e
theorem Ext.rel {fl:Bool} {pk:Nat} {E':Env} {ρ':Ren} (h:Ext E ρ E' ρ'):Rel fl pk E ρ E' ρ':=⟨h.one,h.env.mem,fun _=>h,fun i e _ q=>h.le i e q⟩
theorem Rel.trans {fl:Bool} {pk:Nat} {E1 E2 E3:Env} {r1 r2 r3:Ren} (h:Rel fl pk E1 r1 E2 r2) (k:Rel fl pk E2 r2 E3 r3):Rel fl pk E1 r1 E3 r3:=⟨k.one,MLe.trans h.mem k.mem,fun q=>(h.ext q).trans (k.ext q),fun i e q1 q2=>k.pin i e q1 (h.pin i e q1 q2)⟩
theorem Rel.next {pk:Nat} {E1 E2:Env} {r1 r2 r3:Ren} (h:Rel false pk E1 r1 E2 r2) (k:∀i e,i<pk→r2 i=some e→r3 i=some e):Rel false pk E1 r1 E2 r3:=⟨h.one,h.mem,fun q=>(by cases q),fun i e q1 q2=>k i e q1 (h.pin i e q1 q2)⟩
theorem Rel.prev {pk:Nat} {E1 E2:Env} {r1 r2 r3:Ren} (h:Rel false pk E1 r2 E2 r3) (k:∀i e,i<pk→r1 i=some e→r2 i=some e):Rel false pk E1 r1 E2 r3:=⟨h.one,h.mem,fun q=>(by cases q),fun i e q1 q2=>h.pin i e q1 (k i e q1 q2)⟩
def cy (pk:Nat):List Adm→Bool
 |[]=>true
 |.can k _::l=>Nat.ble pk k&&cy pk l
 |.born ..::l=>cy pk l
 |.cell ..::l=>cy pk l
 |.up _::l=>cy pk l
 |.upc ..::l=>cy pk l
 |.upm _::l=>cy pk l
 |.shr _::l=>cy pk l
 |.fix ..::l=>cy pk l
 |.frz _::l=>cy pk l
 |.fixc ..::l=>cy pk l
 |.frzc ..::l=>cy pk l
 |.fixo ..::l=>cy pk l
 |.kb ..::l=>cy pk l
 |.die::l=>cy pk l
 |.kfork ..::l=>cy pk l
 |.bors ..::l=>cy pk l
 |.kjoin ..::l=>cy pk l
def Fi (pk:Nat):List (Nat×List Adm)→Bool
 |[]=>true
 |p::l=>cy pk p.2&&Fi pk l
def fC (pk:Nat):XC→Bool
 |.seq x y=>fC pk x&&fC pk y
 |.cond _ x y=>fC pk x&&fC pk y
 |.block _ c=>fC pk c
 |.loop _ c=>fC pk c
 |.aft x l=>fC pk x&&Fi pk l
 |.pre l x=>cy pk l&&fC pk x
 |_=>true
theorem zP {pk:Nat}:∀{l:List (Nat×List Adm)} {e:Nat},Fi pk l=true→cy pk (xp l e)=true
 |[],e,_=>rfl
 |p::l,e,h=>by
  obtain⟨h1,h2⟩:=aK h
  have:xp (p::l) e=(Bool.rec (xp l e) p.2 (Nat.beq p.1 e):List Adm):=rfl
  rw[this]
  cases Nat.beq p.1 e
  ·exact zP h2
  ·exact h1
theorem NV {pk:Nat} {l:List (Nat×List Adm)} {e:Nat} {S:SL} (h:Fi pk l=true):cy pk (Du l e S)=true:=by
 unfold Du
 cases XV l (Nat.add e (Nat.mul 1000 (Lh S)))
 ·exact zP h
 ·exact zP h
theorem dc {pk:Nat}:∀{l:List Adm} {S:SL} {M:T} {nx:Nat} {E:Env} {ρ:Ren} {K:SL→T→Nat→Bool},dG E→cy pk l=true→SR E ρ N S a→Sim E ρ G F M nx w→eY l S M nx K=true→∃S' M' nx' E' ρ',dG E'∧MLe E.M E'.M∧SR E' ρ' N S' a∧Sim E' ρ' G F M' nx' w∧K S' M' nx'=true∧∀i e,i<pk→ρ i=some e→ρ' i=some e
 |[],S,M,nx,E,ρ,K,hE,_,s,h,hk=>⟨S,M,nx,E,ρ,hE,MLe.refl _,s,h,hk,fun _ _ _ q=>q⟩
 |.can k live::l,S,M,nx,E,ρ,K,hE,hp,s,h,hk=>by
  obtain⟨hp1,hp2⟩:=aK hp
  rw[Nat.ble_eq]at hp1
  obtain⟨S1,M1,n1,ρ1,s1,h1,k1,p1⟩:=Ub (K:=fun S M nx=>eY l S M nx K) s h hk
  obtain⟨S2,M2,n2,E2,ρ2,o2,m2,s2,h2,k2,p2⟩:=dc hE hp2 s1 h1 k1
  exact⟨S2,M2,n2,E2,ρ2,o2,m2,s2,h2,k2,fun i e q1 q2=>p2 i e q1 (p1 i e (Nat.lt_of_lt_of_le q1 hp1) q2)⟩
 |.born t Ty sz α enc::l,S,M,nx,E,ρ,K,hE,hp,s,h,hk=>by
  obtain⟨S1,M1,n1,ρ1,le1,s1,h1,k1⟩:=Ip (K:=fun S M nx=>eY l S M nx K) s h hk
  obtain⟨S2,M2,n2,E2,ρ2,o2,m2,s2,h2,k2,p2⟩:=dc hE (show cy pk l=true from hp) s1 h1 k1
  exact⟨S2,M2,n2,E2,ρ2,o2,m2,s2,h2,k2,fun i e q1 q2=>p2 i e q1 (le1 i e q2)⟩
 |.cell i q r Ty sz α enc::l,S,M,nx,E,ρ,K,hE,hp,s,h,hk=>by
  obtain⟨M1,n1,ρ1,le1,h1,k1⟩:=QR (K:=fun M nx=>eY l S M nx K) h hk
  obtain⟨S2,M2,n2,E2,ρ2,o2,m2,s2,h2,k2,p2⟩:=dc hE (show cy pk l=true from hp) (s.mono le1) h1 k1
  exact⟨S2,M2,n2,E2,ρ2,o2,m2,s2,h2,k2,fun i e q1 q2=>p2 i e q1 (le1 i e q2)⟩
 |.up t::l,S,M,nx,E,ρ,K,hE,hp,s,h,hk=>by
  obtain⟨S1,s1,k1⟩:=Uv (K:=fun S=>eY l S M nx K) s hk
  exact dc hE (show cy pk l=true from hp) s1 h k1
 |.upc i q r::l,S,M,nx,E,ρ,K,hE,hp,s,h,hk=>by
  obtain⟨M1,h1,k1⟩:=Sd (K:=fun M=>eY l S M nx K) h hk
  exact dc hE (show cy pk l=true from hp) s h1 k1
 |.upm i::l,S,M,nx,E,ρ,K,hE,hp,s,h,hk=>by
  obtain⟨M1,h1,k1⟩:=Sb (K:=fun M=>eY l S M nx K) h hk
  exact dc hE (show cy pk l=true from hp) s h1 k1
 |.shr i::l,S,M,nx,E,ρ,K,hE,hp,s,h,hk=>by
  obtain⟨M1,h1,k1⟩:=Su (K:=fun M=>eY l S M nx K) h hk
  exact dc hE (show cy pk l=true from hp) s h1 k1
 |.kb i ak av α kf vf::l,S,M,nx,E,ρ,K,hE,hp,s,h,hk=>by
  obtain⟨M1,h1,k1⟩:=NW (K:=fun M=>eY l S M nx K) h hk
  exact dc hE (show cy pk l=true from hp) s h1 k1
 |.kfork i q r::l,S,M,nx,E,ρ,K,hE,hp,s,h,hk=>by
  obtain⟨M1,h1,k1⟩:=NT (K:=fun M=>eY l S M nx K) h hk
  exact dc hE (show cy pk l=true from hp) s h1 k1
 |.kjoin i q r ak av α kf vf::l,S,M,nx,E,ρ,K,hE,hp,s,h,hk=>by
  obtain⟨M1,n1,ρ1,le1,h1,k1⟩:=NR (K:=fun M nx=>eY l S M nx K) h hk
  obtain⟨S2,M2,n2,E2,ρ2,o2,m2,s2,h2,k2,p2⟩:=dc hE (show cy pk l=true from hp) (s.mono le1) h1 k1
  exact⟨S2,M2,n2,E2,ρ2,o2,m2,s2,h2,k2,fun i e q1 q2=>p2 i e q1 (le1 i e q2)⟩
 |.bors t Ty sz α enc::l,S,M,nx,E,ρ,K,hE,hp,s,h,hk=>by
  rcases aP (show aS (eA (bp t S)) (eY l S M nx K) (Ft t Ty sz α enc S M nx fun S M nx=>eY l S M nx K)=true from hk) with⟨_,hk⟩|⟨_,hk⟩
  ·exact dc hE (show cy pk l=true from hp) s h hk
  obtain⟨S1,M1,n1,ρ1,le1,s1,h1,k1⟩:=Ip (K:=fun S M nx=>eY l S M nx K) s h hk
  obtain⟨S2,M2,n2,E2,ρ2,o2,m2,s2,h2,k2,p2⟩:=dc hE (show cy pk l=true from hp) s1 h1 k1
  exact⟨S2,M2,n2,E2,ρ2,o2,m2,s2,h2,k2,fun i e q1 q2=>p2 i e q1 (le1 i e q2)⟩
 |.die::l,S,M,nx,E,ρ,K,hE,hp,s,h,hk=>by cases(show false=true from hk)
 |.fix t n::l,S,M,nx,E,ρ,K,hE,hp,s,h,hk=>by
  obtain⟨S1,s1,k1⟩:=TP (K:=fun S=>eY l S M nx K) s hk
  exact dc hE (show cy pk l=true from hp) s1 h k1
 |.frz t::l,S,M,nx,E,ρ,K,hE,hp,s,h,hk=>by
  have hk':(Me (bp t S) M fun v M=>eY l (.cons t v S) M nx K)=true:=hk
  have hne:bp t S≠ .bad:=fun e=>by rw[e]at hk';cases hk'
  obtain⟨x,q1,q2⟩:=(s.at_ t).resolve_left hne
  obtain⟨E1,M1,u,e1,e2,e3,e4,k1⟩:=Kh h q1 hk'
  have hE1:dG E1:=⟨fun i=>by rw[e2];exact hE.1 i,Tied.mono e1.mem hE.2⟩
  have s1:SR E1 ρ N (.cons t u S) a:=⟨s.size,s.defs,fun r=>by
   by_cases q:t=r
   ·subst q
    rw[gL]
    exact .inr ⟨x,gj (ρ:=fun _=>none) (fun _ _ q=>by cases q) u x e4,q2⟩
   ·rw[ky _ _ q]
    exact(s.at_ r).imp id fun⟨y,y1,y2⟩=>⟨y,lW e1 _ _ y1,y2⟩⟩
  obtain⟨S2,M2,n2,E2,ρ2,o2,m2,s2,h2,k2,p2⟩:=dc hE1 (show cy pk l=true from hp) s1 e3 k1
  exact⟨S2,M2,n2,E2,ρ2,o2,MLe.trans e1.mem m2,s2,h2,k2,p2⟩
 |.frzc i q r::l,S,M,nx,E,ρ,K,hE,hp,s,h,hk=>by
  obtain⟨E1,M1,e1,e2,h1,k1⟩:=Qx (K:=fun M=>eY l S M nx K) h hk
  have hE1:dG E1:=⟨fun i=>by rw[e2];exact hE.1 i,Tied.mono e1.mem hE.2⟩
  have s1:SR E1 ρ N S a:=⟨s.size,s.defs,fun r=>(s.at_ r).imp id fun⟨y,y1,y2⟩=>⟨y,lW e1 _ _ y1,y2⟩⟩
  obtain⟨S2,M2,n2,E2,ρ2,o2,m2,s2,h2,k2,p2⟩:=dc hE1 (show cy pk l=true from hp) s1 h1 k1
  exact⟨S2,M2,n2,E2,ρ2,o2,MLe.trans e1.mem m2,s2,h2,k2,p2⟩
 |.fixo i q r n::l,S,M,nx,E,ρ,K,hE,hp,s,h,hk=>by
  obtain⟨M1,h1,k1⟩:=QD (K:=fun M=>eY l S M nx K) h hk
  exact dc hE (show cy pk l=true from hp) s h1 k1
 |.fixc i q r n::l,S,M,nx,E,ρ,K,hE,hp,s,h,hk=>by
  obtain⟨M1,h1,k1⟩:=QE (K:=fun M=>eY l S M nx K) h hk
  exact dc hE (show cy pk l=true from hp) s h1 k1
def dR (P:Program) (N pk:Nat) (lp:gO) (b:Bool) (j:Nat) (x:XC):Prop:=∀(c:Code) (S:SL) (M:T) (nx:Nat) (E:Env) (ρ:Ren) (G:GS) (F:List aA) (a:Act) (w:World) (K:KC) (Q:Exit→Act→World→Prop),dG E→fp P N x c=true→SR E ρ N S a→Sim E ρ G F M nx w→lp j S M nx K=true→
 (∀e S' M' nx' E' ρ' a' w',K e S' M' nx'=true→Rel false pk E ρ E' ρ'→SR E' ρ' N S' a'→Sim E' ρ' G F M' nx' w'→Q (Df e) a' w')→(bif b then Code.loop c else c).wp P Q a w
theorem Am (hm:P.follows .mixedOrders=true) {cf:ii} (hcf:jf P cf) {lp:gO} {lf:Nat} {fl:Bool} {pk:Nat}:∀(xc:XC) (c:Code) {S:SL} {M:T} {nx:Nat} {E:Env} {ρ:Ren} {a:Act} {w:World} {K:KC} {Q:Exit→Act→World→Prop},dG E→(fl=true→plain xc=true)→fC pk xc=true→(∀b j x,(b,j,x)∈eU xc→dR P N pk lp b j x)→fp P N xc c=true→SR E ρ N S a→Sim E ρ G F M nx w→df cf lp lf xc S M nx K=true→
  (∀e S' M' nx' E' ρ' a' w',K e S' M' nx'=true→Rel fl pk E ρ E' ρ'→SR E' ρ' N S' a'→Sim E' ρ' G F M' nx' w'→Q (Df e) a' w')→c.wp P Q a w:=by
 intro xc
 induction xc with
 |bad=>
  intro c S M nx E ρ a w K Q hE hfl hkp hlp hc s h hk hq
  cases hk
 |skip=>
  intro c S M nx E ρ a w K Q hE hfl hkp hlp hc s h hk hq
  cases c<;>simp only[fp]at hc<;>first|(cases hc;done)|skip
  exact wp_skip (hq 0 _ _ _ _ _ _ _ hk (Ext.of hE (Ren.Le.refl _)).rel s h)
 |ret=>
  intro c S M nx E ρ a w K Q hE hfl hkp hlp hc s h hk hq
  cases c<;>simp only[fp]at hc<;>first|(cases hc;done)|skip
  exact wp_ret (hq 1 _ _ _ _ _ _ _ hk (Ext.of hE (Ren.Le.refl _)).rel s h)
 |exit k=>
  intro c S M nx E ρ a w K Q hE hfl hkp hlp hc s h hk hq
  cases c<;>simp only[fp]at hc<;>first|(cases hc;done)|skip
  have:=aaF hc
  subst this
  exact wp_exit (hq _ _ _ _ _ _ _ _ hk (Ext.of hE (Ren.Le.refl _)).rel s h)
 |reg draw n tr=>
  intro c S M nx E ρ a w K Q hE hfl hkp hlp hc s h hk hq
  cases c<;>simp only[fp]at hc<;>first|(cases hc;done)|skip
  rename_i id ops d
  obtain⟨hc,c3⟩:=aK hc
  obtain⟨c1,c2⟩:=aK hc
  rw[decide_eq_true_eq]at c1
  subst c1
  cases draw with
  |true=>
   refine Ci hm n _ c3 ?_
   exact zi hE hcf s h.drawn (fun S' M' nx' E' ρ' a' w' k1 k2 k3 k4=>hq 0 _ _ _ _ _ _ _ k1 k2.rel k3 k4) c2 hk
  |false=>
   cases tr with
   |split x y t u=>cases c3
   |leaf sts=>
    have hall:∀st∈sts,pw P ops N st=true:=fun st hst=>List.all_eq_true.1 c2 st hst
    obtain⟨hc,c5⟩:=aK c3
    obtain⟨c3,c4⟩:=aK hc
    rw[decide_eq_true_eq]at c5
    have c4:=aaF c4
    refine wp_region ?_
    rw[c4,←c5]
    exact pB c3 (Cy hcf hE hall s h hk fun S' M' nx' E' ρ' a' w' k1 k2 k3 k4=>hq 0 _ _ _ _ _ _ _ k1 k2.rel k3 k4)
 |seq x y ihx ihy=>
  intro c S M nx E ρ a w K Q hE hfl hkp hlp hc s h hk hq
  cases c<;>simp only[fp]at hc<;>first|(cases hc;done)|skip
  obtain⟨c1,c2⟩:=aK hc
  refine wp_seq (ihx _ hE (fun q=>(aK (hfl q)).1) (aK hkp).1 (fun b j x h=>hlp b j x (List.mem_append.2 (.inl h))) c1 s h hk fun e S' M' nx' E' ρ' a' w' k1 k2 k3 k4=> ?_)
  match e,k1 with
  |0,k1=>exact ihy _ k2.one (fun q=>(aK (hfl q)).2) (aK hkp).2 (fun b j x h=>hlp b j x (List.mem_append.2 (.inr h))) c2 k3 k4 k1 fun e S2 M2 nx2 E2 ρ2 a2 w2 j1 j2=>hq e _ _ _ _ _ _ _ j1 (k2.trans j2)
  |1,k1=>exact hq 1 _ _ _ _ _ _ _ k1 k2 k3 k4
  |n+2,k1=>exact hq (n+2) _ _ _ _ _ _ _ k1 k2 k3 k4
 |cond p x y ihx ihy=>
  intro c S M nx E ρ a w K Q hE hfl hkp hlp hc s h hk hq
  cases c<;>simp only[fp]at hc<;>first|(cases hc;done)|skip
  obtain⟨hc,c3⟩:=aK hc
  obtain⟨c1,c2⟩:=aK hc
  obtain⟨b,S,h2,s,h4⟩:=QP s c1 hk
  rcases aP h4 with⟨rfl,h5⟩|⟨rfl,h5⟩
  ·exact wp_cond_true h2 (ihx _ hE (fun q=>(aK (hfl q)).1) (aK hkp).1 (fun b j x h=>hlp b j x (List.mem_append.2 (.inl h))) c2 s h h5 hq)
  ·exact wp_cond_false h2 (ihy _ hE (fun q=>(aK (hfl q)).2) (aK hkp).2 (fun b j x h=>hlp b j x (List.mem_append.2 (.inr h))) c3 s h h5 hq)
 |block k x ih=>
  intro c S M nx E ρ a w K Q hE hfl hkp hlp hc s h hk hq
  cases c<;>simp only[fp]at hc<;>first|(cases hc;done)|skip
  rename_i i cc
  obtain⟨c1,c2⟩:=aK hc
  have c1:=aaF c1
  subst c1
  refine wp_block (ih _ hE hfl hkp hlp c2 s h hk fun e S' M' nx' E' ρ' a' w' k1 k2 k3 k4=> ?_)
  rcases aP k1 with⟨q,g1⟩|⟨q,g1⟩
  ·have he:=aaF q
   have h0:=hq 0 _ _ _ _ _ _ _ g1 k2 k3 k4
   rw[he]
   simp only[Df,Exit.inBlock,if_true]
   exact h0
  ·have:=hq e _ _ _ _ _ _ _ g1 k2 k3 k4
   match e,q,this with
   |0,_,this=>exact this
   |1,_,this=>exact this
   |n+2,q,this=>
    have hne:¬n=i:=fun e=>by subst e;simp at q
    simp only[Df,Exit.inBlock,if_neg hne]
    exact this
 |loop live x ih=>
  intro c S M nx E ρ a w K Q hE hfl hkp hlp hc s h hk hq
  cases c<;>simp only[fp]at hc<;>first|(cases hc;done)|skip
  rename_i cc
  refine wp_loop_rounds lf ?_
  have key:∀(n:Nat) {S:SL} {M:T} {nx:Nat} {E:Env} {ρ:Ren} {a:Act} {w:World},dG E→SR E ρ N S a→Sim E ρ G F M nx w→
    (Nat.rec (motive:=fun _=>SL→T→Nat→Bool) (fun _ _ _=>false) (fun _ again S M nx=>Bf S live .nil fun S=>df cf lp lf x S M nx fun e S M nx=>Nat.casesOn e (again S M nx) fun e'=>K (Nat.succ e') S M nx) n S M nx)=true→
    (∀e S' M' nx' E' ρ' a' w',K e S' M' nx'=true→Rel fl pk E ρ E' ρ'→SR E' ρ' N S' a'→Sim E' ρ' G F M' nx' w'→Q (Df e) a' w')→Code.rounds P cc Q n a w:=by
   intro n
   induction n with
   |zero=>intro S M nx E ρ a w _ _ _ hk;cases hk
   |succ n ihn=>
    intro S M nx E ρ a w hE s h hk hq
    obtain⟨S1,s1,hk1⟩:=zF s (SR.nil s.size s.defs) hk
    refine ih _ hE hfl hkp hlp hc s1 h hk1 fun e S' M' nx' E' ρ' a' w' k1 k2 k3 k4=> ?_
    match e,k1 with
    |0,k1=>exact ihn k2.one k3 k4 k1 fun e S2 M2 nx2 E2 ρ2 a2 w2 j1 j2=>hq e _ _ _ _ _ _ _ j1 (k2.trans j2)
    |1,k1=>exact hq 1 _ _ _ _ _ _ _ k1 k2 k3 k4
    |m+2,k1=>exact hq (m+2) _ _ _ _ _ _ _ k1 k2 k3 k4
  exact key lf hE s h hk hq
 |inv j x ih=>
  intro c S M nx E ρ a w K Q hE hfl hkp hlp hc s h hk hq
  cases c<;>simp only[fp]at hc<;>first|(cases hc;done)|skip
  cases fl with
  |true=>exact absurd (hfl rfl) (by simp[plain])
  |false=>exact hlp true j x (by simp[eU]) _ S M nx E ρ G F a w K Q hE hc s h hk hq
 |aft x l ih=>
  intro c S M nx E ρ a w K Q hE hfl hkp hlp hc s h hk hq
  cases fl with
  |true=>exact absurd (hfl rfl) (by simp[plain])
  |false=>
   have hc':fp P N x c=true:=by
    cases c<;>exact hc
   refine ih c hE (fun q=>by cases q) (aK hkp).1 hlp hc' s h hk fun e S' M' nx' E' ρ' a' w' k1 k2 k3 k4=> ?_
   obtain⟨S2,M2,n2,E2,ρ2,o2,m2,s2,h2,g2,p2⟩:=dc k2.one (NV (aK hkp).2) k3 k4 k1
   exact hq e S2 M2 n2 E2 ρ2 a' w' g2 (k2.trans ⟨o2,m2,fun q=>(by cases q),p2⟩) s2 h2
 |pre l x ih=>
  intro c S M nx E ρ a w K Q hE hfl hkp hlp hc s h hk hq
  cases fl with
  |true=>exact absurd (hfl rfl) (by simp[plain])
  |false=>
   have hc':fp P N x c=true:=by
    cases c<;>exact hc
   obtain⟨S2,M2,n2,E2,ρ2,o2,m2,s2,h2,g2,p2⟩:=dc (K:=fun S M nx=>df cf lp lf x S M nx K) hE (aK hkp).1 s h hk
   exact ih c o2 (fun q=>by cases q) (aK hkp).2 hlp hc' s2 h2 g2 fun e S' M' nx' E' ρ' a' w' k1 k2 k3 k4=>hq e S' M' nx' E' ρ' a' w' k1 (Rel.trans ⟨o2,m2,fun q=>(by cases q),p2⟩ k2) k3 k4
 |spc j x ih=>
  intro c S M nx E ρ a w K Q hE hfl hkp hlp hc s h hk hq
  cases fl with
  |true=>exact absurd (hfl rfl) (by simp[plain])
  |false=>
   have hc':fp P N x c=true:=by
    cases c<;>exact hc
   exact hlp false j x (by simp[eU]) c S M nx E ρ G F a w K Q hE hc' s h hk hq
end
inductive XRes|none|one (t:Nat)|two (t u:Nat)|cell (t:Nat) (agg:Bool) (n:Nat)|ct (t:Nat) (agg:Bool) (n u:Nat)|three (t u v:Nat)
inductive XF:Type 1|mk (N:Nat) (res:XRes) (body:XC)
noncomputable def FS (r:XRes) (S:SL) (M:T) (K:AV→Bool):Bool:=XRes.casesOn r (K (.tup [])) (fun t=>nb (bp t S) K) (fun t u=>nb (bp t S) fun x=>nb (bp u S) fun y=>K (.tup [x,y])) (fun t agg n=>nb (bp t S) fun p=>Kc agg n p M K) (fun t agg n u=>nb (bp t S) fun p=>Kc agg n p M fun v=>nb (bp u S) fun y=>K (.tup [v,y])) (fun t u v=>nb (bp t S) fun x=>nb (bp u S) fun y=>nb (bp v S) fun z=>K (.tup [x,y,z]))
noncomputable def yi (vs:List AV):Nat→SL→(SL→Bool)→Bool:=List.rec (fun _ S K=>K S) (fun v _ ih n S K=>ih (Nat.succ n) (.cons n v S) K) vs
def Im (P:Program) (r:XRes) (rs:List ResultVar):Bool:=match r,rs with
 |.none,[]=>true
 |.one t,[.tmp t']=>Nat.beq t t'
 |.two t u,[.tmp t',.tmp u']=>Nat.beq t t'&&Nat.beq u u'
 |.three t u v,[.tmp t',.tmp u',.tmp v']=>Nat.beq t t'&&Nat.beq u u'&&Nat.beq v v'
 |.cell t agg n,[.cell t' ty]=>Nat.beq t t'&&decide (isAg P ty=some agg)&&decide (szOf P ty=some n)
 |.ct t agg n u,[.cell t' ty,.tmp u']=>Nat.beq t t'&&decide (isAg P ty=some agg)&&decide (szOf P ty=some n)&&Nat.beq u u'
 |_,_=>false
def jW:XF→XC
 |.mk _ _ b=>b
def Zu:XF→Nat
 |.mk n _ _=>n
def ci (P:Program) (f:Nat) (xf:XF):Bool:=match xf,P.funcs[f]? with
 |.mk N res body,some fn=>(match fn.body with|some c=>Nat.beq fn.ntmps N&&Im P res fn.results.toList&&fp P N body c|none=>false)
 |_,none=>false
abbrev co:=List AV→T→Nat→(AV→T→Nat→Bool)→Bool
inductive ES:Type 1|mk (k:Nat) (sp:co)
noncomputable def fP (l:List (Nat×Nat)):(List (Nat×Nat)→Bool)→Bool:=List.rec (fun K=>K []) (fun p _ ih K=>fN p.1 fun a=>fN p.2 fun b=>ih fun l=>K ((a,b)::l)) l
theorem Fq:∀{l:List (Nat×Nat)} {K:List (Nat×Nat)→Bool},fP l K=K l
 |[],K=>rfl
 |p::l,K=>by
  have:fP (p::l) K=(fN p.1 fun a=>fN p.2 fun b=>fP l fun l=>K ((a,b)::l)):=rfl
  rw[this,bO,bO,Fq]
def It (n:Nat) (ps:List (Nat×Nat)):Bool:=ps.all fun p=>Nat.blt p.2 n
theorem EM {n:Nat} {ps:List (Nat×Nat)} (h:It n ps=true):∀p∈ps,p.2<n:=fun p hp=>by
 have:=List.all_eq_true.1 h p hp
 simpa[aa0] using this
noncomputable def Mj (k:Nat) (v:AV) (M:T) (K:AV→T→Nat→Bool):Bool:=fP (CQ 0 (oZ M 200 (Co k (uO v)) [])) fun ps=>ac (Be ps k) (ac (gh ps) (fN ps.length fun n=>ac (It n ps) (sd ps M ps .leaf fun M'=>cY (fb ps v) fun v'=>K v' M' n)))
noncomputable def QM (l:List (Nat×Nat)):T→(T→Bool)→Bool:=List.rec (fun M K=>K M) (fun p _ ih M K=>T.set bE M p.1 none fun M=>ih M K) l
noncomputable def lkB (ps:List (Nat×Nat)) (j:Nat):Nat:=List.rec 0 (fun p _ ih=>Bool.rec ih p.1 (Nat.beq p.2 j)) ps
noncomputable def WJ (k nx:Nat) (ps:List (Nat×Nat)) (l:List Nat):List (Nat×Nat):=List.rec [] (fun j _ ih=>(j,Bool.rec (Nat.add nx j) (lkB ps j) (Nat.blt j k))::ih) l
def WK (k nx n:Nat) (ps qs:List (Nat×Nat)):Bool:=qs.all fun q=>Nat.blt q.1 n&&((Nat.blt q.1 k&&ps.any fun p=>Nat.beq p.1 q.2&&Nat.beq p.2 q.1)||(Nat.ble k q.1&&Nat.beq q.2 (nx+q.1)))
noncomputable def xT (k:Nat) (sp:co) (vs:List AV) (M:T) (nx:Nat) (K:AV→T→Nat→Bool):Bool:=fP (CQ 0 (oZ M 200 (zS vs) [])) fun ps=>ac (gh ps) (fN ps.length fun n=>ac (It n ps) (cY (iE ps vs) fun us=>sd ps M ps .leaf fun Ml=>sp us Ml n fun v M' n'=>
 fP (WJ k nx ps (oZ M' 200 (Co k (uO v)) [])) fun qs=>ac (gh qs) (ac (WK k nx n' ps qs) (cY (fb qs v) fun v'=>QM ps M fun M1=>sd qs M' qs M1 fun M2=>fN (nx+n') fun n2=>K v' M2 n2))))
noncomputable def Mk (tab:Nat→Option XF) (nat:Nat→List AV→Option ES) (lp:gO) (lf:Nat):Nat→ii:=Nat.rec (fun f vs M nx K=>Option.casesOn (nat f vs) false fun es=>ES.casesOn es fun k sp=>xT k sp vs M nx K) (fun _ ih f vs M nx K=>Option.casesOn (nat f vs) (cY (tab f) fun xf=>XF.casesOn xf fun N res body=>
 ac (Nat.ble (dv vs) N) (yi vs 0 .nil fun S=>df ih lp lf body S M nx fun e S M nx=>aS (Nat.blt 1 e) false (FS res S M fun v=>K v M nx))) fun es=>ES.casesOn es fun k sp=>xT k sp vs M nx K)
noncomputable def cw (k:Nat) (cf:ii) (lp:gO) (lf:Nat) (xf:XF) (vs:List AV) (M:T) (nx:Nat) (K:AV→T→Nat→Bool):Bool:=XF.casesOn xf fun N res body=>ac (Nat.ble (dv vs) N) (yi vs 0 .nil fun S=>df cf lp lf body S M nx fun e S M nx=>aS (Nat.blt 1 e) false (FS res S M fun v=>Mj k v M K))
section
variable {P:Program} {E:Env} {ρ:Ren} {G:GS} {F:List aA} {M:T} {nx:Nat} {w:World} {N:Nat} {S:SL} {a:Act} {ops:Array Oper} {o:Oper} {pk:Nat}
theorem IC:∀{vs:List AV} {xs:List Value} {n:Nat} {S:SL} {K:SL→Bool},aD E ρ vs=some xs→(∀i x,xs[i]?=some x→a.tmps.getD (n+i) undef=x)→SR E ρ N S a→yi vs n S K=true→∃S',SR E ρ N S' a∧K S'=true
 |[],xs,n,S,K,_,_,s,h=>⟨S,s,h⟩
 |v::vs,xs,n,S,K,hd,hx,s,h=>by
  obtain⟨y,ys,h1,h2,rfl⟩:=bg hd
  have h':yi vs (Nat.succ n) (.cons n v S) K=true:=h
  refine IC h2 (fun i x hi=> ?_) ⟨s.size,s.defs,fun t=> ?_⟩ h'
  ·have:=hx (i+1) x (by simpa using hi)
   rw[show n+(i+1)=Nat.succ n+i by omega]at this
   exact this
  ·by_cases e:n=t
   ·subst e
    rw[gL]
    exact .inr ⟨y,h1,hx 0 y rfl⟩
   ·rw[ky _ _ e]
    exact s.at_ t
theorem kn (s:SR E ρ N S a) {t:Nat} {K:AV→Bool} (h:nb (bp t S) K=true):∃x,den E ρ (bp t S)=some x∧a.tmps.getD t undef=x∧K (bp t S)=true:=by
 obtain⟨h1,h2⟩:=RA h
 obtain⟨x,h3,h4⟩:=(s.at_ t).resolve_left h1
 exact⟨x,h3,h4,h2⟩
theorem SH (s:SR E ρ N S a) (h:Sim E ρ G F M nx w) {fn:Func} {r:XRes} {K:AV→Bool} (hc:Im P r fn.results.toList=true) (hk:FS r S M K=true):∃v z,den E ρ v=some z∧K v=true∧(results fn a.tmps).run P w= .ok z w:=by
 unfold Im at hc
 split at hc
 ·rename_i h1
  have hr:=og h1
  exact⟨.tup [],.tuple #[],by simp[den,aD],hk,results_none hr _ _ _⟩
 ·rename_i t t' h1
  have hr:=og h1
  have:=aaF hc
  subst this
  obtain⟨x,g1,g2,g3⟩:=kn s (show nb (bp t S) K=true from hk)
  exact⟨_,x,g1,g3,by rw[results_tmp hr,g2]⟩
 ·rename_i t u t' u' h1
  have hr:=og h1
  obtain⟨c1,c2⟩:=aK hc
  have c1:=aaF c1
  have c2:=aaF c2
  subst c1;subst c2
  obtain⟨x,g1,g2,g3⟩:=kn s (show nb (bp t S) (fun x=>nb (bp u S) fun y=>K (.tup [x,y]))=true from hk)
  obtain⟨y,g4,g5,g6⟩:=kn s (show nb (bp u S) (fun y=>K (.tup [bp t S,y]))=true from g3)
  exact⟨_,.tuple #[x,y],by simp only[den,aD,g1,g4],g6,by rw[results_tmp2 hr,g2,g5]⟩
 ·rename_i t u v t' u' v' h1
  have hr:=og h1
  obtain⟨c1,c3⟩:=aK hc
  obtain⟨c1,c2⟩:=aK c1
  have c1:=aaF c1
  have c2:=aaF c2
  have c3:=aaF c3
  subst c1;subst c2;subst c3
  obtain⟨x,g1,g2,g3⟩:=kn s (show nb (bp t S) (fun x=>nb (bp u S) fun y=>nb (bp v S) fun z=>K (.tup [x,y,z]))=true from hk)
  obtain⟨y,g4,g5,g6⟩:=kn s (show nb (bp u S) (fun y=>nb (bp v S) fun z=>K (.tup [bp t S,y,z]))=true from g3)
  obtain⟨z,g7,g8,g9⟩:=kn s (show nb (bp v S) (fun z=>K (.tup [bp t S,bp u S,z]))=true from g6)
  refine⟨_,.tuple #[x,y,z],by simp only[den,aD,g1,g4,g7],g9,?_⟩
  simp at g2 g5 g8
  simp[results,hr,g2,g5,g8]
 ·rename_i t agg n t' ty h1
  have hr:=og h1
  obtain⟨hc,c3⟩:=aK hc
  obtain⟨c1,c2⟩:=aK hc
  rw[decide_eq_true_eq]at c2 c3
  have c1:=aaF c1
  subst c1
  obtain⟨x,g1,g2,g3⟩:=kn s (show nb (bp t S) (fun p=>Kc agg n p M K)=true from hk)
  have fin:∀{u:AV} {z:Value},den E ρ u=some z→K u=true→(Instr.loadAt ty x).run P w= .ok z w→∃v z,den E ρ v=some z∧K v=true∧(results fn a.tmps).run P w= .ok z w:=by
   intro u z d1 d2 d3
   refine⟨u,z,d1,d2,?_⟩
   have e1:a.tmps[t]?.getD undef=x:=by simpa using g2
   cases x with
   |pointer p=>
    cases p with
    |some ad=>
     simp only[Instr.loadAt,Instr.sureAddr,Sem.run_bind,Sem.run_pure,Result.andThen_ok]at d3
     simp[results,hr,e1,asAddr,d3]
    |none=>simp[Instr.loadAt,Instr.sureAddr]at d3
   |_=>simp[Instr.loadAt,Instr.sureAddr]at d3
  obtain⟨u,z,d1,d2,d3⟩:=Hf (P:=P) h g1 g3 c2 c3
  exact fin d1 d2 d3
 ·rename_i t agg n v0 t' ty u' h1
  have hr:=og h1
  obtain⟨hc,c4⟩:=aK hc
  obtain⟨hc,c3⟩:=aK hc
  obtain⟨c1,c2⟩:=aK hc
  rw[decide_eq_true_eq]at c2 c3
  have c1:=aaF c1
  subst c1
  have c4:=aaF c4
  subst c4
  obtain⟨x,g1,g2,g3⟩:=kn s (show nb (bp t S) (fun p=>Kc agg n p M fun v=>nb (bp v0 S) fun y=>K (.tup [v,y]))=true from hk)
  obtain⟨u,z,d1,d2,d3⟩:=Hf (P:=P) h g1 g3 c2 c3
  obtain⟨y,e1,e2,e3⟩:=kn s d2
  refine⟨_,.tuple #[z,y],by simp only[den,aD,d1,e1],e3,?_⟩
  rw[results_cell_tmp hr,g2,e2]
  cases x with
  |pointer p=>
   cases p with
   |some ad=>
    simp only[Instr.loadAt,Instr.sureAddr,Sem.run_bind,Sem.run_pure,Result.andThen_ok]at d3
    simp[asAddr,d3]
   |none=>simp[Instr.loadAt,Instr.sureAddr]at d3
  |_=>simp[Instr.loadAt,Instr.sureAddr]at d3
 ·cases hc
theorem FT:∀{ps l:List (Nat×Nat)} {M acc:T} {K:T→Bool},sd ps M l acc K=true→∀p∈l,∃o,M.get p.1=some o
 |ps,[],M,acc,K,h,p,hp=>by simp at hp
 |ps,q::l,M,acc,K,h,p,hp=>by
  have h':(cY (M.get q.1) fun o=>cY (fu ps o) fun o'=>T.set bE acc q.2 (some o') fun acc=>sd ps M l acc K)=true:=h
  obtain⟨o,h1,h2⟩:=bm h'
  obtain⟨o',h3,h4⟩:=bm h2
  obtain⟨acc',h5,s1,s2⟩:=T.set_ok _ _ _ _ _ h4
  rcases aaM.1 hp with rfl|hp
  ·exact⟨o,h1⟩
  ·exact FT h5 p hp
theorem DK:∀{ps l:List (Nat×Nat)} {M M1 acc:T} {K:T→Bool},(∀j o,acc.get j=some o→(∃i o0,(i,j)∈ps∧M.get i=some o0∧fu ps o0=some o)∨M1.get j=some o)→(∀p∈l,p∈ps)→sd ps M l acc K=true→
  ∃M',K M'=true∧∀j o,M'.get j=some o→(∃i o0,(i,j)∈ps∧M.get i=some o0∧fu ps o0=some o)∨M1.get j=some o
 |ps,[],M,M1,acc,K,ha,_,h=>⟨acc,h,ha⟩
 |ps,p::l,M,M1,acc,K,ha,hl,h=>by
  have h':(cY (M.get p.1) fun o=>cY (fu ps o) fun o'=>T.set bE acc p.2 (some o') fun acc=>sd ps M l acc K)=true:=h
  obtain⟨o,h1,h2⟩:=bm h'
  obtain⟨o',h3,h4⟩:=bm h2
  obtain⟨acc',h5,s1,s2⟩:=T.set_ok _ _ _ _ _ h4
  refine DK (fun j ob hj=> ?_) (fun q hq=>hl q (by simp[hq])) h5
  by_cases e:j=p.2
  ·subst e
   rw[s1]at hj
   cases hj
   exact .inl ⟨p.1,o,hl p (by simp),h1,h3⟩
  ·rw[s2 j e]at hj
   exact ha j ob hj
theorem Kr:∀{l:List (Nat×Nat)} {M:T} {K:T→Bool},QM l M K=true→∃M',K M'=true∧(∀j o,M'.get j=some o→M.get j=some o∧∀p∈l,p.1≠j)
 |[],M,K,h=>⟨M,h,fun j o hj=>⟨hj,fun p hp=>by simp at hp⟩⟩
 |p::l,M,K,h=>by
  have h':(T.set bE M p.1 none fun M=>QM l M K)=true:=h
  obtain⟨M1,h1,s1,s2⟩:=T.set_ok _ _ _ _ _ h'
  obtain⟨M2,h2,h3⟩:=Kr h1
  refine⟨M2,h2,fun j o hj=> ?_⟩
  obtain⟨q1,q2⟩:=h3 j o hj
  have hne:p.1≠j:=fun e=>by rw[←e,s1]at q1;cases q1
  refine⟨by rw[←s2 j (fun e=>hne e.symm)];exact q1,fun r hr=> ?_⟩
  rcases aaM.1 hr with rfl|hr
  ·exact hne
  ·exact q2 r hr
theorem SQ {k nx n:Nat} {ps qs:List (Nat×Nat)} (h:WK k nx n ps qs=true):∀q∈qs,q.1<n∧((q.1<k∧(q.2,q.1)∈ps)∨(k≤q.1∧q.2=nx+q.1)):=fun q hq=>by
 have:=List.all_eq_true.1 h q hq
 simp only[aaU,Bool.or_eq_true,aa0,Nat.ble_eq]at this
 obtain⟨h1,h2⟩:=this
 refine⟨h1,?_⟩
 rcases h2 with⟨h2,h3⟩|⟨h2,h3⟩
 ·obtain⟨p,q1,q2⟩:=List.any_eq_true.1 h3
  simp only[aaU]at q2
  have e1:=aaF q2.1
  have e2:=aaF q2.2
  have:p=(q.2,q.1):=by cases p;simp_all
  rw[this]at q1
  exact .inl ⟨h2,q1⟩
 ·exact .inr ⟨h2,aaF h3⟩
theorem Uc (h:Sim E ρ G F M nx w) {k:Nat} {v:AV} {x:Value} {K:AV→T→Nat→Bool} (hd:den E ρ v=some x) (hk:Mj k v M K=true):
  ∃v' M' n' ρ',Sim E ρ' G F M' n' w∧den E ρ' v'=some x∧K v' M' n'=true∧∀i e,i<k→ρ i=some e→ρ' i=some e:=by
 unfold Mj at hk
 rw[Fq]at hk
 generalize CQ 0 (oZ M 200 (Co k (uO v)) [])=ps at hk
 obtain⟨h1,hk⟩:=aj hk
 obtain⟨h2,hk⟩:=aj hk
 rw[bO]at hk
 obtain⟨h3,hk⟩:=aj hk
 obtain⟨M',h4,h5⟩:=xH (ps:=ps) (fun j o hj=>by simp[T.get_leaf]at hj) (fun p hp=>hp) hk
 obtain⟨v',h6,h7⟩:=bm h4
 exact⟨v',M',_,jo ps ρ,h.ren h2 (EM h3) h5,lm h2 _ _ _ h6 hd,h7,fun i e q1 q2=>by rw[dA h2 (zE h1 i q1)];exact q2⟩
def bS (P:Program) (f k:Nat) (sp:co):Prop:=∀(us:List AV) (xs:List Value) (E:Env) (ρ:Ren) (G:GS) (F:List aA) (M:T) (nx:Nat) (w:World) (K:AV→T→Nat→Bool) (R:Ending→World→Prop),dG E→Sim E ρ G F M nx w→aD E ρ us=some xs→sp us M nx K=true→
 (∀v M' nx' E' ρ' w' z,K v M' nx'=true→dG E'→MLe E.M E'.M→(∀i e,i<k→ρ i=some e→ρ' i=some e)→Sim E' ρ' G F M' nx' w'→den E' ρ' v=some z→R (.returned z) w')→Calls P f xs.toArray w R
theorem GQ {f k:Nat} {sp:co} (hn:bS P f k sp) {vs:List AV} {xs:List Value} {K:AV→T→Nat→Bool} {R:Ending→World→Prop} (hE:dG E) (h:Sim E ρ G F M nx w) (hd:aD E ρ vs=some xs) (hk:xT k sp vs M nx K=true)
  (hr:∀v M' nx' E' ρ' w' z,K v M' nx'=true→Ext E ρ E' ρ'→Sim E' ρ' G F M' nx' w'→den E' ρ' v=some z→R (.returned z) w'):Calls P f xs.toArray w R:=by
 classical
 unfold xT at hk
 rw[Fq]at hk
 generalize CQ 0 (oZ M 200 (zS vs) [])=ps at hk
 obtain⟨h1,hk⟩:=aj hk
 rw[bO]at hk
 obtain⟨h2,hk⟩:=aj hk
 have h2:=EM h2
 obtain⟨us,h3,hk⟩:=bm hk
 have hall:=FT hk
 obtain⟨Ml,hsp,hMl⟩:=xH (ps:=ps) (fun j o hj=>by simp[T.get_leaf]at hj) (fun p hp=>hp) hk
 obtain⟨c,hh,hob,hinj⟩:=h.ex
 let B:Nat×Obj→Bool:=fun q=>decide (∃p∈ps,∃e o,ρ p.1=some e∧e.b=q.1∧M.get p.1=some o∧bW e o=true)
 have hB:∀q:Nat×Obj,B q=true↔∃p∈ps,∃e o,ρ p.1=some e∧e.b=q.1∧M.get p.1=some o∧bW e o=true:=fun q=>by simp only[B,decide_eq_true_eq]
 have hh1:Holds {G with M:=E.M} w (c.filter B::c.filter (fun q=> !B q)::F):=hh.perm (by
  simp only[aaH,←List.append_assoc]
  exact(List.filter_append_perm B c).append_right _)
 have hs:Sim E (jo ps ρ) G (c.filter (fun q=> !B q)::F) Ml ps.length w:=by
  refine⟨⟨c.filter B,hh1,fun j o hj=> ?_,fun j k e f o o' hj hk he hf hb1 hb2 hb=> ?_⟩,h.mem,fun j hj=> ?_⟩
  ·obtain⟨i,o0,g1,g2,g3⟩:=hMl j o hj
   obtain⟨e,a1,q⟩:=hob i o0 g2
   have hHB:=fH (e:=e) g3
   refine⟨e,by rw[dA h1 g1];exact a1,?_⟩
   rcases q with⟨q1,ob,q2,q3⟩|⟨q1,q2⟩
   ·exact .inl ⟨by rw[hHB.1];exact q1,ob,List.mem_filter.2 ⟨q2,(hB _).2 ⟨(i,j),g1,e,o0,a1,rfl,g2,q1⟩⟩,zB h1 g3 q3⟩
   ·exact .inr ⟨by rw[hHB.1];exact q1,hHB.2 q2⟩
  ·obtain⟨i,o0,g1,g2,g3⟩:=hMl j o hj
   obtain⟨i',o1,f1,f2,f3⟩:=hMl k o' hk
   rw[dA h1 g1]at he
   rw[dA h1 f1]at hf
   rw[(fH (e:=e) g3).1]at hb1
   rw[(fH (e:=f) f3).1]at hb2
   have:=hinj i i' e f o0 o1 g2 f2 he hf hb1 hb2 hb
   subst this
   exact uw h1 g1 f1
  ·unfold jo
   split
   ·rename_i p hp
    have q1:=List.mem_of_find?_eq_some hp
    have q2:=List.find?_some hp
    have:=aaF q2
    have:=h2 p q1
    omega
   ·rfl
 refine hn us xs E (jo ps ρ) G _ Ml _ w _ R hE hs (nq h1 _ _ _ h3 hd) hsp fun v M' n' E' ρ' w' z kv hE' hm hpin hs' hz=> ?_
 rw[Fq]at kv
 generalize WJ k nx ps (oZ M' 200 (Co k (uO v)) [])=qs at kv
 obtain⟨g1,kv⟩:=aj kv
 obtain⟨g2,kv⟩:=aj kv
 have g2:=SQ g2
 obtain⟨v',g3,kv⟩:=bm kv
 obtain⟨M1,kv,hM1⟩:=Kr kv
 obtain⟨M2,kv,hM2⟩:=DK (M1:=M1) (fun j o hj=>.inr hj) (fun p hp=>hp) kv
 rw[bO]at kv
 obtain⟨c',hh',hob',hinj'⟩:=hs'.ex
 let ρo:Ren:=fun i=>if i<nx then ρ i else ρ' (i - nx)
 have lt:∀i e,ρ i=some e→i<nx:=fun i e q=>by
  by_cases q1:i<nx
  ·exact q1
  ·rw[h.fresh i (by omega)]at q;cases q
 have hle:ρ.Le ρo:=fun i e q=>by simp only[ρo,if_pos (lt i e q)];exact q
 have hq:∀j i,(j,i)∈qs→∀e,ρ' j=some e→ρo i=some e:=fun j i hji e he=>by
  obtain⟨q1,⟨q2,q3⟩|⟨q2,q3⟩⟩:=g2 _ hji
  ·obtain⟨o,ho⟩:=hall _ q3
   obtain⟨e0,a1,_⟩:=hob _ _ ho
   have:=hpin j e0 q2 (by rw[dA h1 q3];exact a1)
   rw[this]at he
   cases he
   exact hle _ _ a1
  ·simp only at q2 q3
   have:¬i<nx:=by omega
   simp only[ρo,if_neg this]
   rw[show i - nx=j by omega];exact he
 have hrle:(jo qs ρ').Le ρo:=fun i e q=>by
  unfold jo at q
  split at q
  ·rename_i p hp
   have q1:=List.mem_of_find?_eq_some hp
   have q2:=List.find?_some hp
   have q2:=aaF q2
   subst q2
   exact hq p.1 p.2 q1 e q
  ·cases q
 have hEE:zd ρ E ⟨E.at_,E'.M⟩:=⟨fun _ _ _=>rfl,hm⟩
 refine hr v' M2 (nx+n') ⟨E.at_,E'.M⟩ ρo w' z kv ⟨hEE,hle,hE.1,hE'.2⟩ ⟨⟨c'++c.filter (fun q=> !B q),?_,fun id o hid=> ?_,fun i j e f o o' hi hj he hf hb1 hb2 hb=> ?_⟩,hs'.mem,fun i hi=> ?_⟩ (gj hrle _ _ (lm g1 _ _ _ g3 hz))
 ·exact hh'.perm (by simp)
 ·rcases hM2 id o hid with⟨j,o0,p1,p2,p3⟩|p1
  ·obtain⟨e,a1,q⟩:=hob' j o0 p2
   have hHB:=fH (e:=e) p3
   refine⟨e,hq j id p1 e a1,?_⟩
   rcases q with⟨q1,ob,q2,q3⟩|⟨q1,q2⟩
   ·exact .inl ⟨by rw[hHB.1];exact q1,ob,List.mem_append.2 (.inl q2),(zB (t2:=E.at_) g1 p3 q3).mono hrle⟩
   ·exact .inr ⟨by rw[hHB.1];exact q1,hHB.2 q2⟩
  ·obtain⟨q1,q2⟩:=hM1 id o p1
   obtain⟨e,a1,q⟩:=hob id o q1
   refine⟨e,hle _ _ a1,?_⟩
   rcases q with⟨r1,ob,r2,r3⟩|r
   ·refine .inl ⟨r1,ob,List.mem_append.2 (.inr (List.mem_filter.2 ⟨r2,?_⟩)),(r3.env hEE).mono hle⟩
    have:¬B (e.b,ob)=true:=fun hb=>by
     obtain⟨p,s1,e2,o2,s2,s3,s4,s5⟩:=(hB _).1 hb
     exact q2 p s1 (hinj p.1 id e2 e o2 o s4 q1 s2 a1 s5 r1 s3)
    simpa using this
   ·exact .inr r
 ·have nd:=hh'.nodup
  simp only[aaH,List.map_append]at nd
  have ap:∀b,b∈c'.map (·.1)→b∈(c.filter fun q=> !B q).map (·.1)→False:=fun b b1 b2=>
   (List.nodup_append.1 nd).2.2 b b1 b (List.mem_append.2 (.inl b2)) rfl
  have blkN:∀id o e,(∃j o0,(j,id)∈qs∧M'.get j=some o0∧fu qs o0=some o)→ρo id=some e→bW e o=true→e.b∈c'.map (·.1):=by
   rintro id o e ⟨j,o0,p1,p2,p3⟩ he hb
   obtain⟨e2,a1,q⟩:=hob' j o0 p2
   have:=hq j id p1 e2 a1
   rw[this]at he;cases he
   rcases q with⟨q1,ob,q2,q3⟩|⟨q1,q2⟩
   ·exact List.mem_map.2 ⟨_,q2,rfl⟩
   ·rw[(fH (e:=e) p3).1,q1]at hb;cases hb
  have blkO:∀id o e,M1.get id=some o→ρo id=some e→bW e o=true→e.b∈(c.filter fun q=> !B q).map (·.1):=by
   intro id o e p1 he hb
   obtain⟨q1,q2⟩:=hM1 id o p1
   obtain⟨e2,a1,q⟩:=hob id o q1
   rw[hle _ _ a1]at he;cases he
   rcases q with⟨r1,ob,r2,r3⟩|⟨r1,r2⟩
   ·refine List.mem_map.2 ⟨_,List.mem_filter.2 ⟨r2,?_⟩,rfl⟩
    have:¬B (e.b,ob)=true:=fun hb=>by
     obtain⟨p,s1,e3,o2,s2,s3,s4,s5⟩:=(hB _).1 hb
     exact q2 p s1 (hinj p.1 id e3 e o2 o s4 q1 s2 a1 s5 r1 s3)
    simpa using this
   ·rw[r1]at hb;cases hb
  rcases hM2 i o hi with m1|m1<;>rcases hM2 j o' hj with m2|m2
  ·obtain⟨j1,o1,p1,p2,p3⟩:=m1
   obtain⟨j2,o2,r1,r2,r3⟩:=m2
   obtain⟨e1,a1,_⟩:=hob' j1 o1 p2
   obtain⟨e2,a2,_⟩:=hob' j2 o2 r2
   have x1:=hq _ _ p1 _ a1
   have x2:=hq _ _ r1 _ a2
   rw[x1]at he;cases he
   rw[x2]at hf;cases hf
   rw[(fH (e:=e) p3).1]at hb1
   rw[(fH (e:=f) r3).1]at hb2
   have:=hinj' j1 j2 e f o1 o2 p2 r2 a1 a2 hb1 hb2 hb
   subst this
   exact uw g1 p1 r1
  ·exact(ap _ (blkN i o e m1 he hb1) (by rw[hb];exact blkO j o' f m2 hf hb2)).elim
  ·exact(ap _ (blkN j o' f m2 hf hb2) (by rw[←hb];exact blkO i o e m1 he hb1)).elim
  ·obtain⟨q1,_⟩:=hM1 i o m1
   obtain⟨q2,_⟩:=hM1 j o' m2
   obtain⟨e1,a1,_⟩:=hob i o q1
   obtain⟨e2,a2,_⟩:=hob j o' q2
   rw[hle _ _ a1]at he;cases he
   rw[hle _ _ a2]at hf;cases hf
   exact hinj i j e f o o' q1 q2 a1 a2 hb1 hb2 hb
 ·have:¬i<nx:=by omega
  simp only[ρo,if_neg this]
  exact hs'.fresh _ (by omega)
theorem JC (hm:P.follows .mixedOrders=true) {cf:ii} (hcf:jf P cf) {lp:gO} {lf:Nat} {fl:Bool} {pk:Nat} {f N:Nat} {res:XRes} {body:XC} (hf:ci P f (.mk N res body)=true) (hfl:fl=true→plain body=true) (hkp:fC pk body=true) (hlp:∀b j x,(b,j,x)∈eU body→dR P N pk lp b j x)
  {vs:List AV} {xs:List Value} (hE:dG E) (h:Sim E ρ G F M nx w) (hd:aD E ρ vs=some xs) {K:AV→T→Nat→Bool} {R:Ending→World→Prop}
  (h2:ac (Nat.ble (dv vs) N) (yi vs 0 .nil fun S=>df cf lp lf body S M nx fun e S M nx=>aS (Nat.blt 1 e) false (FS res S M fun v=>K v M nx))=true)
  (hr:∀v M' nx' E' ρ' w' z,K v M' nx'=true→Rel fl pk E ρ E' ρ'→Sim E' ρ' G F M' nx' w'→den E' ρ' v=some z→R (.returned z) w'):Calls P f xs.toArray w R:=by
 unfold ci at hf
 split at hf
 case h_2=>cases hf
 rename_i N' res' body' fn hx hfn
 cases hx
 split at hf
 case h_2=>cases hf
 rename_i c hb
 obtain⟨hf,c3⟩:=aK hf
 obtain⟨c1,c2⟩:=aK hf
 have c1:=aaF c1
 obtain⟨h3,h4⟩:=aj h2
 rw[Nat.ble_eq,cd]at h3
 have hlen:=ch hd
 refine calls_of_wp hfn hb ?_
 have hsz:(xs.toArray++Array.replicate (fn.ntmps - xs.toArray.size) undef).size=N:=by simp;omega
 obtain⟨S,s,h5⟩:=IC (a:={tmps:=xs.toArray++Array.replicate (fn.ntmps - xs.toArray.size) undef,defers:=[]}) (N:=N) hd (fun i x hi=>by
  have hlt:=(List.getElem?_eq_some_iff.1 hi).1
  have hv:=(List.getElem?_eq_some_iff.1 hi).2
  simp only[Nat.zero_add,Array.getD,hsz]
  rw[dif_pos (by omega)]
  simp[Array.getElem_append,hlt,hv]) (SR.nil hsz rfl) h4
 refine Am hm hcf body c hE hfl hkp hlp c3 s h h5 fun e S' M' nx' E' ρ' a' w' k1 k2 k3 k4=> ?_
 rcases aP k1 with⟨_,g1⟩|⟨q,g1⟩
 ·cases g1
 ·obtain⟨v,z,r1,r2,r3⟩:=SH k3 k4 c2 g1
  have hR:=hr v M' nx' E' ρ' w' z r2 k2 k4 r1
  match e,q with
  |0,_=>exact⟨k3.defs,z,r3,hR⟩
  |1,_=>exact⟨k3.defs,z,r3,hR⟩
  |n+2,q=>
   have:Nat.blt 1 (n+2)=true:=by rw[aa0];omega
   rw[this]at q;cases q
theorem Io (hm:P.follows .mixedOrders=true) {tab:Nat→Option XF} {nat:Nat→List AV→Option ES} {lp:gO} {lf:Nat} (htab:∀f xf,tab f=some xf→ci P f xf=true∧plain (jW xf)=true) (hnat:∀f vs k sp,nat f vs=some (.mk k sp)→bS P f k sp):∀d,jf P (Mk tab nat lp lf d)
 |0=>by
  intro f vs M nx K E ρ G F w xs R hE h hd hk hr
  have hk':(Option.casesOn (nat f vs) false fun es=>ES.casesOn es fun k sp=>xT k sp vs M nx K:Bool)=true:=hk
  rcases e:nat f vs with _|⟨k,sp⟩
  ·rw[e]at hk';cases hk'
  ·rw[e]at hk'
   exact GQ (hnat f vs k sp e) hE h hd hk' hr
 |d+1=>by
  intro f vs M nx K E ρ G F w xs R hE h hd hk hr
  have hk':(Option.casesOn (nat f vs) (cY (tab f) fun xf=>XF.casesOn xf fun N res body=>
   ac (Nat.ble (dv vs) N) (yi vs 0 .nil fun S=>df (Mk tab nat lp lf d) lp lf body S M nx fun e S M nx=>aS (Nat.blt 1 e) false (FS res S M fun v=>K v M nx))) fun es=>ES.casesOn es fun k sp=>xT k sp vs M nx K:Bool)=true:=hk
  rcases e:nat f vs with _|⟨k,sp⟩
  ·rw[e]at hk'
   obtain⟨xf,h1,h2⟩:=bm hk'
   obtain⟨hf,hp⟩:=htab f xf h1
   obtain⟨N,res,body⟩:=xf
   have hno:∀{x:XC},plain x=true→eU x=[]:=by
    intro x
    induction x with
    |seq x y ihx ihy=>intro q;obtain⟨q1,q2⟩:=aK (show(plain x&&plain y)=true from q);simp[eU,ihx q1,ihy q2]
    |cond p x y ihx ihy=>intro q;obtain⟨q1,q2⟩:=aK (show(plain x&&plain y)=true from q);simp[eU,ihx q1,ihy q2]
    |block k x ih=>exact fun q=>ih q
    |loop l x ih=>exact fun q=>ih q
    |inv=>intro q;cases q
    |aft=>intro q;cases q
    |pre=>intro q;cases q
    |spc=>intro q;cases q
    |_=>intro _;rfl
   have hk0:∀{x:XC},plain x=true→fC 0 x=true:=by
    intro x
    induction x with
    |seq x y ihx ihy=>intro q;obtain⟨q1,q2⟩:=aK (show(plain x&&plain y)=true from q);simp[fC,ihx q1,ihy q2]
    |cond p x y ihx ihy=>intro q;obtain⟨q1,q2⟩:=aK (show(plain x&&plain y)=true from q);simp[fC,ihx q1,ihy q2]
    |block k x ih=>exact fun q=>ih q
    |loop l x ih=>exact fun q=>ih q
    |inv=>intro q;cases q
    |aft=>intro q;cases q
    |pre=>intro q;cases q
    |spc=>intro q;cases q
    |_=>intro _;rfl
   exact JC (fl:=true) (pk:=0) hm (Io hm htab hnat d) hf (fun _=>hp) (hk0 hp) (fun b j x q=>by rw[hno (x:=body) hp]at q;cases q) hE h hd h2 fun v M' nx' E' ρ' w' z q1 q2=>hr v M' nx' E' ρ' w' z q1 (q2.ext rfl)
  ·rw[e]at hk'
   exact GQ (hnat f vs k sp e) hE h hd hk' hr
theorem Ti (hm:P.follows .mixedOrders=true) {cf:ii} (hcf:jf P cf) {lp:gO} {lf f k:Nat} {xf:XF} {sp:co} (hf:ci P f xf=true) (hkp:fC k (jW xf)=true) (hlp:∀b j x,(b,j,x)∈eU (jW xf)→dR P (Zu xf) k lp b j x) (hrun:∀us M nx K,sp us M nx K=true→cw k cf lp lf xf us M nx K=true):bS P f k sp:=by
 intro us xs E ρ G F M nx w K R hE hs hd hk hr
 obtain⟨N,res,body⟩:=xf
 refine JC (fl:=false) (pk:=k) (K:=fun v M _=>Mj k v M K) (G:=G) hm hcf hf (fun q=>by cases q) hkp hlp hE hs hd (hrun us M nx K hk) fun v M' nx' E' ρ' w' z q1 q2 q3 q4=> ?_
 obtain⟨v2,M2,n2,ρ2,f1,f2,f3,f4⟩:=Uc q3 q4 q1
 exact hr v2 M2 n2 E' ρ2 w' z f3 q2.one q2.mem (fun i e i1 i2=>f4 i e i1 (q2.pin i e i1 i2)) f1 f2
theorem gm (hm:P.follows .mixedOrders=true) {cf:ii} (hcf:jf P cf) {lp:gO} {lf j:Nat} {x:XC} (hkp:fC pk x=true) {α:Type _} (I:α→SL×T×Nat) (μ:α→Nat) (spec:α→KC→Bool) (hlp:∀b j' x',(b,j',x')∈eU x→dR P N pk lp b j' x')
  (hj:∀S M nx K,lp j S M nx K=true→∃p,(S,M,nx)=I p∧spec p K=true)
  (hbody:∀p K,spec p K=true→df cf lp lf x (I p).1 (I p).2.1 (I p).2.2 (fun e S M nx=>Nat.casesOn e (aN fun p'=>ac (aC ((S,M,nx)=I p'∧μ p'<μ p)) (spec p' K)) (fun e'=>K (Nat.succ e') S M nx))=true):dR P N pk lp true j x:=by
 intro c S M nx E ρ G F a w K Q hE hc s h hk hq
 obtain⟨p,hp,hs⟩:=hj S M nx K hk
 have key:∀(n:Nat) (p:α),μ p<n→∀{S:SL} {M:T} {nx:Nat} {E:Env} {ρ:Ren} {a:Act} {w:World},(S,M,nx)=I p→spec p K=true→dG E→SR E ρ N S a→Sim E ρ G F M nx w→
   (∀e S' M' nx' E' ρ' a' w',K e S' M' nx'=true→Rel false pk E ρ E' ρ'→SR E' ρ' N S' a'→Sim E' ρ' G F M' nx' w'→Q (Df e) a' w')→Code.rounds P c Q n a w:=by
  intro n
  induction n with
  |zero=>intro p hn;omega
  |succ n ih=>
   intro p hn S M nx E ρ a w hI hs hE s h hq
   have hb:=hbody p K hs
   rw[←hI]at hb
   refine Am (fl:=false) hm hcf x c hE (fun q=>by cases q) hkp hlp hc s h hb fun e S' M' nx' E' ρ' a' w' k1 k2 k3 k4=> ?_
   match e,k1 with
   |0,k1=>
    obtain⟨p',k5⟩:=bR k1
    obtain⟨⟨k6,k7⟩,k8⟩:=aa k5
    exact ih p' (by omega) k6 k8 k2.one k3 k4 fun e S2 M2 nx2 E2 ρ2 a2 w2 j1 j2=>hq e _ _ _ _ _ _ _ j1 (k2.trans j2)
   |1,k1=>exact hq 1 _ _ _ _ _ _ _ k1 k2 k3 k4
   |m+2,k1=>exact hq (m+2) _ _ _ _ _ _ _ k1 k2 k3 k4
 exact wp_loop_rounds (μ p+1) (key (μ p+1) p (Nat.lt_succ_self _) hp hs hE s h hq)
theorem Ld (hm:P.follows .mixedOrders=true) {cf:ii} (hcf:jf P cf) {lp:gO} {lf j:Nat} {x:XC} (hkp:fC pk x=true) (hlp:∀b j' x',(b,j',x')∈eU x→dR P N pk lp b j' x') (hrun:∀S M nx K,lp j S M nx K=true→df cf lp lf x S M nx K=true):dR P N pk lp false j x:=by
 intro c S M nx E ρ G F a w K Q hE hc s h hk hq
 exact Am (fl:=false) hm hcf x c hE (fun q=>by cases q) hkp hlp hc s h (hrun S M nx K hk) hq
end
noncomputable def shp (v:AV):Nat:=AV.casesOn v 0 (fun _ _=>1) (fun _=>2) (fun _=>3) (fun _ _=>4) (fun _ _ _ _=>5) (fun _=>6) 7 8 9 10 11 (fun _ _=>12) (fun _ _=>13) (fun _=>14) (fun _=>15) (fun _=>16) (fun _=>17) (fun s=>SY.casesOn s (fun _ _=>20) (fun _=>21) (fun _=>22) (fun _ _ _ _ _=>23) (fun _ _ _=>24) (fun _ _=>25) (fun _ _ _ _=>26) (fun _ _ _ _=>27) (fun _ _ _=>28) (fun _=>29))
noncomputable def aab (vs:List AV) (n:Nat):Nat:=Option.casesOn (ez vs n) 0 shp
noncomputable def aar (vs:List AV) (l:List (Nat×Nat)):Bool:=List.rec true (fun p _ ih=>Bool.rec false ih (Nat.beq (aab vs p.1) p.2)) l
noncomputable def Ma (f g:Nat) (vs:List AV) (l:List (Nat×Nat)):Bool:=Bool.rec false (aar vs l) (Nat.beq f g)
theorem Qc {P:Program} {f g k k0:Nat} {vs:List AV} {sp sp0:co} {rest:Option ES} {l:List (Nat×Nat)} (h0:bS P g k0 sp0) (hr:rest=some (.mk k sp)→bS P f k sp) (h:(Bool.rec rest (some (ES.mk k0 sp0)) (Ma f g vs l):Option ES)=some (.mk k sp)):bS P f k sp:=by
 cases hb:Ma f g vs l with
 |false=>rw[hb]at h;exact hr h
 |true=>
  rw[hb]at h
  cases h
  unfold Ma at hb
  cases he:Nat.beq f g with
  |false=>rw[he]at hb;cases hb
  |true=>rw[aaF he];exact h0
theorem cG {P:Program} {N k:Nat} {lp:gO} {b b0:Bool} {j j0:Nat} {x x0:XC} {l:List (Bool×Nat×XC)} (h0:dR P N k lp b0 j0 x0) (hr:(b,j,x)∈l→dR P N k lp b j x) (h:(b,j,x)∈(b0,j0,x0)::l):dR P N k lp b j x:=by
 rcases aaM.1 h with e|h
 ·injection e with e1 e2
  injection e2 with e3 e4
  subst e1;subst e3;subst e4
  exact h0
 ·exact hr h
theorem aq {p:Prop} {x y:Bool} (hp:p) (h:aS (aC p) x y=true):x=true:=by
 rcases je h with⟨_,h⟩|⟨q,_⟩
 ·exact h
 ·exact absurd hp q
def dX (x:UInt8):List PL:=[.sint 1 (x.toNat:Int)]
def aG (s:List UInt8):List PL:=[.sstr s]
def Cg (T b:Nat) (l:List UInt8) (c:aA):Prop:=∃p ao cap cr,(p= .pointer none∨p= .pointer (some ⟨b,0,none⟩))∧Row 5 1 ao l.length cap (l.map u8) cr∧c=(b,.cells #[p,.slice ao l.length cap] T (0,0))::cr
def BuildS (T b:Nat) (l:List UInt8) (c:aA):Prop:=∃p ao cap cr,p= .pointer (some ⟨b,0,none⟩)∧Row 5 1 ao l.length cap (l.map u8) cr∧c=(b,.cells #[p,.slice ao l.length cap] T (0,0))::cr
theorem BuildS.d {T b:Nat} {l:List UInt8} {c:aA}:BuildS T b l c→Cg T b l c:=fun⟨p,ao,cap,cr,h1,h2⟩=>⟨p,ao,cap,cr,.inr h1,h2⟩
end Go.Sy
namespace Go.Eng
open Go Go.RowKit
section
variable {G:GS} {w:World} {F:List aA} {c:aA}
theorem Holds.pick1 {x:Nat×Obj} (h:Holds G w (c::F)) (hm:x∈c):Holds G w ([x]::F):=by
 obtain⟨s,t,rfl⟩:=List.append_of_mem hm
 have h2:Holds G w ((s++t)::[x]::F):=h.perm (by
  simp only[aaH]
  have p1:(s++x::t).Perm (x::(s++t)):=List.perm_middle
  exact(List.perm_append_comm_assoc (s++t) [x] F.flatten).trans (p1.append_right F.flatten).symm)
 exact h2.drop
theorem Holds.pick2 {x y:Nat×Obj} (h:Holds G w (c::F)) (hx:x∈c) (hy:y∈c) (hne:x.1≠y.1):Holds G w ((x::[y])::F):=by
 obtain⟨s,t,rfl⟩:=List.append_of_mem hx
 have hy2:y∈s++t:=by
  rcases List.mem_append.1 hy with q|q
  ·exact List.mem_append.2 (.inl q)
  ·rcases aaM.1 q with rfl|q
   ·exact absurd rfl hne
   ·exact List.mem_append.2 (.inr q)
 obtain⟨s2,t2,e⟩:=List.append_of_mem hy2
 have h2:Holds G w ((s2++t2)::(x::[y])::F):=h.perm (by
  simp only[aaH]
  have p1:(s++x::t).Perm (x::(s++t)):=List.perm_middle
  rw[e]at p1
  have p2:(s2++y::t2).Perm (y::(s2++t2)):=List.perm_middle
  have p3:(s++x::t).Perm ((x::[y])++(s2++t2)):=p1.trans (p2.cons x)
  have p4:((s++x::t)++F.flatten).Perm (((x::[y])++(s2++t2))++F.flatten):=p3.append_right _
  exact(List.perm_append_comm_assoc (s2++t2) (x::[y]) F.flatten).trans p4.symm)
 exact h2.drop
end
end Go.Eng
namespace Go.Sy
open Go Go.RowKit Go.Eng
section
variable {P:Program} {E:Env} {ρ:Ren} {G:GS} {F:List aA} {M:T} {nx:Nat} {w:World}
theorem Holds.withM {G G':GS} {m:kN} (hG:GS.Le {G with M:=m} G') {H:List aA} (hh:Holds G' w H):Holds {G with M:=G'.M} w H:=⟨hh.os.trans hG.os,hh.tape.trans hG.tape,hh.output.trans hG.output,hh.mem,hh.own,hh.nodup,hh.apart⟩
theorem Sim.bare {G':GS} {w':World} (hs:Sim E ρ G F M nx w) (hG:GS.Le {G with M:=E.M} G') (hh:Holds G' w' F):Sim ⟨E.at_,G'.M⟩ (fun _=>none) G F .leaf 0 w':=
 ⟨⟨[],(Holds.withM hG hh).nil,fun i o h=>by simp[T.get_leaf]at h,fun i j e f o o' h=>by simp[T.get_leaf]at h⟩,MLe.trans hs.mem (fun b o h=>hG.mem b o h),fun _ _=>rfl⟩
abbrev MG (k:Nat) (E:Env) (ρ:Ren) (G:GS) (F:List aA) (K:AV→T→Nat→Bool) (R:Ending→World→Prop):Prop:=
 ∀v M' nx' E' ρ' w' z,K v M' nx'=true→dG E'→MLe E.M E'.M→(∀i e,i<k→ρ i=some e→ρ' i=some e)→Sim E' ρ' G F M' nx' w'→den E' ρ' v=some z→R (.returned z) w'
theorem BQ {f:Nat} {xs:Array Value} {s:List UInt8} {K:AV→T→Nat→Bool} {R:Ending→World→Prop} (hE:dG E) (hs:Sim E ρ G F M nx w) (hc:Calls P f xs w (Ret {G with M:=E.M} F fun _ v=>v=S s)) (hk:K (.sy (.str s)) .leaf 0=true) (hr:MG 0 E ρ G F K R):Calls P f xs w R:=by
 refine hc.mono fun e w' ⟨v,G',he,hG,hh,hv⟩=> ?_
 subst he;subst hv
 exact hr _ _ _ ⟨E.at_,G'.M⟩ (fun _=>none) w' _ hk ⟨hE.1,Tied.mono (fun b o h=>hG.mem b o h) hE.2⟩ (fun b o h=>hG.mem b o h) (fun i e h=>absurd h (Nat.not_lt_zero i)) (hs.bare hG hh) rfl
theorem ye {f:Nat} {xs:Array Value} {s:List UInt8} {K:AV→T→Nat→Bool} {R:Ending→World→Prop} (hE:dG E) (hs:Sim E ρ G F M nx w) (hc:Calls P f xs w fun e w'=>e= .returned (S s)∧Below w.heap.size w w') (hk:K (.sy (.str s)) .leaf 0=true) (hr:MG 0 E ρ G F K R):Calls P f xs w R:=by
 obtain⟨c,hh,_,_⟩:=hs.ex
 exact BQ hE hs (hc.mono fun e w' ⟨he,hb⟩=>⟨_,_,he,GS.Le.refl _,hh.drop.ext hb,rfl⟩) hk hr
noncomputable def zA (k:Nat) (v:AV) (K:Int→Bool):Bool:=match v with
 |.int j z=>ac (Nat.beq j k) (K z)
 |.sy (.int j z)=>ac (Nat.beq j k) (K z)
 |_=>false
theorem Rj {k:Nat} {v:AV} {K:Int→Bool} (h:zA k v K=true):∃z,(∀x,den E ρ v=some x→x= .int (aw k) z)∧K z=true:=by
 unfold zA at h
 split at h
 ·obtain⟨h1,h2⟩:=aj h
  have:=aaF h1
  subst this
  exact⟨_,fun x hx=>by simpa[den] using hx.symm,h2⟩
 ·obtain⟨h1,h2⟩:=aj h
  have:=aaF h1
  subst this
  exact⟨_,fun x hx=>by simpa[den,bc] using hx.symm,h2⟩
 ·cases h
noncomputable def Lf (k:Nat) (g:Int→List UInt8):co:=fun us _ _ K=>match us with
 |[v]=>zA k v fun z=>ac (aC (bb k z)) (K (.sy (.str (g z))) .leaf 0)
 |_=>false
noncomputable def Cu (k b:Nat) (g:Int→List UInt8):co:=fun us _ _ K=>match us with
 |[v,.int 0 (.ofNat n)]=>ac (Nat.beq n b) (zA k v fun z=>ac (aC (bb k z)) (K (.sy (.str (g z))) .leaf 0))
 |_=>false
theorem Tj {f k:Nat} {g:Int→List UInt8} (hI:∀(z:Int) (G:GS) (w:World) (F:List aA),bb k z→Tied G.M→Holds G w F→Calls P f #[.int (aw k) z] w (Ret G F fun _ v=>v=S (g z))):bS P f 0 (Lf k g):=by
 intro us xs E ρ G F M nx w K R hE hs hd hk hr
 unfold Lf at hk
 split at hk
 case h_2=>cases hk
 rename_i v
 obtain⟨x,ys,h1,h2,rfl⟩:=bg hd
 obtain rfl:ys=[]:=by simpa[aD] using h2.symm
 obtain⟨z,hz,hk⟩:=Rj (E:=E) (ρ:=ρ) hk
 obtain⟨hi,hk⟩:=aa hk
 obtain rfl:=hz x h1
 obtain⟨c,hh,_,_⟩:=hs.ex
 exact BQ hE hs (hI z {G with M:=E.M} w F hi hE.2 hh.drop) hk hr
theorem JT {f k b:Nat} {g:Int→List UInt8} (hI:∀(z:Int) (G:GS) (w:World) (F:List aA),bb k z→Tied G.M→Holds G w F→Calls P f #[.int (aw k) z,.int .i64 (b:Int)] w (Ret G F fun _ v=>v=S (g z))):bS P f 0 (Cu k b g):=by
 intro us xs E ρ G F M nx w K R hE hs hd hk hr
 unfold Cu at hk
 split at hk
 case h_2=>cases hk
 rename_i v n
 obtain⟨hb,hk1⟩:=aj hk
 have hb:=aaF hb
 subst hb
 obtain⟨x,ys,h1,h2,rfl⟩:=bg hd
 obtain⟨x2,ys2,h3,h4,rfl⟩:=bg h2
 obtain rfl:ys2=[]:=by simpa[aD] using h4.symm
 obtain rfl:x2= .int .i64 (n:Int):=by simpa[den,aw] using h3.symm
 obtain⟨z,hz,hk2⟩:=Rj (E:=E) (ρ:=ρ) hk1
 obtain⟨hi,hk⟩:=aa hk2
 obtain rfl:=hz x h1
 obtain⟨c,hh,_,_⟩:=hs.ex
 exact BQ hE hs (hI z {G with M:=E.M} w F hi hE.2 hh.drop) hk hr
noncomputable def Ik (fuel:Nat):Nat→List Nat→List Nat:=Nat.rec (fun _ acc=>acc) (fun _ ih n acc=>Bool.rec (ih (Nat.div n 10) (Nat.add 48 (Nat.mod n 10)::acc)) (Nat.add 48 n::acc) (Nat.blt n 10)) fuel
theorem Ku:∀(fuel n:Nat) (acc:List Nat),n<10 ^ fuel→0<fuel→(Ik fuel n acc).map aaY=Lib.decDigits n++acc.map aaY
 |0,n,acc,h,h0=>by omega
 |fuel+1,n,acc,h,_=>by
  have e:Ik (fuel+1) n acc=Bool.rec (Ik fuel (n / 10) ((48+n % 10)::acc)) ((48+n)::acc) (Nat.blt n 10):=rfl
  cases hb:Nat.blt n 10 with
  |true=>
   have h9:=hb
   rw[aa0]at h9
   rw[e,hb,Lib.decDigits_one h9]
   rfl
  |false=>
   have hn:¬n<10:=fun q=>by rw[←aa0]at q;rw[q]at hb;cases hb
   rw[e,hb]
   show(Ik fuel (n / 10) ((48+n % 10)::acc)).map aaY=_
   rcases Nat.eq_zero_or_pos fuel with rfl|hf
   ·simp at h;omega
   ·rw[Ku fuel (n / 10) _ (by rw[Nat.pow_succ]at h;omega) hf]
    conv=>rhs;rw[Lib.decDigits,dif_neg hn]
    simp
noncomputable def Ct (k m:Nat) (tl:List AV→Bool):co:=fun us _ _ K=>match us with
 |.int j (.ofNat n)::r=>ac (Nat.beq j k) (ac (tl r) (ac (aC (bb k (n:Int))) (ac (Nat.blt n m) (K (.str (Ik 20 n [])) .leaf 0))))
 |_=>false
noncomputable def Jw (r:List AV):Bool:=match r with|[]=>true|_=>false
theorem Qu (n:Nat):Lib.itoa (n:Int)=Lib.decDigits n:=by
 unfold Lib.itoa
 rw[if_neg (by omega)]
 simp
theorem Zp {f:Nat} {xs:Array Value} {s:List Nat} {K:AV→T→Nat→Bool} {R:Ending→World→Prop} (hE:dG E) (hs:Sim E ρ G F M nx w) (hc:Calls P f xs w (Ret {G with M:=E.M} F fun _ v=>v=S (s.map aaY))) (hk:K (.str s) .leaf 0=true) (hr:MG 0 E ρ G F K R):Calls P f xs w R:=by
 refine hc.mono fun e w' ⟨v,G',he,hG,hh,hv⟩=> ?_
 subst he;subst hv
 exact hr _ _ _ ⟨E.at_,G'.M⟩ (fun _=>none) w' _ hk ⟨hE.1,Tied.mono (fun b o h=>hG.mem b o h) hE.2⟩ (fun b o h=>hG.mem b o h) (fun i e h=>absurd h (Nat.not_lt_zero i)) (hs.bare hG hh) rfl
theorem JS {f k m:Nat} (hm:m≤100000000000000000000) {tl:List AV→Bool} {ts:List Value} (ht:∀(E:Env) (ρ:Ren) (r:List AV) (xs:List Value),tl r=true→aD E ρ r=some xs→xs=ts) (hI:∀(n:Nat) (G:GS) (w:World) (F:List aA),n<m→bb k (n:Int)→Tied G.M→Holds G w F→Calls P f (Value.int (aw k) (n:Int)::ts).toArray w (Ret G F fun _ v=>v=S (Lib.decDigits n))):bS P f 0 (Ct k m tl):=by
 intro us xs E ρ G F M nx w K R hE hs hd hk hr
 unfold Ct at hk
 split at hk
 case h_2=>cases hk
 rename_i j n r
 obtain⟨q1,hk1⟩:=aj hk
 obtain⟨q2,hk2⟩:=aj hk1
 obtain⟨q3,hk3⟩:=aa hk2
 obtain⟨q4,hk4⟩:=aj hk3
 have q1:=aaF q1
 subst q1
 rw[aa0]at q4
 obtain⟨x,ys,h1,h2,rfl⟩:=bg hd
 obtain rfl:=ht E ρ r ys q2 h2
 obtain rfl:x= .int (aw j) (n:Int):=by simpa[den] using h1.symm
 obtain⟨c,hh,_,_⟩:=hs.ex
 have:=hI n {G with M:=E.M} w F q4 q3 hE.2 hh.drop
 have e:=Ku 20 n [] (Nat.lt_of_lt_of_le q4 (Nat.le_trans hm (by decide))) (by omega)
 rw[List.map_nil,List.append_nil]at e
 rw[←e]at this
 exact Zp hE hs this hk4 hr
theorem Nd (E:Env) (ρ:Ren) (r:List AV) (xs:List Value) (h:Jw r=true) (hd:aD E ρ r=some xs):xs=[]:=by
 unfold Jw at h
 split at h
 ·simpa[aD] using hd.symm
 ·cases h
noncomputable def sA (v:AV) (K:List UInt8→Bool):Bool:=match v with
 |.str l=>K (l.map aaY)
 |.sy (.str l)=>K l
 |_=>false
theorem tS {v:AV} {K:List UInt8→Bool} (h:sA v K=true):∃s,den E ρ v=some (S s)∧K s=true:=by
 unfold sA at h
 split at h
 ·exact⟨_,by simp[den],h⟩
 ·exact⟨_,by simp[den,bc],h⟩
 ·cases h
noncomputable def Ul (l:List (List AV)):(List (List UInt8)→Bool)→Bool:=List.rec (fun K=>K []) (fun e _ ih K=>match e with
 |[v]=>sA v fun s=>ih fun ws=>K (s::ws)
 |_=>false) l
theorem MH:∀{l:List (List AV)} {K:List (List UInt8)→Bool},Ul l K=true→∃ws vs,l=vs.map (fun v=>[v])∧aD E ρ vs=some (ws.map S)∧K ws=true
 |[],K,h=>⟨[],[],rfl,rfl,h⟩
 |e::l,K,h=>by
  have h':(match (generalizing:=false) e with
   |[v]=>sA v fun s=>Ul l fun ws=>K (s::ws)
   |_=>false)=true:=h
  split at h'
  ·obtain⟨s,h1,h2⟩:=tS (E:=E) (ρ:=ρ) h'
   obtain⟨ws,vs,e1,e2,e3⟩:=MH h2
   exact⟨s::ws,_::vs,by simp[e1],bu h1 e2,e3⟩
  ·cases h'
noncomputable def Yy (g:Bool) (n:Nat) (c:ACap):Bool:=match c with
 |.ex m=>Nat.ble n m
 |.rest 0=>g
 |_=>false
noncomputable def Fj (ws:List (List UInt8)) (sep:List UInt8) (K:AV→T→Nat→Bool):Bool:=ac (aC ((Lib.join ws sep).length≤140737488355328)) (ac (aC (ws.length≤140737488355328)) (K (.sy (.str (Lib.join ws sep))) .leaf 0))
noncomputable def AP:co:=fun us M _ K=>match us with
 |[a,s]=>sA s fun sep=>(match a with
  |.nilS=>Fj [] sep K
  |.sl 0 0 n c=>(match M.get 0 with
   |some (.blk g _ 1 els)=>ac (Nat.ble n (dv els)) (ac (Yy g n c) (Ul (els.take n) fun ws=>Fj ws sep K))
   |_=>false)
  |.sy (.prow 0 n)=>(match M.get 0 with
   |some (.prow _ 1 _ l enc)=>aN fun ws:List (List UInt8)=>ac (aC (l.map enc=ws.map aG)) (ac (aC (n=ws.length)) (Fj ws sep K))
   |_=>false)
  |.sy (.imm _ 1 _ l enc)=>aN fun ws:List (List UInt8)=>ac (aC (l.map enc=ws.map aG)) (Fj ws sep K)
  |_=>false)
 |_=>false
theorem HU {α:Type} {l:List α} {enc:α→List PL} {ws:List (List UInt8)} (h:l.map enc=ws.map aG):l.flatMap enc=ws.map PL.sstr:=by
 rw[List.flatMap_def,h]
 clear h
 induction ws with
 |nil=>rfl
 |cons a r ih=>
  show PL.sstr a::(List.map aG r).flatten=PL.sstr a::List.map PL.sstr r
  rw[ih]
theorem wT {α:Type} {l:List α} {enc:α→List PL} {ws:List UInt8} (h:l.map enc=ws.map dX):l.flatMap enc=ws.map fun x=>PL.sint 1 (x.toNat:Int):=by
 rw[List.flatMap_def,h]
 clear h
 induction ws with
 |nil=>rfl
 |cons a r ih=>
  show PL.sint 1 (a.toNat:Int)::(List.map dX r).flatten=PL.sint 1 (a.toNat:Int)::List.map (fun x=>PL.sint 1 (x.toNat:Int)) r
  rw[ih]
theorem Jy {α:Type} {l:List α} {m j:Nat} {y:α} (h:(l.take m)[j]?=some y):l[j]?=some y:=by
 rw[List.getElem?_take]at h
 split at h
 ·exact h
 ·cases h
theorem NJ {f:Nat} (hJ:∀(bk o c:Nat) (ws:List (List UInt8)) (sep:List UInt8) (w:World),(∀(j:Nat) x,ws[j]?=some x→w.cell? ⟨bk,o+j,none⟩=some (S x))→bk<w.heap.size→ws.length≤140737488355328→ws.length≤c→(Lib.join ws sep).length≤140737488355328→
   Calls P f #[.slice (some ⟨bk,o,none⟩) ws.length c,S sep] w fun e w'=>e= .returned (S (Lib.join ws sep))∧Below w.heap.size w w')
  (hN:∀(a:Option Addr) (c:Nat) (sep:List UInt8) (w:World),Calls P f #[.slice a 0 c,S sep] w fun e w'=>e= .returned (S (Lib.join [] sep))∧Below w.heap.size w w'):bS P f 0 AP:=by
 intro us xs E ρ G F M nx w K R hE hs hd hk hr
 unfold AP at hk
 split at hk
 case h_2=>cases hk
 rename_i a s
 obtain⟨xa,ys,d1,d2,rfl⟩:=bg hd
 obtain⟨xs',ys2,d3,d4,rfl⟩:=bg d2
 obtain rfl:ys2=[]:=by simpa[aD] using d4.symm
 obtain⟨sep,e1,hk1⟩:=tS (E:=E) (ρ:=ρ) hk
 clear hk
 have hk:=hk1
 clear hk1
 obtain rfl:xs'=S sep:=aaZ (d3.symm.trans e1)
 split at hk
 ·obtain rfl:xa= .slice none 0 0:=by simpa[den] using d1.symm
  obtain⟨l1,hk⟩:=aa hk
  obtain⟨l2,hk⟩:=aa hk
  exact ye hE hs (hN none 0 sep w) hk hr
 ·rename_i n c
  split at hk
  case h_2=>cases hk
  rename_i g T els hM
  obtain⟨hn,hk⟩:=aj hk
  obtain⟨hc,hk⟩:=aj hk
  obtain⟨ws,vs,e2,e3,hk⟩:=MH (E:=E) (ρ:=ρ) hk
  obtain⟨l1,hk⟩:=aa hk
  obtain⟨l2,hk⟩:=aa hk
  rw[cd,Nat.ble_eq]at hn
  obtain⟨e,ob,r0,hheap,_,_,arr,xs0,rfl,hdd,hR⟩:=hs.obj hM (fun _=>rfl)
  obtain rfl:xa= .slice (some ⟨e.b,0,none⟩) n (cT e c):=by simpa[den,r0] using d1.symm
  have hlv:vs.length=n:=by
   have:=congrArg List.length e2
   simpa[hn] using this.symm
  have hlw:ws.length=n:=by
   have:=ch e3
   simpa[hlv] using this
  have hsp:els.flatten=vs++(els.drop n).flatten:=by
   conv=>lhs;rw[←List.take_append_drop n els,List.flatten_append,e2]
   congr 1
   clear e2 e3 hlv
   induction vs with
   |nil=>rfl
   |cons v r ih=>simpa using ih
  rw[hsp]at hdd
  obtain⟨xs1,xs2,f1,f2,rfl⟩:=dS hdd
  obtain rfl:xs1=ws.map S:=aaZ (f1.symm.trans e3)
  have hcell:∀(j:Nat) x,ws[j]?=some x→arr.toList[j]?=some (S x):=by
   intro j x hx
   have hj:(ws.map S++xs2)[j]?=some (S x):=by
    rw[List.getElem?_append_left (by rw[aaE];exact(List.getElem?_eq_some_iff.1 hx).1)]
    simp[hx]
   cases g with
   |false=>exact(show arr.toList=_ from hR)▸hj
   |true=>
    obtain⟨_,q,_⟩:=(show arr.size=e.cap*1∧arr.toList.take (els.length*1)=ws.map S++xs2∧els.length≤e.cap∧e.cap≤maxLen from hR)
    rw[←q]at hj
    exact Jy hj
  have hcap:n≤cT e c:=by
   unfold Yy at hc
   split at hc
   ·exact Nat.le_of_ble_eq_true hc
   ·subst hc
    obtain⟨_,_,q,_⟩:=(show arr.size=e.cap*1∧arr.toList.take (els.length*1)=ws.map S++xs2∧els.length≤e.cap∧e.cap≤maxLen from hR)
    show n≤e.cap - 0
    omega
   ·cases hc
  have:=hJ e.b 0 (cT e c) ws sep w (fun j x hx=>by
   have:=hcell j x hx
   simp only[World.cell?,hheap,Nat.zero_add]
   simpa using this) (bo hheap) l2 (by omega) l1
  rw[hlw]at this
  exact ye hE hs this hk hr
 ·rename_i n
  split at hk
  case h_2=>cases hk
  rename_i T α l enc hM
  obtain⟨ws,hk2⟩:=bR hk
  obtain⟨e2,hk3⟩:=aa hk2
  obtain⟨en,hk4⟩:=aa hk3
  obtain⟨l1,hk5⟩:=aa hk4
  obtain⟨l2,hk6⟩:=aa hk5
  clear hk hk2 hk3 hk4 hk5
  subst en
  have hll:l.length=ws.length:=by simpa using congrArg List.length e2
  obtain⟨e,r0,⟨hB,ob,hheap,arr,xs0,rfl,_,_,hdd,hsz,htk,hle,hmx⟩|⟨hB,hnil,_⟩⟩:=hs.objP hM
  ·obtain⟨cc,hcc⟩:∃cc,e.cap=cc+1:=by
    rcases h0:e.cap with _|cc
    ·simp[bW,h0]at hB
    ·exact⟨cc,rfl⟩
   obtain rfl:xa= .slice (some ⟨e.b,0,none⟩) ws.length cc:=by simpa[den,bc,r0,kQ,hcc] using d1.symm
   rw[HU e2]at hdd
   obtain⟨_,rfl⟩:=pu hdd
   have:=hJ e.b 0 cc ws sep w (fun j x hx=>by
    have hj:((ws.map PL.sstr).map bQ)[j]?=some (S x):=by simp[hx,bQ]
    rw[←htk]at hj
    have:=Jy hj
    simp only[World.cell?,hheap,Nat.zero_add]
    simpa using this) (bo hheap) l2 (by omega) l1
   exact ye hE hs this hk6 hr
  ·have hc0:e.cap=0:=by simpa[bW] using hB
   subst hnil
   obtain rfl:ws=[]:=by simpa using e2.symm
   obtain rfl:xa= .slice none 0 0:=by simpa[den,bc,r0,kQ,hc0] using d1.symm
   exact ye hE hs (hN none 0 sep w) hk6 hr
 ·rename_i h α l enc
  obtain⟨ws,hk⟩:=bR hk
  obtain⟨e2,hk⟩:=aa hk
  obtain⟨l1,hk⟩:=aa hk
  obtain⟨l2,hk⟩:=aa hk
  have hll:l.length=ws.length:=by simpa using congrArg List.length e2
  obtain⟨ok,rfl⟩:=fK (show gp E (.imm h 1 α l enc)=some xa by simpa[den,bc] using d1)
  cases ok with
  |imm ao cap hh h1 h2 h3 ha hl ho hr2=>
   subst hh
   show Calls P f #[.slice ao l.length cap,S sep] w R
   rcases Nat.eq_zero_or_pos l.length with h0|h0
   ·obtain rfl:ws=[]:=aaX (by omega)
    rw[h0]
    exact ye hE hs (hN ao cap sep w) hk hr
   ·have hc:∀(j:Nat) x,ws[j]?=some x→w.cell? ⟨blk ao,oz ao+j,none⟩=some (S x):=by
     intro j x hx
     have e3:(l.map enc)[j]?=some (aG x):=by rw[e2];simp[hx]
     rw[List.getElem?_map,aaL]at e3
     obtain⟨y,hy,e4⟩:=e3
     have:=hr2 j y hy 0 (S x) (by rw[e4];rfl)
     simp only[Nat.mul_one,Nat.add_zero]at this
     exact hs.cellM this
    have hb:blk ao<w.heap.size:=by
     obtain⟨x,hx⟩:∃x,ws[0]?=some x:=⟨ws[0]'(by omega),by simp⟩
     have:=hc 0 x hx
     unfold World.cell? at this
     rcases hh:w.heap[blk ao]? with _|o
     ·simp[hh]at this
     ·exact bo hh
    have:=hJ (blk ao) (oz ao) cap ws sep w hc hb l2 (by omega) l1
    rw[←ha h0,←hll]at this
    exact ye hE hs this hk hr
 ·cases hk
noncomputable def Mm (M:T) (b0:AV) (K:List UInt8→Bool):Bool:=match b0 with
 |.nilS=>K []
 |.sy (.prow 1 n)=>(match M.get 1 with
  |some (.prow 5 1 _ l enc)=>aN fun s:List UInt8=>ac (aC (l.map enc=s.map dX)) (ac (aC (n=s.length)) (K s))
  |_=>false)
 |_=>false
noncomputable def LZ (a0:AV):Bool:=match a0 with
 |.nilP=>true
 |.ptr 0 0=>true
 |_=>false
noncomputable def mB (Ty:Nat) (s:List UInt8) (n:Nat):T:=.node (.node .leaf (some (.prow 5 1 UInt8 s dX)) .leaf) (some (.blk false Ty 2 [[.ptr 0 0,.sy (.prow 1 n)]])) .leaf
noncomputable def Mx (n:Nat) (l:List Nat):Bool:=List.rec false (fun m _ ih=>Bool.rec ih true (Nat.beq n m)) l
theorem yj:∀{n:Nat} {l:List Nat},Mx n l=true→n∈l
 |n,[],h=>by cases h
 |n,m::l,h=>by
  have h':(Bool.rec (Mx n l) true (Nat.beq n m):Bool)=true:=h
  cases hb:Nat.beq n m with
  |true=>rw[aaF hb];simp
  |false=>rw[hb]at h';exact List.mem_cons_of_mem _ (yj h')
noncomputable def xE (Ts:List Nat):co:=fun us M _ K=>match us with
 |[.ptr 0 0,s]=>(match M.get 0 with
  |some (.blk false Ty 2 [[a0,b0]])=>ac (Mx Ty Ts) (ac (LZ a0) (Mm M b0 fun l=>sA s fun t=>ac (aC (l.length+t.length≤140737488355328)) (K (.tup [.sy (.int 0 (t.length:Int)),.nilI]) (mB Ty (l++t) (l++t).length) 2)))
  |_=>false)
 |_=>false
noncomputable def Fe (Ts:List Nat):co:=fun us M _ K=>match us with
 |[.ptr 0 0]=>(match M.get 0 with
  |some (.blk false Ty 2 [[a0,b0]])=>ac (Mx Ty Ts) (ac (LZ a0) (match b0 with
   |.nilS=>K (.sy (.str [])) .leaf 0
   |.sy (.prow 1 n)=>Mm M b0 fun l=>ac (aC (l≠[])) (K (.sy (.str l)) .leaf 0)
   |_=>false))
  |_=>false)
 |_=>false
theorem Kw {M:T} {b0:AV} {K:List UInt8→Bool} (h:Mm M b0 K=true):∃s,((b0= .nilS∧s=[])∨(b0= .sy (.prow 1 s.length)∧∃α l,∃enc:α→List PL,M.get 1=some (.prow 5 1 α l enc)∧l.map enc=s.map dX))∧K s=true:=by
 unfold Mm at h
 split at h
 ·exact⟨[],.inl ⟨rfl,rfl⟩,h⟩
 ·split at h
  case h_2=>cases h
  rename_i α l enc hM
  obtain⟨s,h2⟩:=bR h
  obtain⟨e1,h3⟩:=aa h2
  obtain⟨en,h4⟩:=aa h3
  subst en
  exact⟨s,.inr ⟨rfl,α,l,enc,hM,e1⟩,h4⟩
 ·cases h
theorem CZ {a0:AV} (h:LZ a0=true):a0= .nilP∨a0= .ptr 0 0:=by
 unfold LZ at h
 split at h
 ·exact .inl rfl
 ·exact .inr rfl
 ·cases h
theorem Ao (hs:Sim E ρ G F M nx w) {Ty:Nat} {a0 b0:AV} {s:List UInt8} (h0:M.get 0=some (.blk false Ty 2 [[a0,b0]])) (ha:a0= .nilP∨a0= .ptr 0 0)
  (hb:(b0= .nilS∧s=[])∨(b0= .sy (.prow 1 s.length)∧∃α l,∃enc:α→List PL,M.get 1=some (.prow 5 1 α l enc)∧l.map enc=s.map dX)):
  ∃e p ao cap cr,ρ 0=some e∧(p= .pointer none∨p= .pointer (some ⟨e.b,0,none⟩))∧Row 5 1 ao s.length cap (s.map u8) cr∧(b0= .nilS→ao=none)∧Holds {G with M:=E.M} w (((e.b,.cells #[p,.slice ao s.length cap] Ty (0,0))::cr)::F):=by
 obtain⟨c0,hh,ho,hj⟩:=hs.ex
 obtain⟨e,r0,⟨_,ob,hm,_,_,arr,xs,rfl,hd,hR⟩|⟨q,_⟩⟩:=ho 0 _ h0
 case inr=>cases q
 have hR:arr.toList=xs:=hR
 obtain⟨x0,ys,d0,d1,rfl⟩:=bg (show aD E ρ [a0,b0]=some xs from hd)
 obtain⟨x1,zs,d2,d3,rfl⟩:=bg d1
 obtain rfl:zs=[]:=by simpa[aD] using d3.symm
 have harr:arr= #[x0,x1]:=Array.toList_inj.1 hR
 subst harr
 have hp:x0= .pointer none∨x0= .pointer (some ⟨e.b,0,none⟩):=by
  rcases ha with rfl|rfl
  ·exact .inl (by simpa[den] using d0.symm)
  ·exact .inr (by simpa[den,r0] using d0.symm)
 rcases hb with⟨rfl,rfl⟩|⟨rfl,α,l,enc,hM,e1⟩
 ·obtain rfl:x1= .slice none 0 0:=by simpa[den] using d2.symm
  exact⟨e,x0,none,0,[],r0,hp,Row.nil 5 1,fun _=>rfl,hh.pick1 hm⟩
 ·have hll:l.length=s.length:=by simpa using congrArg List.length e1
  obtain⟨f,r1,⟨hB,ob1,hm1,arr1,xs1,rfl,_,_,hdd,hsz,htk,hle,hmx⟩|⟨hB,hnil,_⟩⟩:=ho 1 _ hM
  ·obtain⟨cc,hcc⟩:∃cc,f.cap=cc+1:=by
    rcases h0:f.cap with _|cc
    ·simp[bW,h0]at hB
    ·exact⟨cc,rfl⟩
   obtain rfl:x1= .slice (some ⟨f.b,0,none⟩) s.length cc:=by simpa[den,bc,r1,kQ,hcc] using d2.symm
   rw[wT e1]at hdd
   obtain⟨_,rfl⟩:=pu hdd
   have hne:e.b≠f.b:=fun q=>by
    have:=hj 0 1 e f _ _ h0 hM r0 r1 rfl hB q
    omega
   refine⟨e,x0,_,cc,[(f.b,.cells arr1 5 (0,0))],r0,hp,⟨by simp,.inr ⟨f.b,arr1,rfl,rfl,by omega,by omega,by rw[hsz,hcc];simp,?_⟩⟩,fun q=>(by cases q),hh.pick2 hm hm1 hne⟩
   rw[←hll,htk]
   simp[bQ,aw,u8,Function.comp_def]
  ·have hc0:f.cap=0:=by simpa[bW] using hB
   subst hnil
   obtain rfl:s=[]:=by simpa using e1.symm
   obtain rfl:x1= .slice none 0 0:=by simpa[den,bc,r1,kQ,hc0] using d2.symm
   exact⟨e,x0,none,0,[],r0,hp,Row.nil 5 1,fun _=>rfl,hh.pick1 hm⟩
theorem Hd (Ty:Nat) (s:List UInt8) (n:Nat):∀i o,(mB Ty s n).get i=some o→(i=0∧o= .blk false Ty 2 [[.ptr 0 0,.sy (.prow 1 n)]])∨(i=1∧o= .prow 5 1 UInt8 s dX)
 |0,o,h=>by cases h;exact .inl ⟨rfl,rfl⟩
 |1,o,h=>by cases h;exact .inr ⟨rfl,rfl⟩
 |m+2,o,h=>by
  exfalso
  unfold mB at h
  rcases Nat.mod_two_eq_zero_or_one (m+1) with q|q
  ·rw[T.get_even _ _ _ _ q]at h
   obtain⟨k,hk⟩:∃k,(m+1) / 2=k+1:=⟨(m+1) / 2 - 1,by omega⟩
   rw[hk]at h
   rcases Nat.mod_two_eq_zero_or_one k with q|q
   ·rw[T.get_even _ _ _ _ q,T.get_leaf]at h;cases h
   ·rw[T.get_odd _ _ _ _ q,T.get_leaf]at h;cases h
  ·rw[T.get_odd _ _ _ _ q,T.get_leaf]at h;cases h
theorem Oy (hs:Sim E ρ G F M nx w) {G':GS} {w':World} {Ty:Nat} {e:dw} {s:List UInt8} {c:aA} (hG:GS.Le {G with M:=E.M} G') (hh:Holds G' w' (c::F)) (hb:BuildS Ty e.b s c):
  ∃ρ',ρ' 0=some e∧Sim ⟨E.at_,G'.M⟩ ρ' G F (mB Ty s s.length) 2 w':=by
 obtain⟨p,ao,cap,cr,rfl,hr,rfl⟩:=hb
 have hh:=Holds.withM hG hh
 have hm:MLe G.M G'.M:=MLe.trans hs.mem (fun b o h=>hG.mem b o h)
 have key:∀f:dw,((bW f (.prow 5 1 UInt8 s dX)=true∧f.b≠e.b∧∃ob,(f.b,ob)∈cr∧ORel ⟨E.at_,G'.M⟩ (fun i=>match i with|0=>some e|1=>some f|_=>none) f (.prow 5 1 UInt8 s dX) ob)∨(bW f (.prow 5 1 UInt8 s dX)=false∧s=[]))→kQ f s.length=some (.slice ao s.length cap)→
   ∃ρ':Ren,ρ' 0=some e∧Sim ⟨E.at_,G'.M⟩ ρ' G F (mB Ty s s.length) 2 w':=by
  intro f hf hv
  refine⟨fun i=>match i with|0=>some e|1=>some f|_=>none,rfl,⟨_,hh,fun i o hi=> ?_,fun i j e1 e2 o1 o2 hi hj he1 he2 hb1 hb2 hb=> ?_⟩,hm,fun i hi=> ?_⟩
  ·rcases Hd _ _ _ i o hi with⟨rfl,rfl⟩|⟨rfl,rfl⟩
   ·refine⟨e,rfl,.inl ⟨rfl,_,List.mem_cons_self,fun l hl=> ?_,by decide,_,_,rfl,?_,rfl⟩⟩
    ·simp only[aaM,List.not_mem_nil,or_false]at hl
     subst hl;rfl
    ·simp[aD,den,bc,hv]
   ·refine⟨f,rfl,?_⟩
    rcases hf with⟨h1,_,ob,h2,h3⟩|⟨h1,h2⟩
    ·exact .inl ⟨h1,ob,List.mem_cons_of_mem _ h2,h3⟩
    ·exact .inr ⟨h1,h2,by decide⟩
  ·rcases Hd _ _ _ i o1 hi with⟨rfl,rfl⟩|⟨rfl,rfl⟩<;>rcases Hd _ _ _ j o2 hj with⟨rfl,rfl⟩|⟨rfl,rfl⟩
   ·rfl
   ·cases he1;cases he2
    rcases hf with⟨_,h1,_⟩|⟨h1,_⟩
    ·exact absurd hb.symm h1
    ·rw[h1]at hb2;cases hb2
   ·cases he1;cases he2
    rcases hf with⟨_,h1,_⟩|⟨h1,_⟩
    ·exact absurd hb h1
    ·rw[h1]at hb1;cases hb1
   ·rfl
  ·match i,hi with
   |m+2,_=>rfl
 rcases hr.form with⟨rfl,h0,rfl,rfl⟩|⟨g,cur,rfl,rfl,h1,h2,h3,h4⟩
 ·have:s=[]:=aaX h0
  subst this
  exact key ⟨0,0⟩ (.inr ⟨rfl,rfl⟩) rfl
 ·refine key ⟨g,cap+1⟩ (.inl ⟨rfl,?_,_,List.mem_cons_self,cur,s.map u8,rfl,by decide,fun x _=>rfl,?_,by simpa using h3,by simpa using h4,by simpa using h1,by simpa using h2⟩) (by simp[kQ])
  ·intro q
   have:=hh.nodup
   simp only[aaH,aaJ,aaK,aaI,List.nodup_cons,aaM]at this
   exact this.1 (.inl q.symm)
  ·have e1:s.flatMap dX=s.map fun x=>PL.sint 1 (x.toNat:Int):=wT rfl
   rw[e1,qK (fun p hp=>by obtain⟨x,_,rfl⟩:=List.mem_map.1 hp;exact .sint _ _)]
   simp[bQ,aw,u8,Function.comp_def]
theorem LN {f:Nat} {Ts:List Nat} {BT:Nat→Prop} (hT:∀Ty∈Ts,BT Ty) (hW:∀(Ty b:Nat) (l:List UInt8) (c:aA) (t:List UInt8) (G:GS) (w:World) (F:List aA),BT Ty→Cg Ty b l c→l.length+t.length≤140737488355328→Holds G w (c::F)→
   Calls P f #[.pointer (some ⟨b,0,none⟩),S t] w (Mz G F fun _ v c1=>v= .tuple #[.int .i64 (t.length:Int),.nilIface]∧BuildS Ty b (l++t) c1)):bS P f 1 (xE Ts):=by
 intro us xs E ρ G F M nx w K R hE hs hd hk hr
 unfold xE at hk
 split at hk
 case h_2=>cases hk
 rename_i s
 split at hk
 case h_2=>cases hk
 rename_i Ty a0 b0 hM
 obtain⟨q1,hk⟩:=aj hk
 obtain⟨q2,hk⟩:=aj hk
 obtain⟨l,q3,hk⟩:=Kw hk
 obtain⟨t,q4,hk⟩:=tS (E:=E) (ρ:=ρ) hk
 obtain⟨q5,hk⟩:=aa hk
 obtain⟨e,p,ao,cap,cr,r0,hp,hrow,_,hh⟩:=Ao hs hM (CZ q2) q3
 obtain⟨x0,ys,d1,d2,rfl⟩:=bg hd
 obtain⟨x1,ys2,d3,d4,rfl⟩:=bg d2
 obtain rfl:ys2=[]:=by simpa[aD] using d4.symm
 obtain rfl:x1=S t:=aaZ (d3.symm.trans q4)
 obtain rfl:x0= .pointer (some ⟨e.b,0,none⟩):=by simpa[den,r0] using d1.symm
 refine(hW Ty e.b l _ t {G with M:=E.M} w F (hT _ (yj q1)) ⟨p,ao,cap,cr,hp,hrow,rfl⟩ q5 hh).mono fun e' w' ⟨v,G',c',he,hG,hh',hv,hb⟩=> ?_
 subst he;subst hv
 obtain⟨ρ',r1,hs'⟩:=Oy hs hG hh' hb
 refine hr _ _ _ ⟨E.at_,G'.M⟩ ρ' w' _ hk ⟨hE.1,Tied.mono (fun b o h=>hG.mem b o h) hE.2⟩ (fun b o h=>hG.mem b o h) (fun i e2 hi he2=> ?_) hs' (by simp[den,aD,bc,aw])
 obtain rfl:i=0:=by omega
 rw[r0]at he2;cases he2;exact r1
theorem Qd {f:Nat} {Ts:List Nat} {BT:Nat→Prop} (hT:∀Ty∈Ts,BT Ty) (hW:∀(Ty b:Nat) (l:List UInt8) (c:aA) (G:GS) (w:World) (F:List aA),BT Ty→BuildC Ty b l c→Holds G w (c::F)→
   Calls P f #[.pointer (some ⟨b,0,none⟩)] w (Ret G F fun _ v=>v=S l)):bS P f 0 (Fe Ts):=by
 intro us xs E ρ G F M nx w K R hE hs hd hk hr
 unfold Fe at hk
 split at hk
 case h_2=>cases hk
 split at hk
 case h_2=>cases hk
 rename_i Ty a0 b0 hM
 obtain⟨q1,hk⟩:=aj hk
 obtain⟨q2,hk⟩:=aj hk
 obtain⟨x0,ys,d1,d2,rfl⟩:=bg hd
 obtain rfl:ys=[]:=by simpa[aD] using d2.symm
 split at hk
 ·obtain⟨e,p,ao,cap,cr,r0,hp,hrow,hn,hh⟩:=Ao (s:=[]) hs hM (CZ q2) (.inl ⟨rfl,rfl⟩)
  obtain rfl:x0= .pointer (some ⟨e.b,0,none⟩):=by simpa[den,r0] using d1.symm
  exact BQ hE hs (hW Ty e.b [] _ {G with M:=E.M} w F (hT _ (yj q1)) ⟨p,ao,cap,cr,hp,hrow,fun _=>hn rfl,rfl⟩ hh) hk hr
 ·obtain⟨l,q3,hk⟩:=Kw hk
  obtain⟨q5,hk⟩:=aa hk
  obtain⟨e,p,ao,cap,cr,r0,hp,hrow,hn,hh⟩:=Ao hs hM (CZ q2) q3
  obtain rfl:x0= .pointer (some ⟨e.b,0,none⟩):=by simpa[den,r0] using d1.symm
  exact BQ hE hs (hW Ty e.b l _ {G with M:=E.M} w F (hT _ (yj q1)) ⟨p,ao,cap,cr,hp,hrow,fun q=>absurd q q5,rfl⟩ hh) hk hr
 ·cases hk
end
end Go.Sy
namespace Go.Proofs
open Go.Shelf
def Tryz.lays156_ren:Go.Shelf.Ren:=⟨fun|156=>65|165=>93|166=>31|169=>35|240=>59|241=>111|276=>88|277=>126|n=>n,fun|31=>56|9=>9|3=>3|4=>4|0=>0|20=>20|72=>91|76=>94|70=>88|37=>89|75=>93|127=>134|164=>152|5=>5|80=>99|n=>n,fun|n=>n⟩
theorem Tryz.lays156:Go.Proofs.Lays.n156 Tryz.prog Tryz.lays156_ren:={
 mixed:=by kernel_rfl
 f156:=Tryz.func65.trans (congrArg some (by kernel_rfl))
 f165:=Tryz.func93.trans (congrArg some (by kernel_rfl))
 f166:=Tryz.func31.trans (congrArg some (by kernel_rfl))
 f169:=Tryz.func35.trans (congrArg some (by kernel_rfl))
 f240:=Tryz.func59.trans (congrArg some (by kernel_rfl))
 f241:=Tryz.func111.trans (congrArg some (by kernel_rfl))
 f276:=Tryz.func88.trans (congrArg some (by kernel_rfl))
 f277:=Tryz.func126.trans (congrArg some (by kernel_rfl))
 t0:=Tryz.underlying0
 a0:=Tryz.isAgg0
 z0:=Tryz.sizeOf0
 v0:=Tryz.zeroValue0
 t3:=Tryz.underlying3
 a3:=Tryz.isAgg3
 z3:=Tryz.sizeOf3
 v3:=Tryz.zeroValue3
 t4:=Tryz.underlying4
 a4:=Tryz.isAgg4
 z4:=Tryz.sizeOf4
 v4:=Tryz.zeroValue4
 t9:=Tryz.underlying9
 a9:=Tryz.isAgg9
 z9:=Tryz.sizeOf9
 v9:=Tryz.zeroValue9
 t20:=Tryz.underlying20
 a20:=Tryz.isAgg20
 z20:=Tryz.sizeOf20
 v20:=Tryz.zeroValue20
 t31:=Tryz.underlying56
 a31:=Tryz.isAgg56
 z31:=Tryz.sizeOf56
 v31:=Tryz.zeroValue56
 t37:=Tryz.underlying89
 a37:=Tryz.isAgg89
 z37:=Tryz.sizeOf89
 v37:=Tryz.zeroValue89
 t70:=Tryz.underlying88
 a70:=Tryz.isAgg88
 z70:=Tryz.sizeOf88
 v70:=Tryz.zeroValue88
 t72:=Tryz.underlying91
 a72:=Tryz.isAgg91
 z72:=Tryz.sizeOf91
 v72:=Tryz.zeroValue91
 t75:=Tryz.underlying93
 a75:=Tryz.isAgg93
 z75:=Tryz.sizeOf93
 v75:=Tryz.zeroValue93
 t76:=Tryz.underlying94
 a76:=Tryz.isAgg94
 z76:=Tryz.sizeOf94
 v76:=Tryz.zeroValue94
 t127:=Tryz.underlying134
 a127:=Tryz.isAgg134
 z127:=Tryz.sizeOf134
 v127:=Tryz.zeroValue134
 t164:=Tryz.underlying152
 a164:=Tryz.isAgg152
 z164:=Tryz.sizeOf152
 v164:=Tryz.zeroValue152}
theorem Tryz.Builder_Extra_156:Builder.Extra Tryz.prog Tryz.lays156_ren:={
 sizeBuilder:=by kernel_rfl
 liesBuilder:=by kernel_rfl
 t5:=Tryz.underlying5
 a5:=Tryz.isAgg5
 z5:=Tryz.sizeOf5
 v5:=Tryz.zeroValue5
 infoByte:=by kernel_rfl
 cellsByte:=by kernel_rfl
 sizeByte:=by kernel_rfl
 neB5:=by decide}
open Go.RowKit in
theorem Tryz.strings_Join_none (a:Option Addr) (c:Nat) (sep:ByteArray) (w:World):
  Calls Tryz.prog 65 #[.slice a 0 c,.string sep] w fun e w'=>e= .returned (.string ⟨#[]⟩)∧w'=w:=Any.strings_Join_none Tryz.lays156 Tryz.Builder_Extra_156 a c sep w
open Go.RowKit in
theorem Tryz.strings_Join (bk o c:Nat) (xs:List ByteArray) (sep:ByteArray) (w:World) (hcells:∀(j:Nat) x,xs[j]?=some x→w.cell? ⟨bk,o+j,none⟩=some (.string x)) (hbk:bk<w.heap.size) (hN:xs.length≤140737488355328) (hcap:xs.length≤c) (hlen:(Lib.join (xs.map (·.data.toList)) sep.data.toList).length≤140737488355328):
  Calls Tryz.prog 65 #[.slice (some ⟨bk,o,none⟩) xs.length c,.string sep] w fun e w'=>e= .returned (.string ⟨(Lib.join (xs.map (·.data.toList)) sep.data.toList).toArray⟩)∧Below w.heap.size w w':=Any.strings_Join Tryz.lays156 Tryz.Builder_Extra_156 bk o c xs sep w hcells hbk hN hcap hlen
def Tryz.lays137_ren:Go.Shelf.Ren:=⟨fun|137=>45|217=>74|266=>99|n=>n,fun|9=>9|5=>5|3=>3|n=>n,fun|n=>n⟩
theorem Tryz.lays137:Go.Proofs.Lays.n137 Tryz.prog Tryz.lays137_ren:={
 mixed:=by kernel_rfl
 f137:=Tryz.func45.trans (congrArg some (by kernel_rfl))
 f217:=Tryz.func74.trans (congrArg some (by kernel_rfl))
 f266:=Tryz.func99.trans (congrArg some (by kernel_rfl))
 t3:=Tryz.underlying3
 a3:=Tryz.isAgg3
 z3:=Tryz.sizeOf3
 v3:=Tryz.zeroValue3
 t5:=Tryz.underlying5
 a5:=Tryz.isAgg5
 z5:=Tryz.sizeOf5
 v5:=Tryz.zeroValue5
 t9:=Tryz.underlying9
 a9:=Tryz.isAgg9
 z9:=Tryz.sizeOf9
 v9:=Tryz.zeroValue9}
open Go.RowKit in
theorem Tryz.strings_IndexByte (s:ByteArray) (c:Int) (w:World):
  Calls Tryz.prog 45 #[.string s,.int .u8 c] w fun e w'=>e= .returned (.int .i64 (Lib.indexByte s.data.toList c.toNat.toUInt8))∧w'=w:=Any.strings_IndexByte Tryz.lays137 s c w
def Tryz.lays104_ren:Go.Shelf.Ren:=⟨fun|104=>17|211=>46|207=>75|n=>n,fun|9=>9|4=>4|24=>64|3=>3|n=>n,fun|n=>n⟩
theorem Tryz.lays104:Go.Proofs.Lays.n104 Tryz.prog Tryz.lays104_ren:={
 mixed:=by kernel_rfl
 f104:=Tryz.func17.trans (congrArg some (by kernel_rfl))
 f207:=Tryz.func75.trans (congrArg some (by kernel_rfl))
 f211:=Tryz.func46.trans (congrArg some (by kernel_rfl))
 t3:=Tryz.underlying3
 a3:=Tryz.isAgg3
 z3:=Tryz.sizeOf3
 v3:=Tryz.zeroValue3
 t4:=Tryz.underlying4
 a4:=Tryz.isAgg4
 z4:=Tryz.sizeOf4
 v4:=Tryz.zeroValue4
 t9:=Tryz.underlying9
 a9:=Tryz.isAgg9
 z9:=Tryz.sizeOf9
 v9:=Tryz.zeroValue9
 t24:=Tryz.underlying64
 a24:=Tryz.isAgg64
 z24:=Tryz.sizeOf64
 v24:=Tryz.zeroValue64}
open Go.RowKit in
theorem Tryz.strings_CutSuffix (s p:ByteArray) (w:World) (hs:s.size≤9223372036854775807):
  Calls Tryz.prog 17 #[.string s,.string p] w fun e w'=>e= .returned (.tuple #[.string ⟨(Lib.trimSuffix s.data.toList p.data.toList).toArray⟩,.bool (Lib.hasSuffix s.data.toList p.data.toList)])∧w'=w:=Any.strings_CutSuffix Tryz.lays104 s p w hs
def Tryz.lays283_ren:Go.Shelf.Ren:=⟨fun|283=>107|n=>n,fun|3=>3|9=>9|4=>4|n=>n,fun|n=>n⟩
theorem Tryz.lays283:Go.Proofs.Lays.n283 Tryz.prog Tryz.lays283_ren:={
 mixed:=by kernel_rfl
 f283:=Tryz.func107.trans (congrArg some (by kernel_rfl))
 t3:=Tryz.underlying3
 a3:=Tryz.isAgg3
 z3:=Tryz.sizeOf3
 v3:=Tryz.zeroValue3
 t4:=Tryz.underlying4
 a4:=Tryz.isAgg4
 z4:=Tryz.sizeOf4
 v4:=Tryz.zeroValue4
 t9:=Tryz.underlying9
 a9:=Tryz.isAgg9
 z9:=Tryz.sizeOf9
 v9:=Tryz.zeroValue9}
open Go.Lib in
theorem Tryz.internal_strconv_small (i:Nat) (h:i<100) (w:World):
  Calls Tryz.prog 107 #[.int .i64 i] w fun e w'=>e= .returned (.string ⟨(Lib.decDigits i).toArray⟩)∧w'=w:=Any.internal_strconv_small Tryz.lays283 i h w
def Tryz.laysM284_ren:Go.Shelf.Ren:=⟨fun|284=>108|129=>122|317=>121|318=>123|n=>n,fun|53=>24|3=>3|212=>177|0=>0|4=>4|46=>179|5=>5|9=>9|n=>n,fun|17=>1|n=>n⟩
theorem Tryz.laysM284:Go.Proofs.LaysM.n284 Tryz.prog Tryz.laysM284_ren:={
 mixed:=by kernel_rfl
 f129:=Tryz.func122.trans (congrArg some (by kernel_rfl))
 f284:=Tryz.func108.trans (congrArg some (by kernel_rfl))
 f317:=Tryz.func121.trans (congrArg some (by kernel_rfl))
 f318:=Tryz.func123.trans (congrArg some (by kernel_rfl))
 t0:=Tryz.underlying0
 a0:=Tryz.isAgg0
 z0:=Tryz.sizeOf0
 v0:=Tryz.zeroValue0
 t3:=Tryz.underlying3
 a3:=Tryz.isAgg3
 z3:=Tryz.sizeOf3
 v3:=Tryz.zeroValue3
 t4:=Tryz.underlying4
 a4:=Tryz.isAgg4
 z4:=Tryz.sizeOf4
 v4:=Tryz.zeroValue4
 t5:=Tryz.underlying5
 a5:=Tryz.isAgg5
 z5:=Tryz.sizeOf5
 v5:=Tryz.zeroValue5
 t9:=Tryz.underlying9
 a9:=Tryz.isAgg9
 z9:=Tryz.sizeOf9
 v9:=Tryz.zeroValue9
 t46:=Tryz.underlying179
 a46:=Tryz.isAgg179
 z46:=Tryz.sizeOf179
 v46:=Tryz.zeroValue179
 t53:=Tryz.underlying24
 a53:=Tryz.isAgg24
 z53:=Tryz.sizeOf24
 v53:=Tryz.zeroValue24
 t212:=Tryz.underlying177
 a212:=Tryz.isAgg177
 z212:=Tryz.sizeOf177
 v212:=Tryz.zeroValue177
 g17:=by kernel_rfl
 i0:=by kernel_rfl
 i3:=by kernel_rfl
 i4:=by kernel_rfl
 i5:=by kernel_rfl
 i9:=by kernel_rfl
 i46:=by kernel_rfl
 i53:=by kernel_rfl
 i212:=by kernel_rfl
 m17:=by kernel_rfl}
open Go.Lib in
theorem Tryz.internal_strconv_numDigits (u:Nat) (h1:1≤u) (h2:u<18446744073709551616) (w:World) (htab:Lib.TabIs Tryz.prog w "internal/strconv.uint64pow10" .u64 Lib.pow10Tab):
  Calls Tryz.prog 108 #[.int .u64 u] w fun e w'=>e= .returned (.int .i64 (Lib.nDigits u))∧w'=w:=Any.internal_strconv_numDigits Tryz.laysM284 u h1 h2 w htab
def Tryz.lays285_ren:Go.Shelf.Ren:=⟨fun|285=>109|n=>n,fun|37=>89|53=>24|3=>3|4=>4|51=>51|9=>9|5=>5|0=>0|n=>n,fun|n=>n⟩
theorem Tryz.lays285:Go.Proofs.Lays.n285 Tryz.prog Tryz.lays285_ren:={
 mixed:=by kernel_rfl
 f285:=Tryz.func109.trans (congrArg some (by kernel_rfl))
 t0:=Tryz.underlying0
 a0:=Tryz.isAgg0
 z0:=Tryz.sizeOf0
 v0:=Tryz.zeroValue0
 t3:=Tryz.underlying3
 a3:=Tryz.isAgg3
 z3:=Tryz.sizeOf3
 v3:=Tryz.zeroValue3
 t4:=Tryz.underlying4
 a4:=Tryz.isAgg4
 z4:=Tryz.sizeOf4
 v4:=Tryz.zeroValue4
 t5:=Tryz.underlying5
 a5:=Tryz.isAgg5
 z5:=Tryz.sizeOf5
 v5:=Tryz.zeroValue5
 t9:=Tryz.underlying9
 a9:=Tryz.isAgg9
 z9:=Tryz.sizeOf9
 v9:=Tryz.zeroValue9
 t37:=Tryz.underlying89
 a37:=Tryz.isAgg89
 z37:=Tryz.sizeOf89
 v37:=Tryz.zeroValue89
 t51:=Tryz.underlying51
 a51:=Tryz.isAgg51
 z51:=Tryz.sizeOf51
 v51:=Tryz.zeroValue51
 t53:=Tryz.underlying24
 a53:=Tryz.isAgg24
 z53:=Tryz.sizeOf24
 v53:=Tryz.zeroValue24}
open Go.RowKit Go.Sort Go.Lib in
theorem Tryz.internal_strconv_formatBase10 (blk off cap:Nat) (u:Nat) (d:Array UInt8) (w:World) (hH:Holds (fun(b:UInt8)=>Value.int .u8 (b.toNat:Int)) w blk off d) (hu:u<10 ^ d.size) (hu64:u<18446744073709551616) (hsz:d.size<4611686018427387904):
  Calls Tryz.prog 109 #[.slice (some ⟨blk,off,none⟩) d.size cap,.int .u64 u] w fun e w'=>
   e= .returned (.tuple #[])∧∃(n v':Nat) (dk:Array UInt8),w'=(putRow (fun(b:UInt8)=>Value.int .u8 (b.toNat:Int)) w blk off dk).drewN n∧FmtInv d.size u 0 v' dk:=Any.internal_strconv_formatBase10 Tryz.lays285 blk off cap u d w hH hu hu64 hsz
def Tryz.laysM246_ren:Go.Shelf.Ren:=⟨fun|246=>106|283=>107|284=>108|285=>109|286=>110|129=>122|317=>121|318=>123|319=>124|320=>125|337=>138|338=>139|n=>n,fun|2=>2|3=>3|9=>9|4=>4|171=>164|0=>0|53=>24|37=>89|5=>5|173=>167|212=>177|51=>51|20=>20|213=>178|46=>179|232=>199|233=>200|n=>n,fun|17=>1|18=>6|19=>7|n=>n⟩
def Tryz.laysM243_ren:Go.Shelf.Ren:=⟨fun|243=>89|246=>106|283=>107|284=>108|285=>109|286=>110|129=>122|317=>121|318=>123|319=>124|320=>125|337=>138|338=>139|n=>n,fun|3=>3|9=>9|2=>2|4=>4|171=>164|0=>0|53=>24|37=>89|5=>5|173=>167|212=>177|51=>51|20=>20|213=>178|46=>179|232=>199|233=>200|n=>n,fun|17=>1|18=>6|19=>7|n=>n⟩
def Tryz.laysM171_ren:Go.Shelf.Ren:=⟨fun|171=>60|243=>89|246=>106|283=>107|284=>108|285=>109|286=>110|129=>122|317=>121|318=>123|319=>124|320=>125|337=>138|338=>139|n=>n,fun|3=>3|9=>9|2=>2|4=>4|171=>164|0=>0|53=>24|37=>89|5=>5|173=>167|212=>177|51=>51|20=>20|213=>178|46=>179|232=>199|233=>200|n=>n,fun|17=>1|18=>6|19=>7|n=>n⟩
theorem Tryz.laysM171:Go.Proofs.LaysM.n171 Tryz.prog Tryz.laysM171_ren:={
 mixed:=by kernel_rfl
 f129:=Tryz.func122.trans (congrArg some (by kernel_rfl))
 f171:=Tryz.func60.trans (congrArg some (by kernel_rfl))
 f243:=Tryz.func89.trans (congrArg some (by kernel_rfl))
 f246:=Tryz.func106.trans (congrArg some (by kernel_rfl))
 f283:=Tryz.func107.trans (congrArg some (by kernel_rfl))
 f284:=Tryz.func108.trans (congrArg some (by kernel_rfl))
 f285:=Tryz.func109.trans (congrArg some (by kernel_rfl))
 f286:=Tryz.func110.trans (congrArg some (by kernel_rfl))
 f317:=Tryz.func121.trans (congrArg some (by kernel_rfl))
 f318:=Tryz.func123.trans (congrArg some (by kernel_rfl))
 f319:=Tryz.func124.trans (congrArg some (by kernel_rfl))
 f320:=Tryz.func125.trans (congrArg some (by kernel_rfl))
 f337:=Tryz.func138.trans (congrArg some (by kernel_rfl))
 f338:=Tryz.func139.trans (congrArg some (by kernel_rfl))
 t0:=Tryz.underlying0
 a0:=Tryz.isAgg0
 z0:=Tryz.sizeOf0
 v0:=Tryz.zeroValue0
 t2:=Tryz.underlying2
 a2:=Tryz.isAgg2
 z2:=Tryz.sizeOf2
 v2:=Tryz.zeroValue2
 t3:=Tryz.underlying3
 a3:=Tryz.isAgg3
 z3:=Tryz.sizeOf3
 v3:=Tryz.zeroValue3
 t4:=Tryz.underlying4
 a4:=Tryz.isAgg4
 z4:=Tryz.sizeOf4
 v4:=Tryz.zeroValue4
 t5:=Tryz.underlying5
 a5:=Tryz.isAgg5
 z5:=Tryz.sizeOf5
 v5:=Tryz.zeroValue5
 t9:=Tryz.underlying9
 a9:=Tryz.isAgg9
 z9:=Tryz.sizeOf9
 v9:=Tryz.zeroValue9
 t20:=Tryz.underlying20
 a20:=Tryz.isAgg20
 z20:=Tryz.sizeOf20
 v20:=Tryz.zeroValue20
 t37:=Tryz.underlying89
 a37:=Tryz.isAgg89
 z37:=Tryz.sizeOf89
 v37:=Tryz.zeroValue89
 t46:=Tryz.underlying179
 a46:=Tryz.isAgg179
 z46:=Tryz.sizeOf179
 v46:=Tryz.zeroValue179
 t51:=Tryz.underlying51
 a51:=Tryz.isAgg51
 z51:=Tryz.sizeOf51
 v51:=Tryz.zeroValue51
 t53:=Tryz.underlying24
 a53:=Tryz.isAgg24
 z53:=Tryz.sizeOf24
 v53:=Tryz.zeroValue24
 t171:=Tryz.underlying164
 a171:=Tryz.isAgg164
 z171:=Tryz.sizeOf164
 v171:=Tryz.zeroValue164
 t173:=Tryz.underlying167
 a173:=Tryz.isAgg167
 z173:=Tryz.sizeOf167
 v173:=Tryz.zeroValue167
 t212:=Tryz.underlying177
 a212:=Tryz.isAgg177
 z212:=Tryz.sizeOf177
 v212:=Tryz.zeroValue177
 t213:=Tryz.underlying178
 a213:=Tryz.isAgg178
 z213:=Tryz.sizeOf178
 t232:=Tryz.underlying199
 a232:=Tryz.isAgg199
 z232:=Tryz.sizeOf199
 v232:=Tryz.zeroValue199
 t233:=Tryz.underlying200
 a233:=Tryz.isAgg200
 z233:=Tryz.sizeOf200
 v233:=Tryz.zeroValue200
 g17:=by kernel_rfl
 g18:=by kernel_rfl
 g19:=by kernel_rfl
 i0:=by kernel_rfl
 i2:=by kernel_rfl
 i3:=by kernel_rfl
 i4:=by kernel_rfl
 i5:=by kernel_rfl
 i9:=by kernel_rfl
 i20:=by kernel_rfl
 i37:=by kernel_rfl
 i46:=by kernel_rfl
 i51:=by kernel_rfl
 i53:=by kernel_rfl
 i171:=by kernel_rfl
 i173:=by kernel_rfl
 i212:=by kernel_rfl
 i232:=by kernel_rfl
 i233:=by kernel_rfl
 m17:=by kernel_rfl
 m18:=by kernel_rfl
 m19:=by kernel_rfl}
open Go.RowKit Go.Sort Go.Lib in
theorem Tryz.strconv_Itoa (n:Int) (h0: -9223372036854775808≤n) (h1:n≤9223372036854775807) (w:World) (htab:Lib.TabIs Tryz.prog w "internal/strconv.uint64pow10" .u64 Lib.pow10Tab):
  Calls Tryz.prog 60 #[.int .i64 n] w fun e w'=>e= .returned (.string ⟨(Lib.itoa n).toArray⟩)∧∃k os,w'=grow (w.drewN k) os:=Any.strconv_Itoa Tryz.laysM171 n h0 h1 w htab
def Tryz.laysM173_ren:Go.Shelf.Ren:=⟨fun|173=>92|246=>106|283=>107|284=>108|285=>109|286=>110|129=>122|317=>121|318=>123|319=>124|320=>125|337=>138|338=>139|n=>n,fun|2=>2|3=>3|9=>9|4=>4|171=>164|0=>0|53=>24|37=>89|5=>5|173=>167|212=>177|51=>51|20=>20|213=>178|46=>179|232=>199|233=>200|n=>n,fun|17=>1|18=>6|19=>7|n=>n⟩
theorem Tryz.laysM173:Go.Proofs.LaysM.n173 Tryz.prog Tryz.laysM173_ren:={
 mixed:=by kernel_rfl
 f129:=Tryz.func122.trans (congrArg some (by kernel_rfl))
 f173:=Tryz.func92.trans (congrArg some (by kernel_rfl))
 f246:=Tryz.func106.trans (congrArg some (by kernel_rfl))
 f283:=Tryz.func107.trans (congrArg some (by kernel_rfl))
 f284:=Tryz.func108.trans (congrArg some (by kernel_rfl))
 f285:=Tryz.func109.trans (congrArg some (by kernel_rfl))
 f286:=Tryz.func110.trans (congrArg some (by kernel_rfl))
 f317:=Tryz.func121.trans (congrArg some (by kernel_rfl))
 f318:=Tryz.func123.trans (congrArg some (by kernel_rfl))
 f319:=Tryz.func124.trans (congrArg some (by kernel_rfl))
 f320:=Tryz.func125.trans (congrArg some (by kernel_rfl))
 f337:=Tryz.func138.trans (congrArg some (by kernel_rfl))
 f338:=Tryz.func139.trans (congrArg some (by kernel_rfl))
 t0:=Tryz.underlying0
 a0:=Tryz.isAgg0
 z0:=Tryz.sizeOf0
 v0:=Tryz.zeroValue0
 t2:=Tryz.underlying2
 a2:=Tryz.isAgg2
 z2:=Tryz.sizeOf2
 v2:=Tryz.zeroValue2
 t3:=Tryz.underlying3
 a3:=Tryz.isAgg3
 z3:=Tryz.sizeOf3
 v3:=Tryz.zeroValue3
 t4:=Tryz.underlying4
 a4:=Tryz.isAgg4
 z4:=Tryz.sizeOf4
 v4:=Tryz.zeroValue4
 t5:=Tryz.underlying5
 a5:=Tryz.isAgg5
 z5:=Tryz.sizeOf5
 v5:=Tryz.zeroValue5
 t9:=Tryz.underlying9
 a9:=Tryz.isAgg9
 z9:=Tryz.sizeOf9
 v9:=Tryz.zeroValue9
 t20:=Tryz.underlying20
 a20:=Tryz.isAgg20
 z20:=Tryz.sizeOf20
 v20:=Tryz.zeroValue20
 t37:=Tryz.underlying89
 a37:=Tryz.isAgg89
 z37:=Tryz.sizeOf89
 v37:=Tryz.zeroValue89
 t46:=Tryz.underlying179
 a46:=Tryz.isAgg179
 z46:=Tryz.sizeOf179
 v46:=Tryz.zeroValue179
 t51:=Tryz.underlying51
 a51:=Tryz.isAgg51
 z51:=Tryz.sizeOf51
 v51:=Tryz.zeroValue51
 t53:=Tryz.underlying24
 a53:=Tryz.isAgg24
 z53:=Tryz.sizeOf24
 v53:=Tryz.zeroValue24
 t171:=Tryz.underlying164
 a171:=Tryz.isAgg164
 z171:=Tryz.sizeOf164
 v171:=Tryz.zeroValue164
 t173:=Tryz.underlying167
 a173:=Tryz.isAgg167
 z173:=Tryz.sizeOf167
 v173:=Tryz.zeroValue167
 t212:=Tryz.underlying177
 a212:=Tryz.isAgg177
 z212:=Tryz.sizeOf177
 v212:=Tryz.zeroValue177
 t213:=Tryz.underlying178
 a213:=Tryz.isAgg178
 z213:=Tryz.sizeOf178
 t232:=Tryz.underlying199
 a232:=Tryz.isAgg199
 z232:=Tryz.sizeOf199
 v232:=Tryz.zeroValue199
 t233:=Tryz.underlying200
 a233:=Tryz.isAgg200
 z233:=Tryz.sizeOf200
 v233:=Tryz.zeroValue200
 g17:=by kernel_rfl
 g18:=by kernel_rfl
 g19:=by kernel_rfl
 i0:=by kernel_rfl
 i2:=by kernel_rfl
 i3:=by kernel_rfl
 i4:=by kernel_rfl
 i5:=by kernel_rfl
 i9:=by kernel_rfl
 i20:=by kernel_rfl
 i37:=by kernel_rfl
 i46:=by kernel_rfl
 i51:=by kernel_rfl
 i53:=by kernel_rfl
 i171:=by kernel_rfl
 i173:=by kernel_rfl
 i212:=by kernel_rfl
 i232:=by kernel_rfl
 i233:=by kernel_rfl
 m17:=by kernel_rfl
 m18:=by kernel_rfl
 m19:=by kernel_rfl}
open Go.RowKit Go.Sort Go.Lib in
theorem Tryz.strconv_FormatInt_10 (n:Int) (h0: -9223372036854775808≤n) (h1:n≤9223372036854775807) (w:World) (htab:Lib.TabIs Tryz.prog w "internal/strconv.uint64pow10" .u64 Lib.pow10Tab):
  Calls Tryz.prog 92 #[.int .i64 n,.int .i64 10] w fun e w'=>e= .returned (.string ⟨(Lib.itoa n).toArray⟩)∧∃k os,w'=grow (w.drewN k) os:=Any.strconv_FormatInt_10 Tryz.laysM173 n h0 h1 w htab
def Tryz.laysPu14_ren:Go.Shelf.Ren:=⟨fun|14=>103|16=>119|17=>120|19=>132|20=>133|21=>134|22=>135|23=>136|24=>137|25=>141|27=>60|26=>142|28=>89|29=>106|30=>107|31=>108|32=>109|33=>110|35=>122|34=>121|36=>123|37=>124|38=>125|39=>138|40=>139|n=>n,fun|9=>9|3=>3|22=>24|24=>93|25=>162|4=>4|34=>183|5=>5|36=>179|37=>89|0=>0|39=>185|21=>21|44=>197|47=>134|50=>203|48=>201|2=>2|52=>164|55=>167|59=>177|60=>51|20=>20|61=>178|65=>199|66=>200|67=>99|n=>n,fun|0=>4|1=>5|2=>1|3=>6|4=>7|n=>n⟩
theorem Tryz.laysPu14:Go.Proofs.LaysPu.n14 Tryz.prog Tryz.laysPu14_ren:={
 mixed:=by kernel_rfl
 f14:=Tryz.func103.trans (congrArg some (by kernel_rfl))
 f16:=Tryz.func119.trans (congrArg some (by kernel_rfl))
 f17:=Tryz.func120.trans (congrArg some (by kernel_rfl))
 f19:=Tryz.func132.trans (congrArg some (by kernel_rfl))
 f20:=Tryz.func133.trans (congrArg some (by kernel_rfl))
 f21:=Tryz.func134.trans (congrArg some (by kernel_rfl))
 f22:=Tryz.func135.trans (congrArg some (by kernel_rfl))
 f23:=Tryz.func136.trans (congrArg some (by kernel_rfl))
 f24:=Tryz.func137.trans (congrArg some (by kernel_rfl))
 f25:=Tryz.func141.trans (congrArg some (by kernel_rfl))
 f26:=Tryz.func142.trans (congrArg some (by kernel_rfl))
 f27:=Tryz.func60.trans (congrArg some (by kernel_rfl))
 f28:=Tryz.func89.trans (congrArg some (by kernel_rfl))
 f29:=Tryz.func106.trans (congrArg some (by kernel_rfl))
 f30:=Tryz.func107.trans (congrArg some (by kernel_rfl))
 f31:=Tryz.func108.trans (congrArg some (by kernel_rfl))
 f32:=Tryz.func109.trans (congrArg some (by kernel_rfl))
 f33:=Tryz.func110.trans (congrArg some (by kernel_rfl))
 f34:=Tryz.func121.trans (congrArg some (by kernel_rfl))
 f35:=Tryz.func122.trans (congrArg some (by kernel_rfl))
 f36:=Tryz.func123.trans (congrArg some (by kernel_rfl))
 f37:=Tryz.func124.trans (congrArg some (by kernel_rfl))
 f38:=Tryz.func125.trans (congrArg some (by kernel_rfl))
 f39:=Tryz.func138.trans (congrArg some (by kernel_rfl))
 f40:=Tryz.func139.trans (congrArg some (by kernel_rfl))
 t0:=Tryz.underlying0
 a0:=Tryz.isAgg0
 z0:=Tryz.sizeOf0
 v0:=Tryz.zeroValue0
 i0:=by kernel_rfl
 t2:=Tryz.underlying2
 a2:=Tryz.isAgg2
 z2:=Tryz.sizeOf2
 v2:=Tryz.zeroValue2
 i2:=by kernel_rfl
 t3:=Tryz.underlying3
 a3:=Tryz.isAgg3
 z3:=Tryz.sizeOf3
 v3:=Tryz.zeroValue3
 i3:=by kernel_rfl
 t4:=Tryz.underlying4
 a4:=Tryz.isAgg4
 z4:=Tryz.sizeOf4
 v4:=Tryz.zeroValue4
 i4:=by kernel_rfl
 t5:=Tryz.underlying5
 a5:=Tryz.isAgg5
 z5:=Tryz.sizeOf5
 v5:=Tryz.zeroValue5
 i5:=by kernel_rfl
 t9:=Tryz.underlying9
 a9:=Tryz.isAgg9
 z9:=Tryz.sizeOf9
 v9:=Tryz.zeroValue9
 i9:=by kernel_rfl
 t20:=Tryz.underlying20
 a20:=Tryz.isAgg20
 z20:=Tryz.sizeOf20
 v20:=Tryz.zeroValue20
 i20:=by kernel_rfl
 t21:=Tryz.underlying21
 a21:=Tryz.isAgg21
 z21:=Tryz.sizeOf21
 v21:=Tryz.zeroValue21
 i21:=by kernel_rfl
 t22:=Tryz.underlying24
 a22:=Tryz.isAgg24
 z22:=Tryz.sizeOf24
 v22:=Tryz.zeroValue24
 i22:=by kernel_rfl
 t24:=Tryz.underlying93
 a24:=Tryz.isAgg93
 z24:=Tryz.sizeOf93
 v24:=Tryz.zeroValue93
 i24:=by kernel_rfl
 t25:=Tryz.underlying162
 a25:=Tryz.isAgg162
 z25:=Tryz.sizeOf162
 v25:=Tryz.zeroValue162
 i25:=by kernel_rfl
 t34:=Tryz.underlying183
 a34:=Tryz.isAgg183
 z34:=Tryz.sizeOf183
 v34:=Tryz.zeroValue183
 i34:=by kernel_rfl
 c34:=by kernel_rfl
 t36:=Tryz.underlying179
 a36:=Tryz.isAgg179
 z36:=Tryz.sizeOf179
 v36:=Tryz.zeroValue179
 i36:=by kernel_rfl
 t37:=Tryz.underlying89
 a37:=Tryz.isAgg89
 z37:=Tryz.sizeOf89
 v37:=Tryz.zeroValue89
 i37:=by kernel_rfl
 t39:=Tryz.underlying185
 a39:=Tryz.isAgg185
 z39:=Tryz.sizeOf185
 v39:=Tryz.zeroValue185
 i39:=by kernel_rfl
 t44:=Tryz.underlying197
 a44:=Tryz.isAgg197
 z44:=Tryz.sizeOf197
 v44:=Tryz.zeroValue197
 i44:=by kernel_rfl
 t47:=Tryz.underlying134
 a47:=Tryz.isAgg134
 z47:=Tryz.sizeOf134
 v47:=Tryz.zeroValue134
 i47:=by kernel_rfl
 t48:=Tryz.underlying201
 a48:=Tryz.isAgg201
 z48:=Tryz.sizeOf201
 v48:=Tryz.zeroValue201
 i48:=by kernel_rfl
 t50:=Tryz.underlying203
 a50:=Tryz.isAgg203
 z50:=Tryz.sizeOf203
 v50:=Tryz.zeroValue203
 i50:=by kernel_rfl
 t52:=Tryz.underlying164
 a52:=Tryz.isAgg164
 z52:=Tryz.sizeOf164
 v52:=Tryz.zeroValue164
 i52:=by kernel_rfl
 t55:=Tryz.underlying167
 a55:=Tryz.isAgg167
 z55:=Tryz.sizeOf167
 v55:=Tryz.zeroValue167
 i55:=by kernel_rfl
 t59:=Tryz.underlying177
 a59:=Tryz.isAgg177
 z59:=Tryz.sizeOf177
 v59:=Tryz.zeroValue177
 i59:=by kernel_rfl
 t60:=Tryz.underlying51
 a60:=Tryz.isAgg51
 z60:=Tryz.sizeOf51
 v60:=Tryz.zeroValue51
 i60:=by kernel_rfl
 t61:=Tryz.underlying178
 a61:=Tryz.isAgg178
 z61:=Tryz.sizeOf178
 t65:=Tryz.underlying199
 a65:=Tryz.isAgg199
 z65:=Tryz.sizeOf199
 v65:=Tryz.zeroValue199
 i65:=by kernel_rfl
 t66:=Tryz.underlying200
 a66:=Tryz.isAgg200
 z66:=Tryz.sizeOf200
 v66:=Tryz.zeroValue200
 i66:=by kernel_rfl
 t67:=Tryz.underlying99
 a67:=Tryz.isAgg99
 z67:=Tryz.sizeOf99
 v67:=Tryz.zeroValue99
 i67:=by kernel_rfl
 g0:=by kernel_rfl
 m0:=by kernel_rfl
 g1:=by kernel_rfl
 m1:=by kernel_rfl
 g2:=by kernel_rfl
 m2:=by kernel_rfl
 g3:=by kernel_rfl
 m3:=by kernel_rfl
 g4:=by kernel_rfl
 m4:=by kernel_rfl}
open Go.RowKit in
theorem Tryz.strconv_ParseUint_10_at64_ok (s:ByteArray) (hmax:s.size≤9223372036854775806) (u:Nat) (h:Lib.parseUintB 64 s.data.toList= .ok u) (w:World):
  Calls Tryz.prog 103 #[.string s,.int .i64 10,.int .i64 64] w fun e w'=>e= .returned (.tuple #[.int .u64 u,.nilIface])∧(w'=w∨w'=Lib.bytesWorld w 5 s):=Any.strconv_ParseUint_10_at64_ok Tryz.laysPu14 s hmax u h w
open Go.RowKit in
theorem Tryz.strconv_ParseUint_10_at64_syntax (s:ByteArray) (hlim:s.size≤281474976710656) (h:Lib.parseUintB 64 s.data.toList=Go.Lib.NumEnd.syntax) (ev:Value) (w:World) (hv:w.cell? ⟨4,0,none⟩=some ev) (hev:ev= .nilIface∨∃te pe,ev= .iface te pe):
  Calls Tryz.prog 103 #[.string s,.int .i64 10,.int .i64 64] w fun e w'=>∃N,e= .returned (.tuple #[.int .u64 0,.iface 185 (.pointer (some ⟨N,0,none⟩))])∧w.heap.size≤N∧w'.heap[N]?=some (.cells #[.string ⟨#[80,97,114,115,101,85,105,110,116]⟩,.string s,ev] 197 (0,0))∧Below w.heap.size w w':=Any.strconv_ParseUint_10_at64_syntax Tryz.laysPu14 s hlim h ev w hv hev
open Go.RowKit in
theorem Tryz.strconv_ParseUint_10_at64_range (s:ByteArray) (hlim:s.size≤281474976710656) (h:Lib.parseUintB 64 s.data.toList= .range) (ev:Value) (w:World) (hv:w.cell? ⟨5,0,none⟩=some ev) (hev:ev= .nilIface∨∃te pe,ev= .iface te pe):
  Calls Tryz.prog 103 #[.string s,.int .i64 10,.int .i64 64] w fun e w'=>∃N,e= .returned (.tuple #[.int .u64 18446744073709551615,.iface 185 (.pointer (some ⟨N,0,none⟩))])∧w.heap.size≤N∧w'.heap[N]?=some (.cells #[.string ⟨#[80,97,114,115,101,85,105,110,116]⟩,.string s,ev] 197 (0,0))∧Below w.heap.size w w':=Any.strconv_ParseUint_10_at64_range Tryz.laysPu14 s hlim h ev w hv hev
def Tryz.laysGw15_ren:Go.Shelf.Ren:=⟨fun|15=>114|20=>127|n=>n,fun|9=>9|23=>170|3=>3|4=>4|0=>0|21=>21|n=>n,fun|n=>n⟩
theorem Tryz.laysGw15:Go.Proofs.LaysGw.n15 Tryz.prog Tryz.laysGw15_ren:={
 mixed:=by kernel_rfl
 f15:=Tryz.func114.trans (congrArg some (by kernel_rfl))
 f20:=Tryz.func127.trans (congrArg some (by kernel_rfl))
 t0:=Tryz.underlying0
 a0:=Tryz.isAgg0
 z0:=Tryz.sizeOf0
 v0:=Tryz.zeroValue0
 i0:=by kernel_rfl
 t3:=Tryz.underlying3
 a3:=Tryz.isAgg3
 z3:=Tryz.sizeOf3
 v3:=Tryz.zeroValue3
 i3:=by kernel_rfl
 t4:=Tryz.underlying4
 a4:=Tryz.isAgg4
 z4:=Tryz.sizeOf4
 v4:=Tryz.zeroValue4
 i4:=by kernel_rfl
 t9:=Tryz.underlying9
 a9:=Tryz.isAgg9
 z9:=Tryz.sizeOf9
 v9:=Tryz.zeroValue9
 i9:=by kernel_rfl
 t21:=Tryz.underlying21
 a21:=Tryz.isAgg21
 z21:=Tryz.sizeOf21
 v21:=Tryz.zeroValue21
 i21:=by kernel_rfl
 t23:=Tryz.underlying170
 a23:=Tryz.isAgg170
 z23:=Tryz.sizeOf170
 v23:=Tryz.zeroValue170
 i23:=by kernel_rfl}
open Go.RowKit Go.Lib in
theorem Tryz.strings_IndexFunc (g:Nat) (lb:Array Value) (eg:∀args w,(callFunc g args).run Tryz.prog w= .ok (.enter g args) w) (p:Nat→Bool) (s:ByteArray) (w:World) (hp:PredAt Tryz.prog g lb encR p w):
  Calls Tryz.prog 114 #[.string s,.func (.func g) #[] lb] w fun e w'=>e= .returned (.int .i64 (Lib.idxFunc p true s))∧Below w.heap.size w w':=Any.strings_IndexFunc Tryz.laysGw15 g lb eg p s w hp
def Tryz.lays221_ren:Go.Shelf.Ren:=⟨fun|221=>76|268=>100|138=>101|143=>102|195=>115|197=>116|218=>117|219=>118|260=>128|217=>74|225=>129|224=>130|267=>131|266=>99|314=>140|n=>n,fun|9=>9|3=>3|31=>56|4=>4|0=>0|105=>172|21=>21|5=>5|46=>179|119=>189|139=>192|138=>191|146=>193|51=>51|n=>n,fun|1=>0|3=>2|4=>3|n=>n⟩
def Tryz.lays146_ren:Go.Shelf.Ren:=⟨fun|146=>47|221=>76|268=>100|138=>101|143=>102|195=>115|197=>116|218=>117|219=>118|260=>128|217=>74|225=>129|224=>130|267=>131|266=>99|314=>140|n=>n,fun|9=>9|31=>56|3=>3|4=>4|0=>0|105=>172|21=>21|5=>5|46=>179|119=>189|139=>192|138=>191|146=>193|51=>51|n=>n,fun|1=>0|3=>2|4=>3|n=>n⟩
theorem Tryz.lays146:Go.Proofs.Lays.n146 Tryz.prog Tryz.lays146_ren:={
 mixed:=by kernel_rfl
 f138:=Tryz.func101.trans (congrArg some (by kernel_rfl))
 f143:=Tryz.func102.trans (congrArg some (by kernel_rfl))
 f146:=Tryz.func47.trans (congrArg some (by kernel_rfl))
 f195:=Tryz.func115.trans (congrArg some (by kernel_rfl))
 f197:=Tryz.func116.trans (congrArg some (by kernel_rfl))
 f217:=Tryz.func74.trans (congrArg some (by kernel_rfl))
 f218:=Tryz.func117.trans (congrArg some (by kernel_rfl))
 f219:=Tryz.func118.trans (congrArg some (by kernel_rfl))
 f221:=Tryz.func76.trans (congrArg some (by kernel_rfl))
 f224:=Tryz.func130.trans (congrArg some (by kernel_rfl))
 f225:=Tryz.func129.trans (congrArg some (by kernel_rfl))
 f260:=Tryz.func128.trans (congrArg some (by kernel_rfl))
 f266:=Tryz.func99.trans (congrArg some (by kernel_rfl))
 f267:=Tryz.func131.trans (congrArg some (by kernel_rfl))
 f268:=Tryz.func100.trans (congrArg some (by kernel_rfl))
 f314:=Tryz.func140.trans (congrArg some (by kernel_rfl))
 t0:=Tryz.underlying0
 a0:=Tryz.isAgg0
 z0:=Tryz.sizeOf0
 v0:=Tryz.zeroValue0
 t3:=Tryz.underlying3
 a3:=Tryz.isAgg3
 z3:=Tryz.sizeOf3
 v3:=Tryz.zeroValue3
 t4:=Tryz.underlying4
 a4:=Tryz.isAgg4
 z4:=Tryz.sizeOf4
 v4:=Tryz.zeroValue4
 t5:=Tryz.underlying5
 a5:=Tryz.isAgg5
 z5:=Tryz.sizeOf5
 v5:=Tryz.zeroValue5
 t9:=Tryz.underlying9
 a9:=Tryz.isAgg9
 z9:=Tryz.sizeOf9
 v9:=Tryz.zeroValue9
 t21:=Tryz.underlying21
 a21:=Tryz.isAgg21
 z21:=Tryz.sizeOf21
 v21:=Tryz.zeroValue21
 t31:=Tryz.underlying56
 a31:=Tryz.isAgg56
 z31:=Tryz.sizeOf56
 v31:=Tryz.zeroValue56
 t46:=Tryz.underlying179
 a46:=Tryz.isAgg179
 z46:=Tryz.sizeOf179
 v46:=Tryz.zeroValue179
 t51:=Tryz.underlying51
 a51:=Tryz.isAgg51
 z51:=Tryz.sizeOf51
 v51:=Tryz.zeroValue51
 t105:=Tryz.underlying172
 a105:=Tryz.isAgg172
 z105:=Tryz.sizeOf172
 v105:=Tryz.zeroValue172
 t119:=Tryz.underlying189
 a119:=Tryz.isAgg189
 z119:=Tryz.sizeOf189
 t138:=Tryz.underlying191
 a138:=Tryz.isAgg191
 z138:=Tryz.sizeOf191
 v138:=Tryz.zeroValue191
 t139:=Tryz.underlying192
 a139:=Tryz.isAgg192
 z139:=Tryz.sizeOf192
 v139:=Tryz.zeroValue192
 t146:=Tryz.underlying193
 a146:=Tryz.isAgg193
 z146:=Tryz.sizeOf193
 v146:=Tryz.zeroValue193
 g1:=by kernel_rfl
 g3:=by kernel_rfl
 g4:=by kernel_rfl}
open Go.RowKit Go.Lib in
theorem Tryz.strings_Split (s sep:ByteArray) (m:Int) (w:World) (hs:s.size<4294967281) (hm:w.cell? ⟨0,0,none⟩=some (.int .i64 m)) (h1:1≤sep.size):
  Calls Tryz.prog 47 #[.string s,.string sep] w fun e w'=>
   e= .returned (.slice (some ⟨w.heap.size,0,none⟩) (Lib.countB s sep+1) (Lib.countB s sep+1))∧w'=w.alloc (.cells ((Lib.splitB sep 0 (Lib.countB s sep) s).map Value.string).toArray 9):=Any.strings_Split Tryz.lays146 (by kernel_rfl) s sep m w hs hm h1
end Go.Proofs
namespace Go.Txt
open Go
def wds (b:UInt8):List UInt8→List (List UInt8)
 |[]=>[[]]
 |x::r=>if x=b then []::wds b r else match wds b r with
  |w::ws=>(x::w)::ws
  |[]=>[[x]]
theorem wds_ne (b:UInt8):∀s,wds b s≠[]
 |[]=>by simp[wds]
 |x::r=>by
  unfold wds
  split
  ·simp
  ·split<;>simp
theorem wds_none {b:UInt8}:∀{s:List UInt8},b∉s→wds b s=[s]
 |[],_=>rfl
 |x::r,h=>by
  have h1:x≠b:=fun e=>h (by rw[e];simp)
  rw[wds,if_neg h1,wds_none (s:=r) (fun e=>h (List.mem_cons_of_mem _ e))]
theorem wds_cut {b:UInt8}:∀{u v:List UInt8},b∉u→wds b (u++b::v)=u::wds b v
 |[],v,_=>by rw[aaK,wds,if_pos rfl]
 |x::u,v,h=>by
  have h1:x≠b:=fun e=>h (by rw[e];simp)
  rw[aaJ,wds,if_neg h1,wds_cut (fun e=>h (List.mem_cons_of_mem _ e))]
theorem split_eq (b:UInt8):∀(n:Nat) (s:List UInt8),s.length≤n→Lib.split s [b]=wds b s
 |0,s,h=>by
  obtain rfl:s=[]:=aaX (by omega)
  rfl
 |n+1,s,h=>by
  rcases Lib.index_spec s [b] with⟨h1,h2⟩|⟨i,h1,h2,h3,h4⟩
  ·have hb:b∉s:=fun hm=>by
    obtain⟨k,hk⟩:=List.mem_iff_getElem?.1 hm
    rw[Lib.index_one]at h1
    exact Lib.indexByte_none h1 k hk
   rw[wds_none hb,Lib.split,Lib.count_miss h1]
   rfl
  ·rw[Lib.index_one]at h1
   obtain⟨h5,h6⟩:=Lib.indexByte_some h1
   have hs:s=s.take i++b::s.drop (i+1):=by
    have hi:=(List.getElem?_eq_some_iff.1 h5).1
    have e:s.drop i=b::s.drop (i+1):=by rw[List.drop_eq_getElem_cons hi,(List.getElem?_eq_some_iff.1 h5).2]
    rw[←e,List.take_append_drop]
   have hb:b∉s.take i:=fun hm=>by
    obtain⟨k,hk⟩:=List.mem_iff_getElem?.1 hm
    have hlt:k<i:=by
     have:=(List.getElem?_eq_some_iff.1 hk).1
     simp at this;omega
    rw[aaT hlt]at hk
    exact h6 k hlt hk
   have h1':Lib.index s [b]=(i:Int):=by rw[Lib.index_one];exact h1
   have hc:=Lib.count_hit (s:=s) (sub:=[b]) (i:=i) (by simp) h1'
   have e2:wds b s=s.take i::wds b (s.drop (i+1)):=by
    conv=>lhs;rw[hs]
    exact wds_cut hb
   rw[e2,Lib.split,hc,Nat.add_comm 1,Lib.splitK,if_neg (by rw[h1'];simp),h1']
   have e3:=split_eq b n (s.drop (i+1)) (by
    have hi:=(List.getElem?_eq_some_iff.1 h5).1
    simp;omega)
   rw[Lib.split]at e3
   simp only[List.length_singleton,Int.toNat_natCast,Nat.add_zero]
   rw[e3]
def rn:Nat→List UInt8→Option Nat
 |acc,[]=>some acc
 |acc,c::r=>if 48≤c.toNat∧c.toNat≤57 then (if (18446744073709551615 - (c.toNat - 48)) / 10<acc then none else rn (10*acc+(c.toNat - 48)) r) else none
def WU:Lib.NumEnd Nat→Option Nat
 |.ok u=>some u
 |_=>none
theorem Ll:∀(l:List UInt8) (acc:Nat),rn acc l=WU (Lib.parseUint10 acc l)
 |[],acc=>rfl
 |c::r,acc=>by
  unfold rn Lib.parseUint10
  by_cases h:48≤c.toNat∧c.toNat≤57
  ·rw[if_pos h,if_pos h]
   by_cases h1:1844674407370955162≤acc
   ·rw[if_pos (by omega),if_pos h1];rfl
   ·rw[if_neg h1]
    by_cases h2:18446744073709551616≤acc*10+(c.toNat - 48)
    ·rw[if_pos h2,if_pos (by omega)];rfl
    ·rw[if_neg h2,if_neg (by omega),Ll r,Nat.mul_comm]
  ·rw[if_neg h,if_neg h];rfl
theorem QN {a d:Nat} (ha:0<a) (hd:d<10):Lib.decDigits (a*10+d)=Lib.decDigits a++[aaY (48+d)]:=by
 rw[Lib.decDigits,dif_neg (by omega),show(a*10+d) / 10=a by omega,show(a*10+d) % 10=d by omega]
theorem FM {c:UInt8} (h:48≤c.toNat):aaY (48+(c.toNat - 48))=c:=by
 rw[show 48+(c.toNat - 48)=c.toNat by omega];exact UInt8.ofNat_toNat
theorem DW:∀(r:List UInt8) (acc u:Nat),0<acc→Lib.parseUint10 acc r= .ok u→Lib.decDigits u=Lib.decDigits acc++r∧0<u
 |[],acc,u,ha,h=>by
  simp only[Lib.parseUint10]at h
  injection h with h
  subst h
  simp[ha]
 |c::r,acc,u,ha,h=>by
  unfold Lib.parseUint10 at h
  split at h
  ·rename_i hc
   split at h
   ·cases h
   ·split at h
    ·cases h
    ·obtain⟨e,h2⟩:=DW r _ u (by omega) h
     rw[e,QN ha (by omega),FM hc.1,List.append_assoc]
     exact⟨rfl,h2⟩
  ·cases h
theorem Ij:∀(u:Nat),0<u→∃c r,Lib.decDigits u=c::r∧c≠48
 |u,hu=>by
  by_cases h:u<10
  ·refine⟨aaY (48+u),[],Lib.decDigits_one h,fun e=> ?_⟩
   have:=congrArg UInt8.toNat e
   simp at this
   omega
  ·obtain⟨c,r,e,hc⟩:=Ij (u / 10) (by omega)
   rw[Lib.decDigits,dif_neg h,e]
   exact⟨c,r++_,rfl,hc⟩
theorem RR {s:List UInt8} {u:Nat} (h:Lib.parseMag s= .ok u):Lib.decDigits u=s↔(1<s.length→s[0]?≠some 48):=by
 unfold Lib.parseMag at h
 split at h
 ·cases h
 rename_i hne
 cases s with
 |nil=>exact absurd rfl hne
 |cons c r=>
  unfold Lib.parseUint10 at h
  split at h
  case isFalse=>cases h
  rename_i hc
  rw[if_neg (by omega),if_neg (by omega),Nat.zero_mul,Nat.zero_add]at h
  by_cases h0:c=48
  ·subst h0
   cases r with
   |nil=>
    simp only[Lib.parseUint10]at h
    injection h with h
    subst h
    simp only[List.length_singleton,Nat.lt_irrefl,false_implies,iff_true]
    exact Lib.decDigits_one (by decide)
   |cons d r=>
    refine⟨fun e=> ?_,fun e=>absurd (e (by simp)) (by simp)⟩
    rcases Nat.eq_zero_or_pos u with hz|hz
    ·subst hz
     have:=congrArg List.length e
     rw[Lib.decDigits_one (by decide)]at this
     simp at this
    ·obtain⟨c2,r2,e2,h2⟩:=Ij u hz
     rw[e2]at e
     injection e with e3 _
     exact absurd e3 h2
  ·have hp:0<c.toNat - 48:=by
    rcases Nat.lt_or_ge 48 c.toNat with q|q
    ·omega
    ·exact absurd (UInt8.toNat_inj.1 (show c.toNat=(48:UInt8).toNat by have:(48:UInt8).toNat=48:=rfl;omega)) h0
   obtain⟨e,_⟩:=DW r _ u hp h
   rw[e,Lib.decDigits_one (by omega),FM hc.1]
   simp[h0]
theorem JW:∀(k u:Nat),u<10 ^ (k+1)→Lib.nDigits u≤k+1
 |0,u,h=>by rw[Lib.nDigits_small (by simpa using h)];omega
 |k+1,u,h=>by
  by_cases h1:u<10
  ·rw[Lib.nDigits_small h1];omega
  ·rw[Lib.nDigits_big h1]
   have:=JW k (u / 10) (by rw[Nat.pow_succ]at h;omega)
   omega
def ss (s:List UInt8):Option Nat:=if s=[]∨20<s.length∨(1<s.length∧s[0]?=some 48) then none else rn 0 s
theorem PX {s:List UInt8} {u:Nat}:ss s=some u↔Lib.parseMag s= .ok u∧Lib.decDigits u=s:=by
 unfold ss
 constructor
 ·intro h
  split at h
  ·cases h
  ·rename_i hn
   rw[not_or,not_or]at hn
   obtain⟨h1,h2,h3⟩:=hn
   rw[Ll]at h
   have hp:Lib.parseMag s= .ok u:=by
    rw[Lib.parseMag,if_neg h1]
    cases e:Lib.parseUint10 0 s with
    |ok v=>rw[e]at h;simp only[WU,aaV]at h;rw[h]
    |_=>rw[e]at h;cases h
   exact⟨hp,(RR hp).2 (fun q e=>h3 ⟨q,e⟩)⟩
 ·rintro⟨h,e⟩
  have hlt:=Lib.parseMag_lt h
  have hlen:s.length≤20:=by
   rw[←e,Lib.decDigits_length]
   exact JW 19 u (by omega)
  have hne:s≠[]:=by
   intro q
   rw[q]at h
   cases h
  have hc:=(RR h).1 e
  rw[if_neg (by
   rintro(q|q|⟨q1,q2⟩)
   ·exact hne q
   ·omega
   ·exact hc q1 q2),Ll]
  rw[Lib.parseMag,if_neg hne]at h
  rw[h];rfl
theorem CC:∀(l:List UInt8) (acc v:Nat) (c:UInt8),Lib.parseUint10 acc l= .ok v→48≤c.toNat→c.toNat≤57→v*10+(c.toNat - 48)<18446744073709551616→Lib.parseUint10 acc (l++[c])= .ok (v*10+(c.toNat - 48))
 |[],acc,v,c,h,h1,h2,h3=>by
  simp only[Lib.parseUint10]at h
  injection h with h
  subst h
  rw[aaK,Lib.parseUint10,if_pos ⟨h1,h2⟩,if_neg (by omega),if_neg (by omega),Lib.parseUint10]
 |d::r,acc,v,c,h,h1,h2,h3=>by
  rw[aaJ]
  simp only[Lib.parseUint10]at h ⊢
  split at h
  ·rename_i hc
   rw[if_pos hc]
   split at h
   ·cases h
   ·rename_i hn
    rw[if_neg hn]
    split at h
    ·cases h
    ·rename_i hm
     rw[if_neg hm]
     exact CC r _ v c h h1 h2 h3
  ·cases h
theorem nH {d:Nat} (h:d<10):(aaY (48+d)).toNat=48+d:=by
 simp;omega
theorem Np (u:Nat) (h:u<18446744073709551616):Lib.parseUint10 0 (Lib.decDigits u)= .ok u:=by
 by_cases h1:u<10
 ·rw[Lib.decDigits_one h1]
  have:=CC [] 0 0 (aaY (48+u)) rfl (by rw[nH h1];omega) (by rw[nH h1];omega) (by rw[nH h1];omega)
  rw[aaK]at this
  rw[this,nH h1]
  congr 1;omega
 ·have ih:=Np (u / 10) (by omega)
  rw[Lib.decDigits,dif_neg h1]
  have e:=nH (d:=u % 10) (by omega)
  rw[CC _ _ _ _ ih (by rw[e];omega) (by rw[e];omega) (by rw[e];omega),e]
  congr 1;omega
termination_by u
decreasing_by omega
theorem Ow (u:Nat):Lib.decDigits u≠[]:=by
 rw[Lib.decDigits]
 split<;>simp
theorem Kt (u:Nat):∀c∈Lib.decDigits u,48≤c.toNat∧c.toNat≤57:=by
 intro c hc
 by_cases h1:u<10
 ·rw[Lib.decDigits_one h1,List.mem_singleton]at hc
  rw[hc,nH h1];omega
 ·rw[Lib.decDigits,dif_neg h1]at hc
  rcases List.mem_append.1 hc with hc|hc
  ·exact Kt (u / 10) c hc
  ·rw[List.mem_singleton]at hc
   rw[hc,nH (d:=u % 10) (by omega)];omega
termination_by u
decreasing_by omega
theorem zO {z:Int} (h0:0≤z) (h1:z≤18446744073709551615):Lib.parseMag (Lib.itoa z)= .ok z.toNat:=by
 obtain⟨u,rfl⟩:∃u:Nat,z=u:=⟨z.toNat,by omega⟩
 rw[Lib.itoa_nonneg,Lib.parseMag,if_neg (Ow u),Np u (by omega)]
 rfl
def cb (m:Int) (s:List UInt8) (z:Int):Prop:=0≤z∧z≤m∧s=Lib.itoa z
theorem CR {m z:Int} {s:List UInt8} (hm:m≤18446744073709551615) (h:cb m s z):Lib.parseMag s= .ok z.toNat:=by
 obtain⟨h0,h1,rfl⟩:=h
 exact zO h0 (by omega)
theorem NF {m:Int} {s:List UInt8} {u:Nat} (hm:m≤18446744073709551615) (h:Lib.parseMag s= .ok u):(cb m s u↔(u:Int)≤m∧Lib.itoa u=s)∧((∃z,cb m s z)→cb m s u):=by
 refine⟨⟨fun q=>⟨q.2.1,q.2.2.symm⟩,fun q=>⟨by omega,q.1,q.2.symm⟩⟩,?_⟩
 rintro⟨z,hz⟩
 have e:=CR hm hz
 rw[h]at e
 injection e with e
 have e2:z=(u:Int):=by have:=hz.1;omega
 rw[←e2];exact hz
theorem PW {m z:Int} {s:List UInt8} (hm:m≤18446744073709551615) (h:∀u,¬Lib.parseMag s= .ok u):¬cb m s z:=fun q=>h _ (CR hm q)
theorem JP {m z:Int}:¬cb m [] z:=fun q=>by
 obtain⟨h0,h1,h⟩:=q
 obtain⟨u,rfl⟩:∃u:Nat,z=u:=⟨z.toNat,by omega⟩
 rw[Lib.itoa_nonneg]at h
 exact Ow u h.symm
theorem Bi {m:Int} {s:List UInt8} (hm:m≤18446744073709551615) {z:Int}:cb m s z↔z≤m∧0≤z∧ss s=some z.toNat:=by
 rw[PX]
 constructor
 ·intro h
  refine⟨h.2.1,h.1,CR hm h,?_⟩
  obtain⟨h0,h1,rfl⟩:=h
  obtain⟨u,rfl⟩:∃u:Nat,z=u:=⟨z.toNat,by omega⟩
  rw[Lib.itoa_nonneg];rfl
 ·rintro⟨h1,h0,h2,h3⟩
  refine⟨h0,h1,?_⟩
  obtain⟨u,rfl⟩:∃u:Nat,z=u:=⟨z.toNat,by omega⟩
  rw[Lib.itoa_nonneg];exact h3.symm
theorem zQ {a b:Int} (ha:0≤a) (hb:0≤b) (ha1:a≤18446744073709551615) (hb1:b≤18446744073709551615) (h:Lib.itoa a=Lib.itoa b):a=b:=by
 have e:=zO ha ha1
 rw[h,zO hb hb1]at e
 injection e with e
 omega
theorem pF {m m' a b:Int} {s:List UInt8} (hm:m≤18446744073709551615) (hm':m'≤18446744073709551615) (h:cb m s a) (k:cb m' s b):a=b:=by
 obtain⟨h0,h1,h2⟩:=h
 obtain⟨k0,k1,k2⟩:=k
 exact zQ h0 k0 (by omega) (by omega) (h2.symm.trans k2)
theorem Ej {z:Int} (h:0≤z) {b:UInt8} (hb:b=32∨b=58∨b=10):b∉Lib.itoa z:=by
 obtain⟨u,rfl⟩:∃u:Nat,z=u:=⟨z.toNat,by omega⟩
 rw[Lib.itoa_nonneg]
 intro q
 have e:=Kt u b q
 rcases hb with rfl|rfl|rfl
 ·exact absurd e (by decide)
 ·exact absurd e (by decide)
 ·exact absurd e (by decide)
theorem FA {b:UInt8}:∀(ws:List (List UInt8)) (w:List UInt8),b∉w→(∀x∈ws,b∉x)→wds b (w++Lib.joinTail [b] ws)=w::ws
 |[],w,h,_=>by
  have e:w++Lib.joinTail [b] []=w:=by simp[Lib.joinTail]
  rw[e];exact wds_none h
 |x::ws,w,h,h2=>by
  have e:w++Lib.joinTail [b] (x::ws)=w++b::(x++Lib.joinTail [b] ws):=by simp[Lib.joinTail]
  rw[e,wds_cut h,FA ws x (h2 x List.mem_cons_self) fun y hy=>h2 y (List.mem_cons_of_mem _ hy)]
theorem OI {b:UInt8} {ws:List (List UInt8)} (hn:ws≠[]) (h:∀x∈ws,b∉x):wds b (Lib.join ws [b])=ws:=by
 cases ws with
 |nil=>exact absurd rfl hn
 |cons w ws=>
  rw[Lib.join_cons]
  exact FA ws w (h w List.mem_cons_self) fun y hy=>h y (List.mem_cons_of_mem _ hy)
theorem Hi {b:UInt8}:∀s:List UInt8,Lib.join (wds b s) [b]=s
 |[]=>by simp[wds,Lib.join,List.intercalate]
 |x::r=>by
  have ih:=Hi (b:=b) r
  unfold wds
  split
  ·rename_i hx
   rw[Lib.join_cons,aaK]
   cases e:wds b r with
   |nil=>exact absurd e (wds_ne b r)
   |cons w ws=>
    rw[e,Lib.join_cons]at ih
    rw[show Lib.joinTail [b] (w::ws)=b::(w++Lib.joinTail [b] ws) by simp[Lib.joinTail],ih,hx]
  ·split
   ·rename_i w ws e
    rw[e,Lib.join_cons]at ih
    rw[Lib.join_cons,aaJ,ih]
   ·rename_i e
    exact absurd e (wds_ne b r)
end Go.Txt
namespace Go.Proofs.YtacomabmhnodlaaGreatDoor
open Go Go.RowKit Go.Eng Go.Sy
set_option linter.unusedVariables false
set_option linter.unnecessarySimpa false
set_option maxHeartbeats 4000000
set_option maxRecDepth 100000
theorem Rg:isAg Tryz.prog 88=some false:=by kernel_rfl
theorem IG:isAg Tryz.prog 89=some false:=by kernel_rfl
theorem Zo:la Tryz.prog 5 1 1=true:=by kernel_rfl
theorem mixed:Tryz.prog.follows .mixedOrders=true:=by kernel_rfl
theorem xO:oU Tryz.prog 91 0=some 0:=by kernel_rfl
theorem pE:oU Tryz.prog 91 1=some 1:=by kernel_rfl
theorem aag:wn Tryz.prog 59=some (false,false):=by kernel_rfl
theorem Wg:(Tryz.prog.info? 91).isSome=true:=by kernel_rfl
theorem ZY:szOf Tryz.prog 88=some 1:=by kernel_rfl
theorem ZX:szOf Tryz.prog 89=some 1:=by kernel_rfl
theorem VZ:szOf Tryz.prog 91=some 2:=by kernel_rfl
theorem Uy:Tryz.prog.underlying 134=some (.pointer 5):=by kernel_rfl
theorem Na:Tryz.prog.underlying 152=some .unsafePointer:=by kernel_rfl
theorem KU:Tryz.prog.underlying 88=some (.pointer 91):=by kernel_rfl
theorem KT:Tryz.prog.underlying 89=some (.slice 5):=by kernel_rfl
theorem Ux:Tryz.prog.underlying 9=some .string:=by kernel_rfl
theorem zv5:(Tryz.prog.info? 5).bind (fun i=>i.zero)=some (.int .u8 0):=by kernel_rfl
abbrev IM (T:Nat):Prop:=liesAt Tryz.prog Tryz.prog.depth T (2 / Tryz.prog.cellsOf T) 0 91 1=true
theorem YF (l:List UInt8) {ao:Option Addr} {cap:Nat} {c:aA} (r:Row 5 1 ao l.length cap (l.map u8) c) (h:l=[]→ao=none):(l=[]∧ao=none∧cap=0)∨∃g,ao=some ⟨g,0,none⟩∧cap≠0∧l≠[]:=by
 rcases r.form with⟨h1,h2,h3,_⟩|⟨g,cur,h1,_,h2,_⟩
 ·exact .inl ⟨aaX h2,h1,h3⟩
 ·have hne:l≠[]:=fun e=>by rw[h e]at h1;cases h1
  have:0<l.length:=List.length_pos_iff.2 hne
  exact .inr ⟨g,h1,by omega,hne⟩
theorem Mu {b_T b:Nat} {b_l:List UInt8} {b_k:aA} {G:GS} {w:World} {F:List aA} (h_b_T:IM b_T) (h_b:Cg b_T b b_l b_k) (h:Holds G w (b_k::F)):
  Calls Tryz.prog 59 #[.pointer (some ⟨b,0,none⟩)] w (Mz G F fun G v c1=>v= .tuple #[]∧BuildS b_T b (b_l) c1):=by
 obtain⟨p,ao,cap,cr,hp,r,rfl⟩:=h_b
 refine enter (N:=20) (L:=[(0,.pointer (some ⟨b,0,none⟩))]) rfl Tryz.func59 rfl rfl rfl (fun a0 s0=> ?_)
 rcases hp with rfl|rfl
 ·
  have h:Holds _ _ ([(b,.cells #[.pointer none,.slice ao b_l.length cap] b_T (0,0))]::cr::F):=h.split
  refine wp_seq ?_
  refine wp_region_lit ?_
  refine cV s0 rfl (fun _ k=>gf (s0.ev rfl) k) (fun a1 s2=> ?_)
  refine cV s2 rfl (fun _ k=>oc (s2.ev rfl) rfl k) (fun a3 s4=> ?_)
  refine cV s4 rfl (fun _ k=>ek (s4.ev rfl) xO k) (fun a5 s6=> ?_)
  refine cV s6 rfl (fun _ k=>iB (s6.ev rfl) Rg ((h.rowI 0 0 (cs:=[.pointer none]) (o:=0) rfl rfl rfl) 0 _ rfl) k) (fun a7 s8=> ?_)
  refine cV s8 rfl (fun _ k=>Ry (s8.ev rfl) (s8.ev rfl) (z:=.bool true) (by kernel_rfl) k) (fun a9 s10=> ?_)
  refine wpList_nil ?_
  refine fV ?_
  refine YQ s10 rfl rfl ?_
  refine wp_region_lit ?_
  refine cV s10 rfl (fun _ k=>gf (s10.ev rfl) k) (fun a12 s13=> ?_)
  refine cV s13 rfl (fun _ k=>gf (s13.ev rfl) k) (fun a14 s15=> ?_)
  refine cV s15 rfl (fun _ k=>LG (s15.ev rfl) KU Na VZ rfl (h.shapeI 0 0 rfl rfl) rfl k) (fun a16 s17=> ?_)
  refine cV s17 rfl (fun _ k=>LI (s17.ev rfl) Tryz.func88 (by kernel_rfl) (by kernel_rfl) (by kernel_rfl) (by kernel_rfl) k) (fun a18 s19=> ?_)
  refine cV s19 rfl (fun _ k=>Gv (s19.ev rfl) Na KU Wg (h.shapeI 0 0 rfl rfl) h_b_T k) (fun a20 s21=> ?_)
  refine cV s21 rfl (fun _ k=>oc (s21.ev rfl) rfl k) (fun a22 s23=> ?_)
  refine cV s23 rfl (fun _ k=>ek (s23.ev rfl) xO k) (fun a24 s25=> ?_)
  refine JH s25 rfl rfl ZY rfl h (j:=0) rfl rfl rfl (cl:=[.pointer (some ⟨b,0,none⟩),.slice ao b_l.length cap]) (by kernel_rfl) (fun a26 w28 s27 h29=> ?_)
  have h29:Holds _ _ ([(b,.cells #[.pointer (some ⟨b,0,none⟩),.slice ao b_l.length cap] b_T (0,0))]::cr::F):=h29
  refine wpList_nil ?_
  have h30:Holds _ _ (cr::[(b,.cells #[.pointer (some ⟨b,0,none⟩),.slice ao b_l.length cap] b_T (0,0))]::F):=h29.front 1 rfl
  have h31:Holds _ _ ([(b,.cells #[.pointer (some ⟨b,0,none⟩),.slice ao b_l.length cap] b_T (0,0))]::cr::F):=h30.front 1 rfl
  exact RM s27 rfl ⟨_,_,_,rfl,(GS.Le.refl _),h31.join,rfl,⟨_,_,_,_,rfl,r,rfl⟩⟩
 ·
  have h:Holds _ _ ([(b,.cells #[.pointer (some ⟨b,0,none⟩),.slice ao b_l.length cap] b_T (0,0))]::cr::F):=h.split
  refine wp_seq ?_
  refine wp_region_lit ?_
  refine cV s0 rfl (fun _ k=>gf (s0.ev rfl) k) (fun a32 s33=> ?_)
  refine cV s33 rfl (fun _ k=>oc (s33.ev rfl) rfl k) (fun a34 s35=> ?_)
  refine cV s35 rfl (fun _ k=>ek (s35.ev rfl) xO k) (fun a36 s37=> ?_)
  refine cV s37 rfl (fun _ k=>iB (s37.ev rfl) Rg ((h.rowI 0 0 (cs:=[.pointer (some ⟨b,0,none⟩)]) (o:=0) rfl rfl rfl) 0 _ rfl) k) (fun a38 s39=> ?_)
  refine cV s39 rfl (fun _ k=>Ry (s39.ev rfl) (s39.ev rfl) (z:=.bool false) (by kernel_rfl) k) (fun a40 s41=> ?_)
  refine wpList_nil ?_
  refine fV ?_
  refine Ru s41 rfl rfl ?_
  refine wp_seq ?_
  refine wp_region_lit ?_
  refine cV s41 rfl (fun _ k=>gf (s41.ev rfl) k) (fun a43 s44=> ?_)
  refine cV s44 rfl (fun _ k=>oc (s44.ev rfl) rfl k) (fun a45 s46=> ?_)
  refine cV s46 rfl (fun _ k=>ek (s46.ev rfl) xO k) (fun a47 s48=> ?_)
  refine cV s48 rfl (fun _ k=>iB (s48.ev rfl) Rg ((h.rowI 0 0 (cs:=[.pointer (some ⟨b,0,none⟩)]) (o:=0) rfl rfl rfl) 0 _ rfl) k) (fun a49 s50=> ?_)
  refine cV s50 rfl (fun _ k=>gf (s50.ev rfl) k) (fun a51 s52=> ?_)
  refine cV s52 rfl (fun _ k=>LH (s52.ev rfl) (s52.ev rfl) KU VZ rfl k) (fun a53 s54=> ?_)
  refine wpList_nil ?_
  refine fV ?_
  refine Ru s54 rfl rfl ?_
  refine wp_skip ?_
  have h56:Holds _ _ (cr::[(b,.cells #[.pointer (some ⟨b,0,none⟩),.slice ao b_l.length cap] b_T (0,0))]::F):=h.front 1 rfl
  have h57:Holds _ _ ([(b,.cells #[.pointer (some ⟨b,0,none⟩),.slice ao b_l.length cap] b_T (0,0))]::cr::F):=h56.front 1 rfl
  exact RM s54 rfl ⟨_,_,_,rfl,(GS.Le.refl _),h57.join,rfl,⟨_,_,_,_,rfl,r,rfl⟩⟩
theorem OD {b_T b:Nat} {b_l:List UInt8} {b_k:aA} (t:List UInt8) {G:GS} {w:World} {F:List aA} (h_b_T:IM b_T) (h_b:Cg b_T b b_l b_k) (hl:b_l.length+t.length≤140737488355328) (h:Holds G w (b_k::F)):
  Calls Tryz.prog 31 #[.pointer (some ⟨b,0,none⟩),S t] w (Mz G F fun G v c1=>v= .tuple #[.int .i64 (t.length:Int),.nilIface]∧BuildS b_T b (b_l++t) c1):=by
 refine enter (N:=19) (L:=[(0,.pointer (some ⟨b,0,none⟩)),(1,S t)]) rfl Tryz.func31 rfl rfl rfl (fun a0 s0=> ?_)
 refine wp_seq ?_
 refine wp_region_lit ?_
 refine cV s0 rfl (fun _ k=>jN (s0.ev rfl) k) (fun a1 s2=> ?_)
 refine cV s2 rfl (fun _ k=>jN (s2.ev rfl) k) (fun a3 s4=> ?_)
 refine wpList_nil ?_
 refine fV ?_
 refine wp_seq ?_
 refine wp_region_lit ?_
 refine cV s4 rfl (fun _ k=>gf (s4.ev rfl) k) (fun a5 s6=> ?_)
 refine SO s6 rfl aag rfl (Mu h_b_T h_b h) (fun a7 w9 v14 G11 c16 hs15 h10 hv13 s8=> ?_)
 obtain⟨v14e,hb17⟩:=hv13
 subst v14e
 have hG12:=(GS.Le.refl _).trans hs15
 refine wpList_nil ?_
 refine fV ?_
 refine wp_seq ?_
 refine wp_region_lit ?_
 obtain⟨p18,ao19,cap20,cr21,hp22,r23,rfl⟩:=hb17
 have h25:Holds _ _ ([(b,.cells #[p18,.slice ao19 b_l.length cap20] b_T (0,0))]::cr21::F):=h10.split
 refine cV s8 rfl (fun _ k=>gf (s8.ev rfl) k) (fun a26 s27=> ?_)
 refine cV s27 rfl (fun _ k=>gf (s27.ev rfl) k) (fun a28 s29=> ?_)
 refine cV s29 rfl (fun _ k=>oc (s29.ev rfl) rfl k) (fun a30 s31=> ?_)
 refine cV s31 rfl (fun _ k=>ek (s31.ev rfl) pE k) (fun a32 s33=> ?_)
 refine cV s33 rfl (fun _ k=>iB (s33.ev rfl) IG ((h25.rowI 0 0 (cs:=[.slice ao19 b_l.length cap20]) (o:=1) rfl rfl rfl) 0 _ rfl) k) (fun a34 s35=> ?_)
 refine cV s35 rfl (fun _ k=>gf (s35.ev rfl) k) (fun a36 s37=> ?_)
 have h38:Holds _ _ (cr21::[(b,.cells #[p18,.slice ao19 b_l.length cap20] b_T (0,0))]::F):=h25.front 1 rfl
 refine Nn s37 rfl r23 h38 rfl rfl KT Ux Zo zv5 (by omega) (fun a39 w41 ao43 cap44 c45 s40 r46 h42 hn47=> ?_)
 refine cV s40 rfl (fun _ k=>oc (s40.ev rfl) rfl k) (fun a48 s49=> ?_)
 refine cV s49 rfl (fun _ k=>ek (s49.ev rfl) pE k) (fun a50 s51=> ?_)
 have h52:Holds _ _ ([(b,.cells #[p18,.slice ao19 b_l.length cap20] b_T (0,0))]::c45::F):=h42.front 1 rfl
 refine JH s51 rfl rfl ZX rfl h52 (j:=0) rfl rfl rfl (cl:=[p18,.slice ao43 (b_l.length+t.length) cap44]) (by kernel_rfl) (fun a53 w55 s54 h56=> ?_)
 have h56:Holds _ _ ([(b,.cells #[p18,.slice ao43 (b_l.length+t.length) cap44] b_T (0,0))]::c45::F):=h56
 refine wpList_nil ?_
 refine fV ?_
 refine wp_seq ?_
 refine wp_region_lit ?_
 refine cV s54 rfl (fun _ k=>gf (s54.ev rfl) k) (fun a57 s58=> ?_)
 refine cV s58 rfl (fun _ k=>WY (s58.ev rfl) Ux k) (fun a59 s60=> ?_)
 refine cV s60 rfl (fun _ k=>jN (s60.ev rfl) k) (fun a61 s62=> ?_)
 refine cV s62 rfl (fun _ k=>jN (s62.ev rfl) k) (fun a63 s64=> ?_)
 refine wpList_nil ?_
 refine fV ?_
 refine wp_ret ?_
 have h65:Holds _ _ (c45::[(b,.cells #[p18,.slice ao43 (b_l.length+t.length) cap44] b_T (0,0))]::F):=h56.front 1 rfl
 have h66:Holds _ _ ([(b,.cells #[p18,.slice ao43 (b_l.length+t.length) cap44] b_T (0,0))]::c45::F):=h65.front 1 rfl
 rw[show b_l.length+t.length=(b_l++t).length from(aaC ..).symm]at h66 r46
 rw[←List.map_append]at r46
 exact aau s64 rfl rfl rfl ⟨_,_,_,rfl,hG12,h66.join,rfl,⟨_,_,_,_,hp22,r46,rfl⟩⟩
theorem OE {b_T b:Nat} {b_l:List UInt8} {b_k:aA} {G:GS} {w:World} {F:List aA} (h_b_T:IM b_T) (h_b:BuildC b_T b b_l b_k) (h:Holds G w (b_k::F)):
  Calls Tryz.prog 35 #[.pointer (some ⟨b,0,none⟩)] w (Ret G F fun G v=>v=S b_l):=by
 obtain⟨p,ao,cap,cr,hp,r,hao,rfl⟩:=h_b
 refine enter (N:=14) (L:=[(0,.pointer (some ⟨b,0,none⟩))]) rfl Tryz.func35 rfl rfl rfl (fun a0 s0=> ?_)
 rcases YF b_l r hao with⟨rfl,rfl,rfl⟩|⟨g0,rfl,hc,hne⟩
 ·
  have h:Holds _ _ ([(b,.cells #[p,.slice none 0 0] b_T (0,0))]::cr::F):=h.split
  refine wp_seq ?_
  refine wp_region_lit ?_
  refine cV s0 rfl (fun _ k=>jN (s0.ev rfl) k) (fun a1 s2=> ?_)
  refine wpList_nil ?_
  refine fV ?_
  refine wp_seq ?_
  have hok:JO 14 [(0,.pointer (some ⟨b,0,none⟩))] [(some 3,Fact.eq (.pointer (some ⟨b,0,none⟩))),(some 4,Fact.eq (.pointer (some ⟨b,0,none⟩))),(some 5,Fact.eq (.pointer (some ⟨b,1,none⟩))),(some 6,Fact.eq (.slice none 0 0)),(some 7,Fact.eq (.pointer none)),(some 8,Fact.eq (.pointer (some ⟨b,0,none⟩))),(some 9,Fact.eq (.pointer (some ⟨b,0,none⟩))),(some 10,Fact.eq (.pointer (some ⟨b,1,none⟩))),(some 11,Fact.eq (.slice none 0 0)),(some 12,Fact.eq (.int .i64 0)),(some 13,Fact.eq (S [])),(some 2,Fact.eq (S []))] []=true:=rfl
  refine yB (N:=14) (L0:=[(0,.pointer (some ⟨b,0,none⟩))]) (X:=[(some 3,Fact.eq (.pointer (some ⟨b,0,none⟩))),(some 4,Fact.eq (.pointer (some ⟨b,0,none⟩))),(some 5,Fact.eq (.pointer (some ⟨b,1,none⟩))),(some 6,Fact.eq (.slice none 0 0)),(some 7,Fact.eq (.pointer none)),(some 8,Fact.eq (.pointer (some ⟨b,0,none⟩))),(some 9,Fact.eq (.pointer (some ⟨b,0,none⟩))),(some 10,Fact.eq (.pointer (some ⟨b,1,none⟩))),(some 11,Fact.eq (.slice none 0 0)),(some 12,Fact.eq (.int .i64 0)),(some 13,Fact.eq (S [])),(some 2,Fact.eq (S []))]) (O:=[]) (HR:=fun D a _ H=>H=([(b,.cells #[p,.slice none 0 0] b_T (0,0))]::cr::F)) mixed rfl h rfl (s2.sub (all_cons rfl (KF))) (fun i k t v hi=>by simp at hi) ⟨?_,?_,?_,?_,?_,?_,?_,?_,?_,?_,?_,?_,trivial⟩ (fun D a w G H hall j=> ?_)
  ·exact cI rfl (fun D a w G H hR j=>by(have s:=j.sf;exact gf (s.ev rfl) (j.did hok rfl (GS.Le.refl _) j.holds j.hr rfl)))
  ·exact cI rfl (fun D a w G H hR j=>by(have s:=(j.sf.know _ _ (j.gotE 0 rfl (hR.was rfl 0 rfl)));exact oc (s.ev rfl) rfl (j.did hok rfl (GS.Le.refl _) j.holds j.hr rfl)))
  ·exact cI rfl (fun D a w G H hR j=>by(have s:=(j.sf.know _ _ (j.gotE 1 rfl (hR.was rfl 1 rfl)));exact ek (s.ev rfl) pE (j.did hok rfl (GS.Le.refl _) j.holds j.hr rfl)))
  ·exact cI rfl (fun D a w G H hR j=>by(have hH:=j.hr;subst H;have s:=(j.sf.know _ _ (j.gotE 2 rfl (hR.was rfl 2 rfl)));exact iB (s.ev rfl) IG ((j.holds.rowI 0 0 (cs:=[.slice none 0 0]) (o:=1) rfl rfl rfl) 0 _ rfl) (j.did hok rfl (GS.Le.refl _) j.holds j.hr rfl)))
  ·exact cI rfl (fun D a w G H hR j=>by(have s:=(j.sf.know _ _ (j.gotE 3 rfl (hR.was rfl 3 rfl)));exact Gu (s.ev rfl) (j.did hok rfl (GS.Le.refl _) j.holds j.hr rfl)))
  ·exact cI rfl (fun D a w G H hR j=>by(have s:=j.sf;exact gf (s.ev rfl) (j.did hok rfl (GS.Le.refl _) j.holds j.hr rfl)))
  ·exact cI rfl (fun D a w G H hR j=>by(have s:=(j.sf.know _ _ (j.gotE 5 rfl (hR.was rfl 5 rfl)));exact oc (s.ev rfl) rfl (j.did hok rfl (GS.Le.refl _) j.holds j.hr rfl)))
  ·exact cI rfl (fun D a w G H hR j=>by(have s:=(j.sf.know _ _ (j.gotE 6 rfl (hR.was rfl 6 rfl)));exact ek (s.ev rfl) pE (j.did hok rfl (GS.Le.refl _) j.holds j.hr rfl)))
  ·exact cI rfl (fun D a w G H hR j=>by(have hH:=j.hr;subst H;have s:=(j.sf.know _ _ (j.gotE 7 rfl (hR.was rfl 7 rfl)));exact iB (s.ev rfl) IG ((j.holds.rowI 0 0 (cs:=[.slice none 0 0]) (o:=1) rfl rfl rfl) 0 _ rfl) (j.did hok rfl (GS.Le.refl _) j.holds j.hr rfl)))
  ·exact cI rfl (fun D a w G H hR j=>by(have s:=(j.sf.know _ _ (j.gotE 8 rfl (hR.was rfl 8 rfl)));exact Rx (s.ev rfl) KT (j.did hok rfl (GS.Le.refl _) j.holds j.hr rfl)))
  ·exact cI rfl (fun D a w G H hR j=>by(have s:=((j.sf.know _ _ (j.gotE 4 rfl (hR.was rfl 4 rfl))).know _ _ (j.gotE 9 rfl (hR.was rfl 9 rfl)));exact Bh (s.ev rfl) (s.ev rfl) (j.did hok rfl (GS.Le.refl _) j.holds j.hr rfl)))
  ·exact cI rfl (fun D a w G H hR j=>by(have s:=(j.sf.know _ _ (j.gotE 10 rfl (hR.was rfl 10 rfl)));exact jN (s.ev rfl) (j.did hok rfl (GS.Le.refl _) j.holds j.hr rfl)))
  have s4:=(j.sf.know _ _ (j.gotE 11 rfl (hall 11 (by decide))))
  have hH:=j.hr
  subst H
  have hle10:=j.le
  have hG8:=(GS.Le.refl _).trans hle10
  have h9:Holds _ _ ([(b,.cells #[p,.slice none 0 0] b_T (0,0))]::cr::F):=j.holds
  clear j hall hok
  refine fV ?_
  refine wp_ret ?_
  refine Ye s4 rfl rfl ⟨_,_,rfl,hG8,h9.drop.drop,?_⟩
  rfl
 ·
  have h:Holds _ _ ([(b,.cells #[p,.slice (some ⟨g0,0,none⟩) b_l.length cap] b_T (0,0))]::cr::F):=h.split
  refine wp_seq ?_
  refine wp_region_lit ?_
  refine cV s0 rfl (fun _ k=>jN (s0.ev rfl) k) (fun a11 s12=> ?_)
  refine wpList_nil ?_
  refine fV ?_
  refine wp_seq ?_
  have hok:JO 14 [(0,.pointer (some ⟨b,0,none⟩))] [(some 3,Fact.eq (.pointer (some ⟨b,0,none⟩))),(some 4,Fact.eq (.pointer (some ⟨b,0,none⟩))),(some 5,Fact.eq (.pointer (some ⟨b,1,none⟩))),(some 6,Fact.eq (.slice (some ⟨g0,0,none⟩) b_l.length cap)),(some 7,Fact.eq (.pointer (some ⟨g0,0,none⟩))),(some 8,Fact.eq (.pointer (some ⟨b,0,none⟩))),(some 9,Fact.eq (.pointer (some ⟨b,0,none⟩))),(some 10,Fact.eq (.pointer (some ⟨b,1,none⟩))),(some 11,Fact.eq (.slice (some ⟨g0,0,none⟩) b_l.length cap)),(some 12,Fact.eq (.int .i64 (b_l.length:Int))),(some 13,Fact.eq (S b_l)),(some 2,Fact.eq (S b_l))] []=true:=rfl
  refine yB (N:=14) (L0:=[(0,.pointer (some ⟨b,0,none⟩))]) (X:=[(some 3,Fact.eq (.pointer (some ⟨b,0,none⟩))),(some 4,Fact.eq (.pointer (some ⟨b,0,none⟩))),(some 5,Fact.eq (.pointer (some ⟨b,1,none⟩))),(some 6,Fact.eq (.slice (some ⟨g0,0,none⟩) b_l.length cap)),(some 7,Fact.eq (.pointer (some ⟨g0,0,none⟩))),(some 8,Fact.eq (.pointer (some ⟨b,0,none⟩))),(some 9,Fact.eq (.pointer (some ⟨b,0,none⟩))),(some 10,Fact.eq (.pointer (some ⟨b,1,none⟩))),(some 11,Fact.eq (.slice (some ⟨g0,0,none⟩) b_l.length cap)),(some 12,Fact.eq (.int .i64 (b_l.length:Int))),(some 13,Fact.eq (S b_l)),(some 2,Fact.eq (S b_l))]) (O:=[]) (HR:=fun D a _ H=>H=((bif D 10 then F else ([(b,.cells #[p,.slice (some ⟨g0,0,none⟩) b_l.length cap] b_T (0,0))]::cr::F)))) mixed rfl h rfl (s12.sub (all_cons rfl (KF))) (fun i k t v hi=>by simp at hi) ⟨?_,?_,?_,?_,?_,?_,?_,?_,?_,?_,?_,?_,trivial⟩ (fun D a w G H hall j=> ?_)
  ·exact cI rfl (fun D a w G H hR j=>by(have s:=j.sf;exact gf (s.ev rfl) (j.did hok rfl (GS.Le.refl _) j.holds j.hr rfl)))
  ·exact cI rfl (fun D a w G H hR j=>by(have s:=(j.sf.know _ _ (j.gotE 0 rfl (hR.was rfl 0 rfl)));exact oc (s.ev rfl) rfl (j.did hok rfl (GS.Le.refl _) j.holds j.hr rfl)))
  ·exact cI rfl (fun D a w G H hR j=>by(have s:=(j.sf.know _ _ (j.gotE 1 rfl (hR.was rfl 1 rfl)));exact ek (s.ev rfl) pE (j.did hok rfl (GS.Le.refl _) j.holds j.hr rfl)))
  ·exact cI rfl (fun D a w G H hR j=>by(have he10:D 10=false:=(hR.not (k:=10) (j:=4) rfl rfl (hR.not (k:=4) (j:=3) rfl rfl hR.todo));have hH:=j.hr;simp only[he10,cond_true,cond_false]at hH;subst H;have s:=(j.sf.know _ _ (j.gotE 2 rfl (hR.was rfl 2 rfl)));exact iB (s.ev rfl) IG ((j.holds.rowI 0 0 (cs:=[.slice (some ⟨g0,0,none⟩) b_l.length cap]) (o:=1) rfl rfl rfl) 0 _ rfl) (j.did hok rfl (GS.Le.refl _) j.holds j.hr rfl)))
  ·exact cI rfl (fun D a w G H hR j=>by(have s:=(j.sf.know _ _ (j.gotE 3 rfl (hR.was rfl 3 rfl)));exact IV (s.ev rfl) (by omega) (j.did hok rfl (GS.Le.refl _) j.holds j.hr rfl)))
  ·exact cI rfl (fun D a w G H hR j=>by(have s:=j.sf;exact gf (s.ev rfl) (j.did hok rfl (GS.Le.refl _) j.holds j.hr rfl)))
  ·exact cI rfl (fun D a w G H hR j=>by(have s:=(j.sf.know _ _ (j.gotE 5 rfl (hR.was rfl 5 rfl)));exact oc (s.ev rfl) rfl (j.did hok rfl (GS.Le.refl _) j.holds j.hr rfl)))
  ·exact cI rfl (fun D a w G H hR j=>by(have s:=(j.sf.know _ _ (j.gotE 6 rfl (hR.was rfl 6 rfl)));exact ek (s.ev rfl) pE (j.did hok rfl (GS.Le.refl _) j.holds j.hr rfl)))
  ·exact cI rfl (fun D a w G H hR j=>by(have he10:D 10=false:=(hR.not (k:=10) (j:=9) rfl rfl (hR.not (k:=9) (j:=8) rfl rfl hR.todo));have hH:=j.hr;simp only[he10,cond_true,cond_false]at hH;subst H;have s:=(j.sf.know _ _ (j.gotE 7 rfl (hR.was rfl 7 rfl)));exact iB (s.ev rfl) IG ((j.holds.rowI 0 0 (cs:=[.slice (some ⟨g0,0,none⟩) b_l.length cap]) (o:=1) rfl rfl rfl) 0 _ rfl) (j.did hok rfl (GS.Le.refl _) j.holds j.hr rfl)))
  ·exact cI rfl (fun D a w G H hR j=>by(have s:=(j.sf.know _ _ (j.gotE 8 rfl (hR.was rfl 8 rfl)));exact Rx (s.ev rfl) KT (j.did hok rfl (GS.Le.refl _) j.holds j.hr rfl)))
  ·exact cI rfl (fun D a w G H hR j=>by(have hH:=j.hr;simp only[cond_true,cond_false,hR.todo]at hH;subst H;have s:=((j.sf.know _ _ (j.gotE 4 rfl (hR.was rfl 4 rfl))).know _ _ (j.gotE 9 rfl (hR.was rfl 9 rfl)));exact CO (j.holds.front 1 rfl).dropsnd r (s.ev rfl) (s.ev rfl) rfl Uy (by kernel_rfl) hne (fun w' hh=>j.did hok rfl (GS.Le.refl _) (show Holds _ _ F from hh) (by simp only[vE,cond_true,cond_false,OY,KO,PG,vw (show 13<a.tmps.size by rw[j.sf.size];decide)]) rfl)))
  ·exact cI rfl (fun D a w G H hR j=>by(have s:=(j.sf.know _ _ (j.gotE 10 rfl (hR.was rfl 10 rfl)));exact jN (s.ev rfl) (j.did hok rfl (GS.Le.refl _) j.holds j.hr rfl)))
  have s14:=(j.sf.know _ _ (j.gotE 11 rfl (hall 11 (by decide))))
  have hH:=j.hr
  simp only[hall 10 (by decide),cond_true]at hH
  subst H
  have hle20:=j.le
  have hG18:=(GS.Le.refl _).trans hle20
  have h19:Holds _ _ (F):=j.holds
  clear j hall hok
  refine fV ?_
  refine wp_ret ?_
  refine Ye s14 rfl rfl ⟨_,_,rfl,hG18,h19,?_⟩
  rfl
theorem Oz:∀Ty∈[91],IM Ty:=by
 intro Ty h
 simp only[aaM,List.not_mem_nil,or_false]at h
 rcases h with rfl<;>(unfold IM;kernel_rfl)
theorem GR:bS Tryz.prog 31 1 (xE [91]):=LN Oz fun Ty b l c t G w F hT hb hl hh=>OD t hT hb hl hh
theorem NM:bS Tryz.prog 35 0 (Fe [91]):=Qd Oz fun Ty b l c G w F hT hb hh=>OE hT hb hh
theorem KX:Tryz.prog.globalNamed "internal/strconv.uint64pow10" =some 1:=by kernel_rfl
theorem Hj (z:Int) (G:GS) (w:World) (F:List aA) (hz:bb 0 z) (t:Tied G.M) (h:Holds G w F):Calls Tryz.prog 60 #[.int .i64 z] w (Ret G F fun _ v=>v=S (Lib.itoa z)):=
 (Tryz.strconv_Itoa z hz.1 hz.2 w ((Tied.gvar KX t).var h)).mono fun _ _ ⟨he,k,os,hw⟩=>⟨_,G,he,GS.Le.refl G,h.ext (hw▸sH w k os),rfl⟩
theorem JV:bS Tryz.prog 60 0 (Lf 0 Lib.itoa):=Tj fun z G w F hz t h=>Hj z G w F hz t h
theorem GV:bS Tryz.prog 60 0 (Ct 0 100000000000000000000 Jw):=JS (by decide) (ts:=[]) Nd fun n G w F _ hz t h=>by
 rw[←Qu]
 exact Hj n G w F hz t h
theorem GT:bS Tryz.prog 107 0 (Ct 0 100 Jw):=JS (by decide) (ts:=[]) Nd fun n G w F hn hz t h=>(Tryz.internal_strconv_small n hn w).mono fun _ _ ⟨he,hw⟩=>⟨_,G,he,GS.Le.refl G,hw▸h,rfl⟩
theorem NN:bS Tryz.prog 92 0 (Cu 0 10 Lib.itoa):=JT fun z G w F hz t h=>
 (Tryz.strconv_FormatInt_10 z hz.1 hz.2 w ((Tied.gvar KX t).var h)).mono fun _ _ ⟨he,k,os,hw⟩=>⟨_,G,he,GS.Le.refl G,h.ext (hw▸sH w k os),rfl⟩
theorem JU:bS Tryz.prog 65 0 AP:=NJ (fun bk o c ws sep w hc hb h1 h2 h3=>by
  have e1:(ws.map fun x=>(⟨x.toArray⟩:ByteArray)).map (fun b=>b.data.toList)=ws:=by simp[Function.comp_def]
  have hj:=Tryz.strings_Join bk o c (ws.map fun x=>(⟨x.toArray⟩:ByteArray)) ⟨sep.toArray⟩ w (fun j x hx=>by
   rw[List.getElem?_map,aaL]at hx
   obtain⟨y,hy,rfl⟩:=hx
   exact hc j y hy) hb (by simpa using h1) (by simpa using h2) (by rw[e1];exact h3)
  rw[e1,aaE]at hj
  exact hj.mono fun _ _ ⟨he,hw⟩=>⟨he,hw⟩) (fun a c sep w=>(Tryz.strings_Join_none a c ⟨sep.toArray⟩ w).mono fun _ _ ⟨he,hw⟩=>⟨he,hw▸Below.refl w.heap.size w⟩)
end Go.Proofs.YtacomabmhnodlaaGreatDoor
namespace Go.Proofs.YtacomabmhnodlaaGreatDoor
open Go Go.RowKit Go.Lib Go.Shelf Go.Proofs Go.Sort
set_option maxRecDepth 100000
theorem aat (u:Nat) (h0:100≤u) (hu64:u<18446744073709551616) (w:World) (htab:Lib.TabIs Tryz.prog w "internal/strconv.uint64pow10" .u64 Lib.pow10Tab):
  Calls Tryz.prog 90 #[.int .u64 u,.int .i64 10] w fun e w'=>e= .returned (.string ⟨(Lib.decDigits u).toArray⟩)∧∃k os,w'=grow (w.drewN k) os:=by
 have mixed:Tryz.prog.follows .mixedOrders=true:=by kernel_rfl
 have hu1:1≤u:=by omega
 have hnd20:Lib.nDigits u≤20:=by have:=Lib.numDigits_eq u hu1 hu64;split at this<;>omega
 have hb3:Lib.nDigits u≤24:=by omega
 have hal:Tryz.prog.arrayLen 164=24:=by simp[Program.arrayLen,Tryz.underlying164]
 have hsl1:∀W,(Instr.sliceAt 164 (.pointer (some ⟨w.heap.size,0,none⟩)) none (some (.int .i64 (Lib.nDigits u:Int))) none).run Tryz.prog W= .ok (.slice (some ⟨w.heap.size,0,none⟩) (Lib.nDigits u) 24) W:=fun W=>by
  rw[run_sliceAt_array_h W 164 ⟨w.heap.size,0,none⟩ (by simp[Program.arrayLen,Program.elem,Tryz.underlying164]) .i64 (Lib.nDigits u:Int) (by omega) (by rw[hal];omega)]
  go_simp
 have hH0:=Lib.holds_zero0 w 164 (Lib.nDigits u) (by omega)
 have hfmt:=Tryz.internal_strconv_formatBase10 w.heap.size 0 24 u (Array.replicate (Lib.nDigits u) 0) (w.alloc (.cells Lib.zeros24 164)) hH0 (by rw[Array.size_replicate];exact Lib.lt_pow_nDigits u) hu64 (by rw[Array.size_replicate];omega)
 rw[Array.size_replicate]at hfmt
 have HH0:=Lib.hid hH0
 clear hH0 hal
 go_enter Tryz.func90,Tryz.ntmps90
 go_wp2_with (fail)
 refine(Tryz.internal_strconv_numDigits u hu1 hu64 _ (Lib.tabIs_alloc htab _)).mono ?_
 rintro e w' ⟨rfl,rfl⟩
 go_wp2_with (fail)
 refine hfmt.mono ?_
 rintro e w' ⟨rfl,k,v',dk,rfl,hF⟩
 have hcv:(convert 89 9 (.slice (some ⟨w.heap.size,0,none⟩) (Lib.nDigits u) 24)).run Tryz.prog ((putRow (fun(b:UInt8)=>Value.int .u8 (b.toNat:Int)) (w.alloc (.cells Lib.zeros24 164)) w.heap.size 0 dk).drewN k)= .ok (.string ⟨(Lib.decDigits u).toArray⟩) ((putRow (fun(b:UInt8)=>Value.int .u8 (b.toNat:Int)) (w.alloc (.cells Lib.zeros24 164)) w.heap.size 0 dk).drewN k):=by
  have h:=run_convert_bytes_back (P:=Tryz.prog) ((putRow (fun(b:UInt8)=>Value.int .u8 (b.toNat:Int)) (w.alloc (.cells Lib.zeros24 164)) w.heap.size 0 dk).drewN k) 89 9 5 ⟨w.heap.size,0,none⟩ 24 (Lib.decDigits u) Tryz.underlying89 Tryz.underlying5 Tryz.underlying9 (fun j hj=>by
   rw[Lib.row_is_numeral hF j hj,Lib.add_plain,World.cell?_drewN]
   exact cell?_putRow (fun(b:UInt8)=>Value.int .u8 (b.toNat:Int)) _ w.heap.size 0 _ dk HH0.out (by rw[hF.size,Array.size_replicate]) j (by rw[hF.size];rw[Lib.decDigits_length]at hj;exact hj))
  rw[Lib.decDigits_length]at h
  exact h
 go_wp2
 go_ret
 obtain⟨os,eo⟩:=Lib.fin_at w (.cells Lib.zeros24 164) dk k 0
 exact⟨rfl,k,os,eo⟩
theorem Mf (i:Nat) (hi:i<100) (w:World):
  Calls Tryz.prog 90 #[.int .u64 i,.int .i64 10] w fun e w'=>e= .returned (.string ⟨(Lib.decDigits i).toArray⟩)∧∃k os,w'=grow (w.drewN k) os:=by
 have mixed:Tryz.prog.follows .mixedOrders=true:=by kernel_rfl
 have hw:IntKind.i64.wrap (i:Int)=(i:Int):=by rw[IntKind.wrap_i64];omega
 go_enter Tryz.func90,Tryz.ntmps90
 go_wp2_with (fail)
 refine(Tryz.internal_strconv_small i hi _).mono ?_
 rintro e w' ⟨rfl,rfl⟩
 go_wp2_with (fail)
 go_ret
 exact⟨rfl,0,#[],by simp[World.drewN_zero]⟩
theorem QA (z:Int) (h0:0≤z) (h1:z≤18446744073709551615) (w:World) (htab:Lib.TabIs Tryz.prog w "internal/strconv.uint64pow10" .u64 Lib.pow10Tab):
  Calls Tryz.prog 90 #[.int .u64 z,.int .i64 10] w fun e w'=>e= .returned (.string ⟨(Lib.itoa z).toArray⟩)∧∃k os,w'=grow (w.drewN k) os:=by
 obtain⟨u,rfl⟩:∃u:Nat,z=u:=⟨z.toNat,by omega⟩
 rw[Lib.itoa_nonneg]
 rcases Nat.lt_or_ge u 100 with h|h
 ·exact Mf u h w
 ·exact aat u h (by omega) w htab
end Go.Proofs.YtacomabmhnodlaaGreatDoor
namespace Go.Lib
open Go
def okc (b:Nat):Bool:=(Nat.ble 97 b&&Nat.ble b 122)||(Nat.ble 48 b&&Nat.ble b 57)
def oddB (r:Nat):Bool:= !okc r
theorem BS (s:ByteArray) (i:Nat) (h:(s.get! i).toNat<128):Utf8.decode s i=((s.get! i).toNat,1):=by
 unfold Utf8.decode
 simp only[Nat.add_zero]
 rw[if_pos h]
theorem Jr (s:ByteArray) (i:Nat) (h:¬(s.get! i).toNat<128):128≤(Utf8.decode s i).1:=by
 unfold Utf8.decode
 simp only[Nat.add_zero]
 rw[if_neg h]
 split
 ·split
  ·assumption
  ·decide
 ·split
  ·split
   ·rename_i q
    simp only[ge_iff_le,aaU,decide_eq_true_eq]at q
    omega
   ·decide
  ·split
   ·split
    ·rename_i q
     simp only[ge_iff_le,aaU,decide_eq_true_eq]at q
     omega
    ·decide
   ·decide
theorem JN {b:Nat} (h:okc b=true):b<128:=by
 simp only[okc,Bool.or_eq_true,aaU,Nat.ble_eq]at h
 omega
theorem Ho (s:ByteArray):∀(f pos:Nat),s.size - pos≤f→(idxFuncFrom oddB true s f pos<0↔∀j,pos≤j→j<s.size→okc (s.get! j).toNat=true)
 |0,pos,h=>by
  simp only[idxFuncFrom]
  constructor
  ·intro _ j h1 h2;omega
  ·intro _;decide
 |f+1,pos,h=>by
  unfold idxFuncFrom
  split
  ·rename_i hp
   by_cases hb:okc (s.get! pos).toNat=true
   ·have hd:=BS s pos (JN hb)
    rw[hd]
    simp only[oddB,hb]
    rw[if_neg (by decide),Ho s f (pos+1) (by omega)]
    constructor
    ·intro q j h1 h2
     rcases Nat.eq_or_lt_of_le h1 with rfl|h1
     ·exact hb
     ·exact q j h1 h2
    ·intro q j h1 h2;exact q j (by omega) h2
   ·have ho:oddB (Utf8.decode s pos).1=true:=by
     by_cases hl:(s.get! pos).toNat<128
     ·rw[BS s pos hl]
      simp only[oddB]
      simpa using hb
     ·have:=Jr s pos hl
      simp only[oddB]
      cases hc:okc (Utf8.decode s pos).1 with
      |false=>rfl
      |true=>have:=JN hc;omega
    rw[if_pos ho]
    constructor
    ·intro q;omega
    ·intro q;exact absurd (q pos (aaS _) hp) hb
  ·rename_i hp
   constructor
   ·intro _ j h1 h2;omega
   ·intro _;decide
theorem idx_neg (l:List UInt8):idxFunc oddB true ⟨l.toArray⟩<0↔∀b∈l,okc b.toNat=true:=by
 unfold idxFunc
 rw[Ho _ _ _ (by omega)]
 have hs:ByteArray.size ⟨l.toArray⟩=l.length:=by simp[ByteArray.size]
 rw[hs]
 constructor
 ·intro h b hb
  obtain⟨j,hj⟩:=List.mem_iff_getElem?.1 hb
  obtain⟨h1,h2⟩:=List.getElem?_eq_some_iff.1 hj
  have:=h j (Nat.zero_le _) h1
  simpa[ByteArray.get!,h1,h2] using this
 ·intro h j _ hj
  have:(ByteArray.get! ⟨l.toArray⟩ j)=l[j]:=by simp[ByteArray.get!,hj]
  rw[this]
  exact h _ (List.getElem_mem hj)
end Go.Lib
namespace Go.Proofs.YtacomabmhnodlaaGreatDoor
open Go Go.RowKit Go.Eng Go.Sy
set_option linter.unusedVariables false
set_option maxRecDepth 100000
theorem Qf:Tryz.prog.follows .mixedOrders=true:=by kernel_rfl
theorem odd_iff (x:Nat):Lib.oddB x=true↔¬((97≤x∧x≤122)∨(48≤x∧x≤57)):=by
 unfold Lib.oddB Lib.okc
 cases h1:Nat.ble 97 x<;>cases h2:Nat.ble x 122<;>cases h3:Nat.ble 48 x<;>cases h4:Nat.ble x 57<;>simp only[←Bool.not_eq_true,Nat.ble_eq]at h1 h2 h3 h4<;>simp<;>omega
theorem ND (W:World) (x:Nat):FnGives Tryz.prog 113 #[] #[.int .i32 (x:Int)] (.bool (Lib.oddB x)) W:=by
 have mixed:=Qf
 unfold FnGives
 go_enter Tryz.func113,Tryz.ntmps113
 go_wp2
 all_goals
  go_ret
  refine⟨?_,0,by simp[World.drewN_zero]⟩
  refine congrArg (fun b=>Ending.returned (Value.bool b)) ?_
  rw[Bool.eq_iff_iff,odd_iff]
  simp only[aaU,Bool.or_eq_true,decide_eq_true_eq,Bool.false_eq_true,eq_self,true_iff,false_iff]
  omega
theorem Oq:∀args w,(callFunc 113 args).run Tryz.prog w= .ok (.enter 113 args) w:=enters_of Tryz.func113 (by kernel_rfl) rfl
noncomputable def nV (g:Nat):co:=fun us _ _ K=>match us with
 |[v,.fn f []]=>ac (Nat.beq f g) (sA v fun s=>K (.sy (.int 0 (Lib.idxFunc Lib.oddB true ⟨s.toArray⟩))) .leaf 0)
 |_=>false
theorem oA:bS Tryz.prog 114 0 (nV 113):=by
 intro us xs E ρ G F M nx w K R hE hs hd hk hr
 unfold nV at hk
 split at hk
 case h_2=>cases hk
 rename_i v f
 obtain⟨q1,hk1⟩:=aj hk
 have q1:=aaF q1
 subst q1
 obtain⟨s,e1,hk2⟩:=tS (E:=E) (ρ:=ρ) hk1
 obtain⟨x,ys,d1,d2,rfl⟩:=bg hd
 obtain⟨x2,ys2,d3,d4,rfl⟩:=bg d2
 obtain rfl:ys2=[]:=by simpa[aD] using d4.symm
 obtain rfl:x=S s:=aaZ (d1.symm.trans e1)
 obtain rfl:x2= .func (.func 113) #[] #[]:=by simpa[den,aD] using d3.symm
 obtain⟨c,hh,_,_⟩:=hs.ex
 refine(Tryz.strings_IndexFunc 113 #[] Oq Lib.oddB ⟨s.toArray⟩ w (fun W x _=>ND W x)).mono fun e w' ⟨he,hb⟩=> ?_
 subst he
 exact hr _ _ _ ⟨E.at_,E.M⟩ (fun _=>none) w' _ hk2 hE (MLe.refl _) (fun i e h=>absurd h (Nat.not_lt_zero i)) (hs.bare (GS.Le.refl _) (hh.drop.ext hb)) rfl
theorem lT:bS Tryz.prog 90 0 (Cu 4 10 Lib.itoa):=JT fun z G w F hz t h=>
 (QA z hz.1 hz.2 w ((Tied.gvar KX t).var h)).mono fun _ _ ⟨he,k,os,hw⟩=>⟨_,G,he,GS.Le.refl G,h.ext (hw▸sH w k os),rfl⟩
end Go.Proofs.YtacomabmhnodlaaGreatDoor
namespace Go.Txt
open Go
theorem wds_len (b:UInt8):∀(n:Nat) (s:List UInt8),s.length≤n→(wds b s).length=Lib.count s [b]+1
 |0,s,h=>by
  obtain rfl:s=[]:=aaX (by omega)
  rfl
 |n+1,s,h=>by
  rcases Lib.index_spec s [b] with⟨h1,h2⟩|⟨i,h1,h2,h3,h4⟩
  ·have hb:b∉s:=fun hm=>by
    obtain⟨k,hk⟩:=List.mem_iff_getElem?.1 hm
    rw[Lib.index_one]at h1
    exact Lib.indexByte_none h1 k hk
   rw[wds_none hb,Lib.count_miss h1]
   rfl
  ·rw[Lib.index_one]at h1
   obtain⟨h5,h6⟩:=Lib.indexByte_some h1
   have hi:=(List.getElem?_eq_some_iff.1 h5).1
   have hs:s=s.take i++b::s.drop (i+1):=by
    have e:s.drop i=b::s.drop (i+1):=by rw[List.drop_eq_getElem_cons hi,(List.getElem?_eq_some_iff.1 h5).2]
    rw[←e,List.take_append_drop]
   have hb:b∉s.take i:=fun hm=>by
    obtain⟨k,hk⟩:=List.mem_iff_getElem?.1 hm
    have hlt:k<i:=by
     have:=(List.getElem?_eq_some_iff.1 hk).1
     simp at this;omega
    rw[aaT hlt]at hk
    exact h6 k hlt hk
   have h1':Lib.index s [b]=(i:Int):=by rw[Lib.index_one];exact h1
   have hc:=Lib.count_hit (s:=s) (sub:=[b]) (i:=i) (by simp) h1'
   have e2:wds b s=s.take i::wds b (s.drop (i+1)):=by
    conv=>lhs;rw[hs]
    exact wds_cut hb
   rw[e2,hc,List.length_cons,wds_len b n (s.drop (i+1)) (by simp;omega),List.length_singleton]
   omega
end Go.Txt
namespace Go.Proofs.YtacomabmhnodlaaGreatDoor
open Go Go.RowKit Go.Sy
open Go.Eng hiding ai
set_option linter.unusedVariables false
noncomputable def kg:co:=fun us _ _ K=>match us with
 |[v,.str [b]]=>ac (Nat.blt b 256) (sA v fun s=>ac (aC (s.length≤1000000)) (ai fun h:Value=>K (.sy (.imm h 1 (List UInt8) (Txt.wds (aaY b) s) aG)) .leaf 0))
 |_=>false
theorem Zc {M:kN} {b T:Nat} {fz:Nat×Nat} {l:List (List UInt8)} (hM:M b=some (.cells (l.map fun s=>Value.string ⟨s.toArray⟩).toArray T fz)) (hl:l.length≤maxLen):
  OkP M (.imm (.slice (some ⟨b,0,none⟩) l.length l.length) 1 (List UInt8) l aG):=by
 refine .imm (some ⟨b,0,none⟩) l.length rfl (aaS _) hl Nat.one_pos (fun _=>rfl) (fun x _=>rfl) ?_ ?_
 ·intro x _ p hp
  obtain rfl:p= .sstr x:=by simpa[aG] using hp
  exact .sstr x
 ·intro i x hx j v hv
  cases j with
  |zero=>
   obtain rfl:v=S x:=by simpa[aG,bQ] using hv.symm
   show gI M b (0+i*1+0)=_
   unfold gI
   rw[hM]
   simp[hx,S]
  |succ j=>simp[aG]at hv
theorem lz:bS Tryz.prog 47 0 kg:=by
 intro us xs E ρ G F M nx w K R hE hs hd hk hr
 unfold kg at hk
 split at hk
 case h_2=>cases hk
 rename_i v b
 obtain⟨hb,hk1⟩:=aj hk
 rw[aa0]at hb
 obtain⟨s,e1,hk2⟩:=tS (E:=E) (ρ:=ρ) hk1
 obtain⟨hl,hk3⟩:=aa hk2
 obtain⟨x,ys,d1,d2,rfl⟩:=bg hd
 obtain⟨x2,ys2,d3,d4,rfl⟩:=bg d2
 obtain rfl:ys2=[]:=by simpa[aD] using d4.symm
 obtain rfl:x=S s:=aaZ (d1.symm.trans e1)
 obtain rfl:x2=S [aaY b]:=by simpa[den] using d3.symm
 obtain⟨c,hh,_,_⟩:=hs.ex
 obtain⟨_,_,_,m,T3,f3,hm⟩:=hE.2
 have hcell:w.cell? ⟨0,0,none⟩=some (.int .i64 m):=hh.cellM (b:=0) (o:=0) (by unfold gI;simp only[hm];rfl)
 have hsz:ByteArray.size ⟨s.toArray⟩=s.length:=by simp[ByteArray.size]
 have hsep:(⟨[aaY b].toArray⟩:ByteArray).data.toList=[aaY b]:=rfl
 have hcnt:Lib.countB ⟨s.toArray⟩ ⟨[aaY b].toArray⟩=Lib.count s [aaY b]:=rfl
 have hdata:(Lib.splitB ⟨[aaY b].toArray⟩ 0 (Lib.countB ⟨s.toArray⟩ ⟨[aaY b].toArray⟩) ⟨s.toArray⟩).map (·.data.toList)=Txt.wds (aaY b) s:=by
  rw[Lib.splitB_data,hcnt]
  exact Txt.split_eq (aaY b) s.length s (aaS _)
 have hwl:=Txt.wds_len (aaY b) s.length s (aaS _)
 have hcells:((Lib.splitB ⟨[aaY b].toArray⟩ 0 (Lib.countB ⟨s.toArray⟩ ⟨[aaY b].toArray⟩) ⟨s.toArray⟩).map Value.string).toArray=((Txt.wds (aaY b) s).map fun s=>Value.string ⟨s.toArray⟩).toArray:=by
  rw[←hdata,List.map_map]
  rfl
 refine(Tryz.strings_Split ⟨s.toArray⟩ ⟨[aaY b].toArray⟩ m w (by rw[hsz];omega) hcell (aaS 1)).mono fun e w' ⟨he,hw⟩=> ?_
 subst he;subst hw
 rw[hcells]
 have ha:=(hh.drop).alloc (.cells ((Txt.wds (aaY b) s).map fun s=>Value.string ⟨s.toArray⟩).toArray 9 (0,0))
 obtain⟨t1,t2,t3⟩:=ha.toG
 have hM:=t3 _ List.mem_cons_self
 have hcl:Lib.count s [aaY b]≤s.length+1:=Lib.count_le s [aaY b]
 have hok:=Zc hM (by rw[hwl];unfold maxLen;omega)
 rw[hcnt,←hwl]
 have b2:=hs.bare t1 t2
 refine hr _ _ _ _ _ _ _ (az hk3 _) ?_ ?_ (fun i e h=>absurd h (Nat.not_lt_zero i)) b2 (lX hok)
 ·exact⟨hE.1,Tied.mono t1.mem hE.2⟩
 ·exact t1.mem
noncomputable def tP:co:=fun us _ _ K=>match us with
 |[v,.int 0 (.ofNat 10),.int 0 (.ofNat 64)]=>sA v fun s=>ac (aC (s.length≤1000000))
  (ac (ai fun u:Nat=>aS (aC (Lib.parseMag s= .ok u∧u≤18446744073709551615)) (K (.tup [.sy (.int 4 (u:Int)),.nilI]) .leaf 0) true)
   (aS (aC (∀u,¬Lib.parseMag s= .ok u)) (ai fun z:Int=>aS (aC (0≤z∧z≤18446744073709551615)) (ai fun N:Nat=>K (.tup [.sy (.int 4 z),.iface 185 (.sy (.pim N 0 []))]) .leaf 0) true) true))
 |_=>false
theorem uJ:bS Tryz.prog 103 0 tP:=by
 intro us xs E ρ G F M nx w K R hE hs hd hk hr
 unfold tP at hk
 split at hk
 case h_2=>cases hk
 rename_i v
 obtain⟨s,e1,hk2⟩:=tS (E:=E) (ρ:=ρ) hk
 obtain⟨hl,hk3⟩:=aa hk2
 obtain⟨hk4,hk5⟩:=aj hk3
 obtain⟨x,ys,d1,d2,rfl⟩:=bg hd
 obtain⟨x2,ys2,d3,d4,rfl⟩:=bg d2
 obtain⟨x3,ys3,d5,d6,rfl⟩:=bg d4
 obtain rfl:ys3=[]:=by simpa[aD] using d6.symm
 obtain rfl:x=S s:=aaZ (d1.symm.trans e1)
 obtain rfl:x2= .int .i64 10:=by simpa[den,aw] using d3.symm
 obtain rfl:x3= .int .i64 64:=by simpa[den,aw] using d5.symm
 obtain⟨c,hh,_,_⟩:=hs.ex
 obtain⟨_,⟨ts,ps,Ts,fs,hS⟩,⟨tr,pr,Tr,fr,hR⟩,_⟩:=hE.2
 have hcS:w.cell? ⟨4,0,none⟩=some (.iface ts ps):=hh.cellM (b:=4) (o:=0) (by unfold gI;simp only[hS];rfl)
 have hcR:w.cell? ⟨5,0,none⟩=some (.iface tr pr):=hh.cellM (b:=5) (o:=0) (by unfold gI;simp only[hR];rfl)
 have hsz:ByteArray.size ⟨s.toArray⟩=s.length:=by simp[ByteArray.size]
 have hpe:Lib.parseUintB 64 (⟨s.toArray⟩:ByteArray).data.toList=Lib.parseMag s:=Lib.parseUintB_64 s
 have fin:∀w',Below w.heap.size w w'→Sim ⟨E.at_,E.M⟩ (fun _=>none) G F .leaf 0 w':=fun w' hb=>hs.bare (G':={G with M:=E.M}) (GS.Le.refl _) (hh.drop.ext hb)
 rcases hp:Lib.parseMag s with u|_|_
 ·refine(Tryz.strconv_ParseUint_10_at64_ok ⟨s.toArray⟩ (by rw[hsz];omega) u (hpe.trans hp) w).mono fun e w' ⟨he,hw⟩=> ?_
  subst he
  have hb:Below w.heap.size w w':=by
   rcases hw with rfl|rfl
   ·exact Below.refl _ _
   ·exact Lib.bytesWorld_below _ _ _
  have hu:=Lib.parseMag_lt hp
  exact hr _ _ _ ⟨E.at_,E.M⟩ (fun _=>none) w' _ (aq ⟨hp,by omega⟩ (az hk4 u)) hE (MLe.refl _) (fun i e h=>absurd h (Nat.not_lt_zero i)) (fin w' hb) (by simp[den,aD,bc,aw])
 ·refine(Tryz.strconv_ParseUint_10_at64_syntax ⟨s.toArray⟩ (by rw[hsz];omega) (hpe.trans hp) _ w hcS (.inr ⟨_,_,rfl⟩)).mono fun e w' ⟨N,he,_,_,hb⟩=> ?_
  subst he
  have k6:=az (aq (show∀u,¬Lib.parseMag s= .ok u from fun u q=>by rw[hp]at q;cases q) hk5) 0
  exact hr _ _ _ ⟨E.at_,E.M⟩ (fun _=>none) w' _ (az (aq (by omega) k6) N) hE (MLe.refl _) (fun i e h=>absurd h (Nat.not_lt_zero i)) (fin w' hb) (by simp[den,aD,bc,aw,MRow])
 ·refine(Tryz.strconv_ParseUint_10_at64_range ⟨s.toArray⟩ (by rw[hsz];omega) (hpe.trans hp) _ w hcR (.inr ⟨_,_,rfl⟩)).mono fun e w' ⟨N,he,_,_,hb⟩=> ?_
  subst he
  have k6:=az (aq (show∀u,¬Lib.parseMag s= .ok u from fun u q=>by rw[hp]at q;cases q) hk5) 18446744073709551615
  exact hr _ _ _ ⟨E.at_,E.M⟩ (fun _=>none) w' _ (az (aq (by omega) k6) N) hE (MLe.refl _) (fun i e h=>absurd h (Nat.not_lt_zero i)) (fin w' hb) (by simp[den,aD,bc,aw,MRow])
end Go.Proofs.YtacomabmhnodlaaGreatDoor
