/- Definitions and lemmas of the proof, without a condition of their own. -/
import Derived.Test.YtacomabmhnodlaaGreatDoorB1
import Derived.LoopN
import Derived.Laws.ResultCell
import Derived.Lib.ItoaMem
import Derived.Lib.Join
import Derived.Shelf.Strings.Builder1
import Derived.Shelf.Strings.Builder2
import Derived.Shelf.Strings.OnBuilder
import Derived.Shelf.Small.Strs
import Derived.Shelf.Small.Wraps
import Derived.Shelf.Utf8.RuneCount
import Derived.Shelf.Strconv.Itoa0
import Derived.Shelf.Strconv.Itoa1
import Derived.Shelf.LaysM
import Derived.Shelf.Strconv.Itoa2
import Derived.Shelf.Strconv.Itoa3
import Derived.Shelf.Strconv.Itoa4
import Derived.Ground.MpProg
import Derived.Shelf.Pu.ParseUintPublic10
import Derived.Shelf.Pu.ErrVarParseUint
import Derived.Shelf.Strings.Search1
import Derived.Shelf.Strings.Search2
import Derived.Shelf.Strings.Search3
import Derived.Shelf.Strings.Count
import Derived.Shelf.Strings.Shaped
import Derived.Shelf.GgClosure.StringsIndexFunc
import Derived.Ground.GgwProg
import Derived.Shelf.GgClosure.StringsIndexFuncTop
import Derived.Shelf.GgClosure.StringsRunes
import Derived.Shelf.Strings.Prefix
import Derived.Shelf.Strings.Split
import Derived.Shelf.Strings.SplitShaped
import Derived.Shelf.Unicode.Decode
import Derived.Shelf.Strings.RuneCount
import Derived.Shelf.Strings.Explode
import Derived.Shelf.Unicode.DecodeSlow
import Derived.Shelf.Unicode.DecodeAny
import Derived.Shelf.Strings.FuncGrows
import Derived.Test.YtacomabmhnodlaaGreatDoorProg
import Derived.Lib.Split
import Derived.Lib.IndexBytes
import Derived.Lib.AtoiAll
import Derived.Lib.ItoaNum
import Derived.Lib.JoinLaws
import Derived.Test.YtacomabmhnodlaaGreatDoorChecked
import Derived.KernelRfl
import Derived.WalkKit
import Derived.Lib.AppendIntMem
import Derived.Lib.ParseIntBCases
open Bool renaming and_eq_true→acT
open List renaming append_assoc→acJ,cons_append→acI,eq_nil_of_length_eq_zero→acW,flatten_cons→acG,getElem?_take_of_lt→acS,length_append→acA,length_map→acC,map_cons→acH,mem_of_getElem?→acF,nil_append→acK
open Nat renaming blt_eq→acZ,eq_of_beq_eq_true→acE,le_refl→acR
open Option renaming map_eq_some_iff→acL
open Option.some renaming inj→acY,injEq→acU
open UInt8 renaming ofNat→acX
namespace Go.Sy
open Go Go.RowKit Go.Eng
noncomputable def xT (ps:List (Nat×Nat)) (i:Nat):Option Nat:=List.rec none (fun p _ ih=>Bool.rec ih (some p.2) (Nat.beq p.1 i)) ps
theorem jH:∀{ps:List (Nat×Nat)} {i j:Nat},xT ps i=some j→(i,j)∈ps
 |[],i,j,h=>by cases h
 |p::ps,i,j,h=>by
  have h':(Bool.rec (xT ps i) (some p.2) (Nat.beq p.1 i):Option Nat)=some j:=h
  cases hb:Nat.beq p.1 i with
  |true=>
   rw[hb]at h'
   cases h'
   have:=acE hb
   subst this
   simp
  |false=>rw[hb]at h';exact List.mem_cons_of_mem _ (jH h')
def jM (ps:List (Nat×Nat)) (ρ:Ren):Ren:=fun j=>match ps.find? (fun p=>Nat.beq p.2 j) with|some p=>ρ p.1|none=>none
def gO:List (Nat×Nat)→Bool
 |[]=>true
 |p::ps=>(ps.all fun q=> !Nat.beq q.2 p.2)&&(ps.all fun q=> !Nat.beq q.1 p.1)&&gO ps
theorem dM:∀{ps:List (Nat×Nat)} {ρ:Ren} {i j:Nat},gO ps=true→(i,j)∈ps→jM ps ρ j=ρ i
 |[],ρ,i,j,_,h=>by cases h
 |p::ps,ρ,i,j,ho,h=>by
  simp only[gO,acT]at ho
  rcases List.mem_cons.1 h with rfl|h
  ·simp[jM]
  ·have hne:Nat.beq p.2 j=false:=by
    have:=List.all_eq_true.1 ho.1.1 _ h
    simp only[Bool.not_eq_true']at this
    cases hb:Nat.beq p.2 j with
    |false=>rfl
    |true=>
     have:=acE hb
     subst this
     simp at this
   have:=dM (ρ:=ρ) ho.2 h
   simp only[jM,List.find?_cons,hne]at this ⊢
   exact this
theorem vn:∀{ps:List (Nat×Nat)} {i j k:Nat},gO ps=true→(i,j)∈ps→(i,k)∈ps→j=k
 |[],i,j,k,_,h,_=>by cases h
 |p::ps,i,j,k,ho,h,h2=>by
  simp only[gO,acT]at ho
  have hno:∀q∈ps,q.1≠p.1:=fun q hq e=>by
   have:=List.all_eq_true.1 ho.1.2 q hq
   rw[e]at this
   simp at this
  rcases List.mem_cons.1 h with e1|h1
  ·rcases List.mem_cons.1 h2 with e2|h3
   ·rw[←e1]at e2;injection e2 with _ e;exact e.symm
   ·exact absurd (by rw[←e1]) (hno _ h3)
  ·rcases List.mem_cons.1 h2 with e2|h3
   ·exact absurd (by rw[←e2]) (hno _ h1)
   ·exact vn ho.2 h1 h3
noncomputable def AI (ps:List (Nat×Nat)):SY→Option SY
 |.prow i n=>(xT ps i).map fun j=>.prow j n
 |.psub i sz a n=>(xT ps i).map fun j=>.psub j sz a n
 |.pfix i n c=>(xT ps i).map fun j=>.pfix j n c
 |.rptr i sz q o=>(xT ps i).map fun j=>.rptr j sz q o
 |.kmp i=>(xT ps i).map fun j=>.kmp j
 |s=>some s
mutual
noncomputable def fy (ps:List (Nat×Nat)):AV→Option AV
 |.bad=>none
 |.int k z=>some (.int k z)
 |.bool b=>some (.bool b)
 |.str l=>some (.str l)
 |.nilP=>some .nilP
 |.nilS=>some .nilS
 |.nilM=>some .nilM
 |.nilF=>some .nilF
 |.nilI=>some .nilI
 |.ptr i o=>(xT ps i).map fun j=>.ptr j o
 |.sl i o n c=>(xT ps i).map fun j=>.sl j o n c
 |.map i=>(xT ps i).map fun j=>.map j
 |.yl i=>(xT ps i).map fun j=>.yl j
 |.any _=>none
 |.sy s=>(AI ps s).map .sy
 |.iface t v=>(fy ps v).map fun u=>.iface t u
 |.fn f c=>(jd ps c).map fun u=>.fn f u
 |.agg l=>(jd ps l).map .agg
 |.tup l=>(jd ps l).map .tup
noncomputable def jd (ps:List (Nat×Nat)):List AV→Option (List AV)
 |[]=>some []
 |v::r=>(fy ps v).bind fun u=>(jd ps r).map fun l=>u::l
end
section
variable {P:Program} {E:Env} {ρ:Ren} {G:GS} {F:List aA} {M:T} {nx:Nat} {w:World} {ps:List (Nat×Nat)} {t2:Nat→Value}
theorem Sx (ho:gO ps=true) {s u:SY} {x:Value} (h:AI ps s=some u) (hd:bb E ρ s=some x):bb ⟨t2,E.M⟩ (jM ps ρ) u=some x:=by
 cases s with
 |prow i n=>
  simp only[AI,acL]at h
  obtain⟨j,h1,rfl⟩:=h
  simp only[bb,dM ho (jH h1)]at hd ⊢
  exact hd
 |psub i sz a n=>
  simp only[AI,acL]at h
  obtain⟨j,h1,rfl⟩:=h
  simp only[bb,dM ho (jH h1)]at hd ⊢
  exact hd
 |pfix i n c=>
  simp only[AI,acL]at h
  obtain⟨j,h1,rfl⟩:=h
  simp only[bb,dM ho (jH h1)]at hd ⊢
  exact hd
 |rptr i sz q o=>
  simp only[AI,acL]at h
  obtain⟨j,h1,rfl⟩:=h
  simp only[bb,dM ho (jH h1)]at hd ⊢
  exact hd
 |kmp i=>
  simp only[AI,acL]at h
  obtain⟨j,h1,rfl⟩:=h
  simp only[bb,dM ho (jH h1)]at hd ⊢
  exact hd
 |int k z=>cases h;exact hd
 |bool p=>cases h;exact hd
 |str l=>cases h;exact hd
 |imm=>cases h;exact hd
 |pim=>cases h;exact hd
mutual
theorem lB (ho:gO ps=true):∀(v u:AV) (x:Value),fy ps v=some u→den E ρ v=some x→den ⟨t2,E.M⟩ (jM ps ρ) u=some x
 |.bad,u,x,h,_=>by simp[fy]at h
 |.any _,u,x,h,_=>by simp[fy]at h
 |.int _ _,u,x,h,hd|.bool _,u,x,h,hd|.str _,u,x,h,hd|.nilP,u,x,h,hd|.nilS,u,x,h,hd|.nilM,u,x,h,hd|.nilF,u,x,h,hd|.nilI,u,x,h,hd=>by
  simp only[fy,acU]at h
  subst h
  simpa[den] using hd
 |.ptr i o,u,x,h,hd=>by
  simp only[fy,acL]at h
  obtain⟨j,h1,rfl⟩:=h
  simp only[den,dM ho (jH h1)]at hd ⊢
  exact hd
 |.sl i o n c,u,x,h,hd=>by
  simp only[fy,acL]at h
  obtain⟨j,h1,rfl⟩:=h
  simp only[den,dM ho (jH h1)]at hd ⊢
  exact hd
 |.map i,u,x,h,hd=>by
  simp only[fy,acL]at h
  obtain⟨j,h1,rfl⟩:=h
  simp only[den,dM ho (jH h1)]at hd ⊢
  exact hd
 |.yl i,u,x,h,hd=>by
  simp only[fy,acL]at h
  obtain⟨j,h1,rfl⟩:=h
  simp only[den,dM ho (jH h1)]at hd ⊢
  exact hd
 |.sy s,u,x,h,hd=>by
  simp only[fy,acL]at h
  obtain⟨s',h1,rfl⟩:=h
  simp only[den]at hd ⊢
  exact Sx ho h1 hd
 |.iface t v,u,x,h,hd=>by
  simp only[fy,acL]at h
  obtain⟨y,h1,rfl⟩:=h
  simp only[den]at hd ⊢
  rcases e:den E ρ v with _|z
  ·rw[e]at hd;cases hd
  ·rw[e]at hd;rw[lB ho v y z h1 e];exact hd
 |.fn f c,u,x,h,hd=>by
  simp only[fy,acL]at h
  obtain⟨y,h1,rfl⟩:=h
  simp only[den]at hd ⊢
  rcases e:aJ E ρ c with _|z
  ·rw[e]at hd;cases hd
  ·rw[e]at hd;rw[nu ho c y z h1 e];exact hd
 |.agg c,u,x,h,hd=>by
  simp only[fy,acL]at h
  obtain⟨y,h1,rfl⟩:=h
  simp only[den]at hd ⊢
  rcases e:aJ E ρ c with _|z
  ·rw[e]at hd;cases hd
  ·rw[e]at hd;rw[nu ho c y z h1 e];exact hd
 |.tup c,u,x,h,hd=>by
  simp only[fy,acL]at h
  obtain⟨y,h1,rfl⟩:=h
  simp only[den]at hd ⊢
  rcases e:aJ E ρ c with _|z
  ·rw[e]at hd;cases hd
  ·rw[e]at hd;rw[nu ho c y z h1 e];exact hd
theorem nu (ho:gO ps=true):∀(l m:List AV) (xs:List Value),jd ps l=some m→aJ E ρ l=some xs→aJ ⟨t2,E.M⟩ (jM ps ρ) m=some xs
 |[],m,xs,h,hd=>by
  simp only[jd,acU]at h
  subst h
  simpa[aJ] using hd
 |v::r,m,xs,h,hd=>by
  obtain⟨x,ys,h1,h2,rfl⟩:=bh hd
  simp only[jd,Option.bind_eq_some_iff,acL]at h
  obtain⟨u,g1,l,g2,rfl⟩:=h
  exact bA (lB ho v u x g1 h1) (nu ho r l ys g2 h2)
end
noncomputable def Cn (ps:List (Nat×Nat)):List (List AV)→Option (List (List AV))
 |[]=>some []
 |v::r=>(jd ps v).bind fun u=>(Cn ps r).map fun l=>u::l
theorem HH:∀{l m:List AV},jd ps l=some m→m.length=l.length
 |[],m,h=>by simp only[jd,acU]at h;subst h;rfl
 |v::r,m,h=>by
  simp only[jd,Option.bind_eq_some_iff,acL]at h
  obtain⟨u,g1,l,g2,rfl⟩:=h
  simp[HH g2]
theorem HI:∀{l m a b:List AV},jd ps l=some a→jd ps m=some b→jd ps (l++m)=some (a++b)
 |[],m,a,b,h,h2=>by simp only[jd,acU]at h;subst h;simpa using h2
 |v::r,m,a,b,h,h2=>by
  simp only[jd,Option.bind_eq_some_iff,acL]at h
  obtain⟨u,g1,l,g2,rfl⟩:=h
  simp[jd,g1,HI g2 h2]
theorem Cm:∀{l m:List (List AV)},Cn ps l=some m→jd ps l.flatten=some m.flatten∧m.length=l.length∧∀n,(∀x∈l,x.length=n)→∀x∈m,x.length=n
 |[],m,h=>by simp only[Cn,acU]at h;subst h;exact⟨rfl,rfl,fun n _ x hx=>by simp at hx⟩
 |v::r,m,h=>by
  simp only[Cn,Option.bind_eq_some_iff,acL]at h
  obtain⟨u,g1,l,g2,rfl⟩:=h
  obtain⟨h1,h2,h3⟩:=Cm g2
  refine⟨HI g1 h1,by simp[h2],fun n hn x hx=> ?_⟩
  rcases List.mem_cons.1 hx with rfl|hx
  ·rw[HH g1];exact hn v (by simp)
  ·exact h3 n (fun y hy=>hn y (by simp[hy])) x hx
noncomputable def Co (ps:List (Nat×Nat)):List (AV×AV×Nat)→Option (List (AV×AV×Nat))
 |[]=>some []
 |e::r=>(fy ps e.1).bind fun k=>(fy ps e.2.1).bind fun v=>(Co ps r).map fun l=>(k,v,e.2.2)::l
theorem Fp (ho:gO ps=true):∀{l m:List (AV×AV×Nat)} {ms:List MapEntry},Co ps l=some m→bB E ρ l=some ms→bB ⟨t2,E.M⟩ (jM ps ρ) m=some ms
 |[],m,ms,h,hd=>by
  simp only[Co,acU]at h
  subst h
  simpa[bB] using hd
 |(k,v,b)::r,m,ms,h,hd=>by
  obtain⟨x,y,ms',h1,h2,h3,rfl⟩:=dv hd
  simp only[Co,Option.bind_eq_some_iff,acL]at h
  obtain⟨k',g1,v',g2,l,g3,rfl⟩:=h
  simp only[bB,lB ho k k' x g1 h1,lB ho v v' y g2 h2,Fp ho g3 h3]
noncomputable def fY (ps:List (Nat×Nat)):AObj→Option AObj
 |.blk g Ty sz els=>(Cn ps els).map fun e=>.blk g Ty sz e
 |.map es cl=>(Co ps es).map fun e=>.map e cl
 |.prow Ty sz α l enc=>some (.prow Ty sz α l enc)
 |.kmap sure ak av α l k v=>some (.kmap sure ak av α l k v)
 |.defs=>some .defs
 |.iter ..=>none
theorem AJ (ho:gO ps=true) {e:dH} {o o':AObj} {ob:Obj} (h:fY ps o=some o') (hr:ORel E ρ e o ob):ORel ⟨t2,E.M⟩ (jM ps ρ) e o' ob:=by
 cases o with
 |blk g Ty sz els=>
  simp only[fY,acL]at h
  obtain⟨els',h1,rfl⟩:=h
  obtain⟨f1,f2,f3⟩:=Cm h1
  obtain⟨q0,q1,arr,xs,q2,q3,q4⟩:=hr
  refine⟨f3 sz q0,q1,arr,xs,q2,nu ho _ _ _ f1 q3,?_⟩
  rw[f2];exact q4
 |map es cl=>
  simp only[fY,acL]at h
  obtain⟨es',h1,rfl⟩:=h
  obtain⟨ms,q1,q2⟩:=hr
  exact⟨ms,Fp ho h1 q1,q2⟩
 |iter=>simp[fY]at h
 |defs=>
  simp only[fY,acU]at h
  subst h;exact hr
 |prow Ty sz α l enc=>
  simp only[fY,acU]at h
  subst h;exact hr
 |kmap sure ak av α l k v=>
  simp only[fY,acU]at h
  subst h
  obtain⟨es,cl,ms,h1,h2,h3⟩:=hr
  exact⟨es,cl,ms,h1,Ke (E:=E) (E':=⟨t2,E.M⟩) rfl h1 h2,h3⟩
theorem gv {e:dH} {o o':AObj} (h:fY ps o=some o'):cd e o'=cd e o∧(Cf o→Cf o'):=by
 cases o with
 |blk g Ty sz els=>
  simp only[fY,acL]at h
  obtain⟨els',h1,rfl⟩:=h
  exact⟨rfl,fun q=>q⟩
 |map es cl=>
  simp only[fY,acL]at h
  obtain⟨es',h1,rfl⟩:=h
  exact⟨rfl,fun q=>q⟩
 |iter=>simp[fY]at h
 |defs=>
  simp only[fY,acU]at h
  subst h;exact⟨rfl,fun q=>q⟩
 |prow Ty sz α l enc=>
  simp only[fY,acU]at h
  subst h;exact⟨rfl,fun q=>q⟩
 |kmap sure ak av α l k v=>
  simp only[fY,acU]at h
  subst h;exact⟨rfl,fun q=>q⟩
noncomputable def sV (ps:List (Nat×Nat)) (M:T) (l:List (Nat×Nat)):T→(T→Bool)→Bool:=List.rec (fun acc K=>K acc) (fun p _ ih acc K=>dj (M.get p.1) fun o=>dj (fY ps o) fun o'=>T.set bM acc p.2 (some o') fun acc=>ih acc K) l
theorem yT:∀{l:List (Nat×Nat)} {acc:T} {K:T→Bool},(∀j o,acc.get j=some o→∃i o0,(i,j)∈ps∧M.get i=some o0∧fY ps o0=some o)→(∀p∈l,p∈ps)→sV ps M l acc K=true→
  ∃M',K M'=true∧∀j o,M'.get j=some o→∃i o0,(i,j)∈ps∧M.get i=some o0∧fY ps o0=some o
 |[],acc,K,ha,_,h=>⟨acc,h,ha⟩
 |p::l,acc,K,ha,hl,h=>by
  have h':(dj (M.get p.1) fun o=>dj (fY ps o) fun o'=>T.set bM acc p.2 (some o') fun acc=>sV ps M l acc K)=true:=h
  obtain⟨o,h1,h2⟩:=bq h'
  obtain⟨o',h3,h4⟩:=bq h2
  obtain⟨acc',h5,s1,s2⟩:=T.set_ok _ _ _ _ _ h4
  refine yT (fun j ob hj=> ?_) (fun q hq=>hl q (by simp[hq])) h5
  by_cases e:j=p.2
  ·subst e
   rw[s1]at hj
   cases hj
   exact⟨p.1,o,hl p (by simp),h1,h3⟩
  ·rw[s2 j e]at hj
   exact ha j ob hj
noncomputable def ZY (live:List Nat) (ps:List (Nat×Nat)) (nx':Nat) (S:SL) (M:T) (K:SL→T→Nat→Bool):Bool:=
 ac (gO ps&&ps.all fun p=>Nat.blt p.2 nx') (sV ps M ps .leaf fun M'=>List.rec (motive:=fun _=>SL→Bool) (fun acc=>K acc M' nx') (fun t _ ih acc=>Option.casesOn (fy ps (bv t S)) (ih acc) fun v=>ih (.cons t v acc)) live .nil)
theorem Sim.ren (h:Sim E ρ G F M nx w) (ho:gO ps=true) {nx':Nat} (hn:∀p∈ps,p.2<nx') {M':T} (hM:∀j o,M'.get j=some o→∃i o0,(i,j)∈ps∧M.get i=some o0∧fY ps o0=some o):Sim E (jM ps ρ) G F M' nx' w:=by
 obtain⟨c,hh,hob,hinj⟩:=h.ex
 refine⟨⟨c,hh,fun j o hj=> ?_,fun j k e f o o' hj hk he hf hb1 hb2 hb=> ?_⟩,h.mem,fun j hj=> ?_⟩
 ·obtain⟨i,o0,h1,h2,h3⟩:=hM j o hj
  obtain⟨e,a1,q⟩:=hob i o0 h2
  have hB:=gv (e:=e) h3
  refine⟨e,by rw[dM ho h1];exact a1,?_⟩
  rcases q with⟨q1,ob,q2,q3⟩|⟨q1,q2⟩
  ·exact .inl ⟨by rw[hB.1];exact q1,ob,q2,AJ ho h3 q3⟩
  ·exact .inr ⟨by rw[hB.1];exact q1,hB.2 q2⟩
 ·obtain⟨i,o0,h1,h2,h3⟩:=hM j o hj
  obtain⟨i',o1,g1,g2,g3⟩:=hM k o' hk
  rw[dM ho h1]at he
  rw[dM ho g1]at hf
  rw[(gv (e:=e) h3).1]at hb1
  rw[(gv (e:=f) g3).1]at hb2
  have:=hinj i i' e f o0 o1 h2 g2 he hf hb1 hb2 hb
  subst this
  exact vn ho h1 g1
 ·unfold jM
  split
  ·rename_i p hp
   have h1:=List.mem_of_find?_eq_some hp
   have h2:=List.find?_some hp
   have:=acE h2
   have:=hn p h1
   omega
  ·rfl
theorem Vz {N:Nat} {S:SL} {a:Act} (s:SR E ρ N S a) (h:Sim E ρ G F M nx w) {live:List Nat} {nx':Nat} {K:SL→T→Nat→Bool} (hk:ZY live ps nx' S M K=true):
  ∃S' M' ρ',SR E ρ' N S' a∧Sim E ρ' G F M' nx' w∧K S' M' nx'=true∧∀i j,(i,j)∈ps→ρ' j=ρ i:=by
 obtain⟨h1,h2⟩:=ai hk
 simp only[acT]at h1
 obtain⟨M',h3,h4⟩:=yT (ps:=ps) (fun j o hj=>by simp[T.get_leaf]at hj) (fun p hp=>hp) h2
 have hn:∀p∈ps,p.2<nx':=fun p hp=>by
  have:=List.all_eq_true.1 h1.2 p hp
  simpa[acZ] using this
 have key:∀(live:List Nat) (acc:SL),SR E (jM ps ρ) N acc a→(List.rec (motive:=fun _=>SL→Bool) (fun acc=>K acc M' nx') (fun t _ ih acc=>Option.casesOn (fy ps (bv t S)) (ih acc) fun v=>ih (.cons t v acc)) live acc)=true→∃S',SR E (jM ps ρ) N S' a∧K S' M' nx'=true:=by
  intro live
  induction live with
  |nil=>exact fun acc sa hk=>⟨acc,sa,hk⟩
  |cons t live ih=>
   intro acc sa hk
   have hk':Option.casesOn (motive:=fun _=>Bool) (fy ps (bv t S)) (List.rec (motive:=fun _=>SL→Bool) (fun acc=>K acc M' nx') (fun t _ ih acc=>Option.casesOn (fy ps (bv t S)) (ih acc) fun v=>ih (.cons t v acc)) live acc)
    (fun v=>List.rec (motive:=fun _=>SL→Bool) (fun acc=>K acc M' nx') (fun t _ ih acc=>Option.casesOn (fy ps (bv t S)) (ih acc) fun v=>ih (.cons t v acc)) live (.cons t v acc))=true:=hk
   rcases e:fy ps (bv t S) with _|v
   ·rw[e]at hk'
    exact ih acc sa hk'
   ·rw[e]at hk'
    refine ih (.cons t v acc) ⟨sa.size,sa.defs,fun u=> ?_⟩ hk'
    by_cases q:t=u
    ·subst q
     rw[io]
     rcases s.at_ t with q|⟨x,q1,q2⟩
     ·rw[q]at e;simp[fy]at e
     ·exact .inr ⟨x,lB h1.1 _ _ _ e q1,q2⟩
    ·rw[kP _ _ q]
     exact sa.at_ u
 obtain⟨S',k1,k2⟩:=key live .nil ⟨s.size,s.defs,fun _=>.inl rfl⟩ h3
 exact⟨S',M',_,k1,h.ren h1.1 hn h4,k2,fun i j q=>dM h1.1 q⟩
noncomputable def acl:SY→List Nat
 |.prow i _=>[i]
 |.psub i _ _ _=>[i]
 |.pfix i _ _=>[i]
 |.rptr i _ _ _=>[i]
 |.kmp i=>[i]
 |_=>[]
mutual
noncomputable def vS:AV→List Nat
 |.ptr i _=>[i]
 |.sl i _ _ _=>[i]
 |.map i=>[i]
 |.yl i=>[i]
 |.sy s=>acl s
 |.iface _ v=>vS v
 |.fn _ c=>Bk c
 |.agg l=>Bk l
 |.tup l=>Bk l
 |_=>[]
noncomputable def Bk:List AV→List Nat
 |[]=>[]
 |v::r=>vS v++Bk r
end
noncomputable def acm:AObj→List Nat
 |.blk _ _ _ els=>Bk els.flatten
 |.map es _=>es.flatMap fun e=>vS e.1++vS e.2.1
 |_=>[]
noncomputable def pj (M:T):Nat→List Nat→List Nat→List Nat
 |0,_,seen=>seen
 |_+1,[],seen=>seen
 |n+1,i::todo,seen=>match seen.any (Nat.beq i),M.get i with
  |false,some o=>pj M n (todo++acm o) (seen++[i])
  |_,_=>pj M n todo seen
def Em:Nat→List Nat→List (Nat×Nat)
 |_,[]=>[]
 |k,i::r=>(i,k)::Em (k+1) r
def DI:Nat→List Nat→List Nat
 |0,l=>l
 |k+1,l=>DI k (k::l)
def Cx (ps:List (Nat×Nat)):Nat→Bool
 |0=>true
 |k+1=>List.any ps (fun p=>Nat.beq p.1 k&&Nat.beq p.2 k)&&Cx ps k
theorem AM {ps:List (Nat×Nat)}:∀{k:Nat},Cx ps k=true→∀i,i<k→(i,i)∈ps
 |0,_,i,hi=>by omega
 |k+1,h,i,hi=>by
  simp only[Cx,acT]at h
  rcases Nat.lt_succ_iff_lt_or_eq.1 hi with h1|rfl
  ·exact AM h.2 i h1
  ·obtain⟨p,q1,q2⟩:=List.any_eq_true.1 h.1
   simp only[acT]at q2
   have e1:=acE q2.1
   have e2:=acE q2.2
   have:p=(i,i):=by cases p;simp_all
   rw[←this];exact q1
noncomputable def TS (k:Nat) (live:List Nat) (S:SL) (M:T):List (Nat×Nat):=Em 0 (pj M 200 (DI k (live.flatMap fun t=>vS (bv t S))) [])
noncomputable def abv (k:Nat) (live:List Nat) (S:SL) (M:T) (K:SL→T→Nat→Bool):Bool:=ac (Cx (TS k live S M) k) (ZY live (TS k live S M) (TS k live S M).length S M K)
theorem WI {N k:Nat} {S:SL} {a:Act} (s:SR E ρ N S a) (h:Sim E ρ G F M nx w) {live:List Nat} {K:SL→T→Nat→Bool} (hk:abv k live S M K=true):
  ∃S' M' nx' ρ',SR E ρ' N S' a∧Sim E ρ' G F M' nx' w∧K S' M' nx'=true∧∀i e,i<k→ρ i=some e→ρ' i=some e:=by
 obtain⟨h1,h2⟩:=ai hk
 obtain⟨S',M',ρ',g1,g2,g3,g4⟩:=Vz s h h2
 exact⟨S',M',_,ρ',g1,g2,g3,fun i e q1 q2=>by rw[g4 i i (AM h1 i q1)];exact q2⟩
end
section
variable {P:Program} {E:Env} {ρ:Ren} {G:GS} {F:List aA} {M:T} {nx:Nat} {w:World}
noncomputable def OO (v:AV) (Ty sz:Nat) (α:Type) (enc:α→List PL) (M:T) (nx:Nat) (K:AV→T→Nat→Bool):Bool:=aY (eO v) (lK v fun s=>SY.casesOn s (fun _ _=>false) (fun _=>false) (fun _=>false) (fun _ _ _ _ _=>false) (fun _ _ _=>false) (fun i n=>ll M i fun Ty' sz' _ l _=>ac (Nat.beq Ty Ty') (ac (Nat.beq sz sz') (ac (aC (l=[])) (T.set bM M i (some (.prow Ty sz α [] enc)) fun M'=>K (.sy (.prow i n)) M' nx)))) (fun _ _ _ _=>false) (fun _ _ _ _=>false) (fun _ _ _=>false) (fun _=>false)) (rm v
 (ac (Nat.blt 0 sz) (T.set bM M nx (some (.prow Ty sz α [] enc)) fun M'=>fN (Nat.succ nx) fun q=>K (.sy (.prow nx 0)) M' q))
 (fun i o n c=>ac (Nat.beq o 0) (fi M i fun g Ty' sz' els=>ac (Nat.beq Ty Ty') (ac (Nat.beq sz sz') (ACap.casesOn c
  (fun c=>ac (Bool.rec true false g) (ac (Nat.beq n 0) (ac (Nat.beq (dG els) c) (ac (Nat.ble c 9223372036854775807)
   (T.set bM M i none fun M1=>T.set bM M1 nx (some (.prow Ty sz α [] enc)) fun M'=>fN (Nat.succ nx) fun q=>K (.sy (.prow nx 0)) M' q)))))
  (fun k=>ac (Nat.beq k 0) (ac g (ac (Nat.beq (dG els) n) (GO els fun pss=>aF fun l:List α=>ac (aC (l.map enc=pss))
   (T.set bM M i none fun M1=>T.set bM M1 nx (some (.prow Ty sz α l enc)) fun M'=>fN (Nat.succ nx) fun q=>K (.sy (.prow nx l.length)) M' q))))))))))
theorem Sim.nilRow (h:Sim E ρ G F M nx w) {M':T} {Ty sz:Nat} {α:Type} {enc:α→List PL} (hsz:0<sz) (h1:M'.get nx=some (.prow Ty sz α [] enc)) (h2:∀m,m≠nx→M'.get m=M.get m):Sim E (ρ.set nx ⟨0,0⟩) G F M' (nx+1) w:=by
 have h0:=h.fresh nx (acR _)
 have hle:=Ren.le_set (ρ:=ρ) ⟨0,0⟩ h0
 obtain⟨c,hh,hob,hinj⟩:=h.ex
 refine⟨⟨c,hh,fun j o hj=> ?_,fun j k e f o o' hj hk he hf hb1 hb2 hb=> ?_⟩,h.mem,fun j hj=> ?_⟩
 ·by_cases q:j=nx
  ·subst q
   rw[h1]at hj;cases hj
   exact⟨_,Ren.set_self _ _ _,.inr ⟨rfl,rfl,hsz⟩⟩
  ·rw[h2 j q]at hj
   obtain⟨e,a1,⟨q1,ob,q2,q3⟩|q1⟩:=hob j o hj
   ·exact⟨e,hle _ _ a1,.inl ⟨q1,ob,q2,q3.mono hle⟩⟩
   ·exact⟨e,hle _ _ a1,.inr q1⟩
 ·have nb:∀m e o,M'.get m=some o→ρ.set nx ⟨0,0⟩ m=some e→cd e o=true→m≠nx:=fun m e o q1 q2 q3 q4=>by
   subst q4
   rw[h1]at q1;cases q1
   rw[Ren.set_self]at q2;cases q2
   cases q3
  have nj:=nb j e o hj he hb1
  have nk:=nb k f o' hk hf hb2
  rw[h2 j nj]at hj
  rw[h2 k nk]at hk
  rw[Ren.set_ne _ nj]at he
  rw[Ren.set_ne _ nk]at hf
  exact hinj j k e f o o' hj hk he hf hb1 hb2 hb
 ·rw[Ren.set_ne _ (by omega)]
  exact h.fresh j (by omega)
theorem Sim.rekey (h:Sim E ρ G F M nx w) {i:Nat} {o o':AObj} {e e':dH} {M':T} (hi:M.get i=some o) (he:ρ i=some e) (hb:e'.b=e.b) (hB:cd e o=true) (hB':cd e' o'=true) (hr:∀ob,ORel E ρ e o ob→ORel E ρ e' o' ob)
  (h1:M'.get nx=some o') (h2:∀m,m≠nx→m≠i→M'.get m=M.get m) (h3:M'.get i=none):Sim E (ρ.set nx e') G F M' (nx+1) w:=by
 have h0:=h.fresh nx (acR _)
 have hle:=Ren.le_set (ρ:=ρ) e' h0
 have hinx:i≠nx:=fun q=>by rw[q,h0]at he;cases he
 obtain⟨c,hh,hob,hinj⟩:=h.ex
 refine⟨⟨c,hh,fun j o2 hj=> ?_,fun j k f1 f2 o1 o2 hj hk hf1 hf2 hb1 hb2 hbb=> ?_⟩,h.mem,fun j hj=> ?_⟩
 ·by_cases q:j=nx
  ·subst q
   rw[h1]at hj;cases hj
   obtain⟨f,a1,⟨q1,ob,q2,q3⟩|⟨q1,_⟩⟩:=hob i o hi
   ·rw[he]at a1;cases a1
    exact⟨e',Ren.set_self _ _ _,.inl ⟨hB',ob,by rw[hb];exact q2,(hr ob q3).mono hle⟩⟩
   ·rw[he]at a1;cases a1
    rw[hB]at q1;cases q1
  ·have qi:j≠i:=fun q=>by subst q;rw[h3]at hj;cases hj
   rw[h2 j q qi]at hj
   obtain⟨f,a1,⟨q1,ob,q2,q3⟩|q1⟩:=hob j o2 hj
   ·exact⟨f,hle _ _ a1,.inl ⟨q1,ob,q2,q3.mono hle⟩⟩
   ·exact⟨f,hle _ _ a1,.inr q1⟩
 ·have old:∀m,m≠nx→∀o3,M'.get m=some o3→m≠i∧M.get m=some o3:=fun m q o3 q2=>by
   have qi:m≠i:=fun q=>by subst q;rw[h3]at q2;cases q2
   exact⟨qi,by rw[←h2 m q qi];exact q2⟩
  by_cases q1:j=nx
  ·by_cases q2:k=nx
   ·omega
   ·exfalso
    subst q1
    rw[Ren.set_self]at hf1;cases hf1
    rw[Ren.set_ne _ q2]at hf2
    obtain⟨p1,p2⟩:=old k q2 o2 hk
    exact p1 (hinj k i f2 e o2 o p2 hi hf2 he hb2 hB (by rw[←hb,hbb]))
  ·by_cases q2:k=nx
   ·exfalso
    subst q2
    rw[Ren.set_self]at hf2;cases hf2
    rw[Ren.set_ne _ q1]at hf1
    obtain⟨p1,p2⟩:=old j q1 o1 hj
    exact p1 (hinj j i f1 e o1 o p2 hi hf1 he hb1 hB (by rw[hbb,hb]))
   ·rw[Ren.set_ne _ q1]at hf1
    rw[Ren.set_ne _ q2]at hf2
    exact hinj j k f1 f2 o1 o2 (old j q1 o1 hj).2 (old k q2 o2 hk).2 hf1 hf2 hb1 hb2 hbb
 ·rw[Ren.set_ne _ (by omega)]
  exact h.fresh j (by omega)
theorem Sim.reobj (h:Sim E ρ G F M nx w) {i:Nat} {o o':AObj} (hi:M.get i=some o) (hB:∀e,cd e o'=cd e o) (hr:∀e ob,ρ i=some e→ORel E ρ e o ob→ORel E ρ e o' ob) (hn:Cf o→Cf o') {M':T} (h1:M'.get i=some o') (h2:∀m,m≠i→M'.get m=M.get m):Sim E ρ G F M' nx w:=by
 obtain⟨c,hh,hob,hinj⟩:=h.ex
 have old:∀m o2,M'.get m=some o2→∃o3,M.get m=some o3∧∀e,cd e o2=cd e o3:=fun m o2 hm=>by
  by_cases q1:m=i
  ·subst q1
   rw[h1]at hm;cases hm
   exact⟨_,hi,hB⟩
  ·rw[h2 m q1]at hm
   exact⟨o2,hm,fun e=>rfl⟩
 refine⟨⟨c,hh,fun m o2 hm=> ?_,fun m k e f o2 o3 hm hk he hf hb1 hb2 hb=> ?_⟩,h.mem,h.fresh⟩
 ·by_cases q1:m=i
  ·subst q1
   rw[h1]at hm;cases hm
   obtain⟨e,a1,⟨b1,ob,b2,b3⟩|⟨b1,b2⟩⟩:=hob m _ hi
   ·exact⟨e,a1,.inl ⟨by rw[hB];exact b1,ob,b2,hr e ob a1 b3⟩⟩
   ·exact⟨e,a1,.inr ⟨by rw[hB];exact b1,hn b2⟩⟩
  ·rw[h2 m q1]at hm
   exact hob m o2 hm
 ·obtain⟨o4,f1,f2⟩:=old m o2 hm
  obtain⟨o5,f3,f4⟩:=old k o3 hk
  rw[f2]at hb1
  rw[f4]at hb2
  exact hinj m k e f o4 o5 f1 f3 he hf hb1 hb2 hb
theorem Kj (h:Sim E ρ G F M nx w) {v:AV} {Ty sz:Nat} {α:Type} {enc:α→List PL} {K:AV→T→Nat→Bool} (hk:OO v Ty sz α enc M nx K=true):
  ∃v' M' nx' ρ',ρ.Le ρ'∧Sim E ρ' G F M' nx' w∧K v' M' nx'=true∧(∀x,den E ρ v=some x→den E ρ' v'=some x)∧v≠ .bad:=by
 have h0:=h.fresh nx (acR _)
 rcases aX hk with⟨-,g⟩|⟨-,hk⟩
 ·replace g:=fK g
  clear hk
  obtain⟨s,rfl,g⟩:=g
  cases s<;>first|(cases g;done)|skip
  case prow i n=>
   obtain⟨Ty',sz',α',l,enc',hi,g1⟩:=hO g
   obtain⟨q1,g2⟩:=ai g1
   obtain⟨q2,g3⟩:=ai g2
   have q1:=acE q1
   have q2:=acE q2
   subst q1;subst q2
   obtain⟨hl,g4⟩:=aa g3
   subst hl
   obtain⟨M',g5,s1,s2⟩:=T.set_ok _ _ _ _ _ g4
   refine⟨_,M',nx,ρ,Ren.Le.refl _,h.reobj (o':=.prow Ty sz α [] enc) hi (fun e=>rfl) (fun e ob _ hr=> ?_) (fun q=>⟨rfl,q.2⟩) s1 s2,g5,fun x hx=>hx,by simp⟩
   obtain⟨arr,xs,o1,o2,o3,o4,o5,o6,o7⟩:=hr
   exact⟨arr,xs,o1,o2,fun y hy=>(by simp at hy),by simpa using o4,o5,o6,o7⟩
 rcases jK hk with⟨e,g⟩|⟨i,o,n,c,e,g⟩
 ·obtain⟨g1,g2⟩:=ai g
  rw[acZ]at g1
  obtain⟨M',k1,s1,s2⟩:=T.set_ok _ _ _ _ _ g2
  rw[bX]at k1
  have hle:=Ren.le_set (ρ:=ρ) ⟨0,0⟩ h0
  refine⟨_,M',nx+1,_,hle,h.nilRow g1 s1 s2,k1,(fun x hx=> ?_),(by rw[e];simp)⟩
  rw[e]at hx
  cases hx
  simp[den,bb,Ren.set_self,lj]
 ·obtain⟨q2,g2⟩:=ai g
  have q2:=acE q2
  subst q2
  obtain⟨gr,Ty',sz',els,hi,g3⟩:=cM g2
  obtain⟨q4,g5⟩:=ai g3
  obtain⟨q5,g6⟩:=ai g5
  have q4:=acE q4
  have q5:=acE q5
  subst q4;subst q5
  obtain⟨f,arr,xs,e1,e2,e3,e4,e5,e6,e7,e8,e9⟩:=h.cellsAt hi
  have hinx:i≠nx:=fun q=>by rw[q,h0]at e1;cases e1
  cases c with
  |ex c=>
   obtain⟨q1,g7⟩:=ai g6
   obtain⟨q3,g8⟩:=ai g7
   obtain⟨q6,g9⟩:=ai g8
   obtain⟨q7,g10⟩:=ai g9
   have q1:gr=false:=by cases gr;rfl;cases q1
   subst q1
   have q3:=acE q3
   subst q3
   have q6:els.length=c:=by rw[←cj];exact acE q6
   rw[Nat.ble_eq]at q7
   obtain⟨M1,k1,s1,s2⟩:=T.set_ok _ _ _ _ _ g10
   obtain⟨M',k2,s3,s4⟩:=T.set_ok _ _ _ _ _ k1
   rw[bX]at k2
   have hle:=Ren.le_set (ρ:=ρ) ⟨f.b,c+1⟩ h0
   refine⟨_,M',nx+1,_,hle,h.rekey (o':=.prow Ty sz α [] enc) (e':=⟨f.b,c+1⟩) hi e1 rfl rfl (jb rfl) (fun ob hr=> ?_) s3 (fun m a1 a2=>by rw[s4 m a1,s2 m a2]) (by rw[s4 i hinx,s1]),k2,(fun x hx=> ?_),(by rw[e];simp)⟩
   ·obtain⟨_,_,arr',xs',o1,o2,o3⟩:=hr
    simp only[cond_false]at o3
    have hl:=cm o2
    rw[eP e4,←o3,Array.length_toList]at hl
    refine⟨arr',[],o1,e5,fun y hy=>(by simp at hy),by simp[pH],?_,by simp,by simp,by simpa[maxLen] using q7⟩
    simp only[Nat.add_sub_cancel]
    rw[hl,q6]
   ·rw[e]at hx
    simp only[den,e1,dc]at hx
    cases hx
    simp[den,bb,Ren.set_self,lj]
  |rest k=>
   obtain⟨q1,g7⟩:=ai g6
   have q1:=acE q1
   subst q1
   obtain⟨q3,g8⟩:=ai g7
   subst q3
   obtain⟨q6,g9⟩:=ai g8
   have q6:els.length=n:=by rw[←cj];exact acE q6
   obtain⟨p1,p2,p3⟩:=e9 rfl
   obtain⟨pss,g10,r1,r2,r3,r4⟩:=AA e3 e4 g9
   obtain⟨l,g11⟩:=bL g10
   obtain⟨hl,g12⟩:=aa g11
   obtain⟨M1,k1,s1,s2⟩:=T.set_ok _ _ _ _ _ g12
   obtain⟨M',k2,s3,s4⟩:=T.set_ok _ _ _ _ _ k1
   rw[bX]at k2
   have hle:=Ren.le_set (ρ:=ρ) ⟨f.b,f.cap+1⟩ h0
   have hlen:l.length=els.length:=by rw[←r4,←hl,acC]
   refine⟨_,M',nx+1,_,hle,h.rekey (o':=.prow Ty sz α l enc) (e':=⟨f.b,f.cap+1⟩) hi e1 rfl rfl (jb rfl) (fun ob hr=> ?_) s3 (fun m a1 a2=>by rw[s4 m a1,s2 m a2]) (by rw[s4 i hinx,s1]),k2,(fun x hx=> ?_),(by rw[e];simp)⟩
   ·obtain⟨_,_,arr',xs',o1,o2,o3⟩:=hr
    rw[e3]at o2
    cases o2
    simp only[cond_true]at o3
    obtain⟨u1,u2,u3,u4⟩:=o3
    have hx:xs=(l.flatMap enc).map bD:=by rw[r1,←hl,List.flatMap_def]
    refine⟨arr',xs,o1,e5,fun y hy=>r3 _ (by rw[←hl];exact List.mem_map.2 ⟨y,hy,rfl⟩),by rw[hx];exact ri (fun p hp=>r2 p (by rw[←hl,←List.flatMap_def];exact hp)),by simpa using u1,by rw[hlen];exact u2,by rw[hlen];simpa using u3,by simpa using u4⟩
   ·rw[e]at hx
    simp only[den,e1,dc]at hx
    cases hx
    simp[den,bb,Ren.set_self,lj,hlen,q6]
noncomputable def Hf (t Ty sz:Nat) (α:Type) (enc:α→List PL) (S:SL) (M:T) (nx:Nat) (K:SL→T→Nat→Bool):Bool:=OO (bv t S) Ty sz α enc M nx fun v M nx=>K (.cons t v S) M nx
theorem Ki {N:Nat} {S:SL} {a:Act} (s:SR E ρ N S a) (h:Sim E ρ G F M nx w) {t Ty sz:Nat} {α:Type} {enc:α→List PL} {K:SL→T→Nat→Bool} (hk:Hf t Ty sz α enc S M nx K=true):
  ∃S' M' nx' ρ',ρ.Le ρ'∧SR E ρ' N S' a∧Sim E ρ' G F M' nx' w∧K S' M' nx'=true:=by
 obtain⟨v',M',nx',ρ',hl,h1,h2,h3,h4⟩:=Kj h hk
 refine⟨_,M',nx',ρ',hl,⟨s.size,s.defs,fun u=> ?_⟩,h1,h2⟩
 by_cases q:t=u
 ·subst q
  rw[io]
  obtain⟨x,q1,q2⟩:=(s.at_ t).resolve_left h4
  exact .inr ⟨x,h3 x q1,q2⟩
 ·rw[kP _ _ q]
  exact(s.mono hl).at_ u
theorem Sim.swap (h:Sim E ρ G F M nx w) {i q r:Nat} {g:Bool} {Ty sz:Nat} {els:List (List AV)} {el:List AV} {v v':AV} (hi:M.get i=some (.blk g Ty sz els)) (hq:els[q]?=some el) (hr:el[r]?=some v)
  (hv:∀x,den E ρ v=some x→den E ρ v'=some x) {M':T} (h1:M'.get i=some (.blk g Ty sz (els.take q++[el.take r++[v']++el.drop (r+1)]++els.drop (q+1)))) (h2:∀m,m≠i→M'.get m=M.get m):Sim E ρ G F M' nx w:=by
 obtain⟨c,hh,hob,hinj⟩:=h.ex
 have hle1:=(List.getElem?_eq_some_iff.1 hq).1
 have hle2:=(List.getElem?_eq_some_iff.1 hr).1
 have old:∀m o,M'.get m=some o→∃o2,M.get m=some o2∧∀e,cd e o=cd e o2:=fun m o hm=>by
  by_cases q1:m=i
  ·subst q1
   rw[h1]at hm;cases hm
   exact⟨_,hi,fun e=>rfl⟩
  ·rw[h2 m q1]at hm
   exact⟨o,hm,fun e=>rfl⟩
 refine⟨⟨c,hh,fun m o hm=> ?_,fun m k e f o o' hm hk he hf hb1 hb2 hb=> ?_⟩,h.mem,h.fresh⟩
 ·by_cases q1:m=i
  ·subst q1
   rw[h1]at hm;cases hm
   obtain⟨e,a1,⟨b1,ob,b2,b3⟩|⟨b1,b2⟩⟩:=hob m _ hi
   ·refine⟨e,a1,.inl ⟨rfl,ob,b2,?_⟩⟩
    obtain⟨c1,c2,arr,xs,c3,c4,c5⟩:=b3
    have hel:∀l∈els.take q++[el.take r++[v']++el.drop (r+1)]++els.drop (q+1),l.length=sz:=by
     intro l hl
     simp only[List.mem_append,List.mem_singleton]at hl
     have:=c1 el (acF hq)
     rcases hl with(hl|rfl)|hl
     ·exact c1 l (List.mem_of_mem_take hl)
     ·simp only[acA,List.length_take,List.length_drop,List.length_singleton];omega
     ·exact c1 l (List.mem_of_mem_drop hl)
    have hlen:(els.take q++[el.take r++[v']++el.drop (r+1)]++els.drop (q+1)).length=els.length:=by
     simp only[acA,List.length_take,List.length_drop,List.length_singleton];omega
    have e1:els=els.take q++[el]++els.drop (q+1):=by
     rw[acJ,List.singleton_append]
     have:=List.take_append_drop q els
     rw[List.drop_eq_getElem_cons hle1]at this
     rw[←(List.getElem?_eq_some_iff.1 hq).2];exact this.symm
    have e2:el=el.take r++[v]++el.drop (r+1):=by
     rw[acJ,List.singleton_append]
     have:=List.take_append_drop r el
     rw[List.drop_eq_getElem_cons hle2]at this
     rw[←(List.getElem?_eq_some_iff.1 hr).2];exact this.symm
    have hd:aJ E ρ (els.take q++[el.take r++[v']++el.drop (r+1)]++els.drop (q+1)).flatten=some xs:=by
     rw[e1]at c4
     simp only[List.flatten_append,acG,List.flatten_nil,List.append_nil]at c4 ⊢
     obtain⟨y1,z1,d1,d2,rfl⟩:=ee c4
     obtain⟨y2,z2,d3,d4,rfl⟩:=ee d1
     rw[e2]at d4
     obtain⟨y3,z3,d5,d6,rfl⟩:=ee d4
     obtain⟨y4,z4,d7,d8,rfl⟩:=ee d5
     obtain⟨x,_,d9,d10,rfl⟩:=bh d8
     refine dW (dW d3 (dW (dW d7 ?_) d6)) d2
     exact bA (hv x d9) d10
    refine⟨hel,c2,arr,xs,c3,hd,?_⟩
    rw[hlen];exact c5
   ·cases b1
  ·rw[h2 m q1]at hm
   exact hob m o hm
 ·obtain⟨o2,f1,f2⟩:=old m o hm
  obtain⟨o3,f3,f4⟩:=old k o' hk
  rw[f2]at hb1
  rw[f4]at hb2
  exact hinj m k e f o2 o3 f1 f3 he hf hb1 hb2 hb
noncomputable def UR (i q r Ty sz:Nat) (α:Type) (enc:α→List PL) (M:T) (nx:Nat) (K:T→Nat→Bool):Bool:=
 fi M i fun _ _ _ els=>dj (eC els q) fun el=>dj (eC el r) fun v=>aY (eO v) (K M nx) (OO v Ty sz α enc M nx fun v' M' nx'=>fi M' i fun g T2 s2 els=>dj (eC els q) fun el'=>dj (eC el' r) fun v2=>ac (aC (v2=v))
  (upd el' r [v'] fun e2=>upd els q [e2] fun els2=>T.set bM M' i (some (.blk g T2 s2 els2)) fun M2=>K M2 nx'))
theorem TR (h:Sim E ρ G F M nx w) {i q r Ty sz:Nat} {α:Type} {enc:α→List PL} {K:T→Nat→Bool} (hk:UR i q r Ty sz α enc M nx K=true):
  ∃M' nx' ρ',ρ.Le ρ'∧Sim E ρ' G F M' nx' w∧K M' nx'=true:=by
 obtain⟨g,T1,s1,els,h1,hk⟩:=cM hk
 obtain⟨el,h2,hk⟩:=bq hk
 obtain⟨v,h3,hk⟩:=bq hk
 rcases aX hk with⟨-,hk⟩|⟨-,hk⟩
 ·exact⟨M,nx,ρ,Ren.Le.refl _,h,hk⟩
 obtain⟨v',M',nx',ρ',le,sm,hk,hv,hb⟩:=Kj h hk
 obtain⟨g,T2,s2,els2,h4,hk⟩:=cM hk
 obtain⟨el2,h5,hk⟩:=bq hk
 obtain⟨v2,h6,hk⟩:=bq hk
 obtain⟨hvv,hk2⟩:=aa hk
 obtain⟨hk3,l1⟩:=dA hk2
 obtain⟨hk4,l2⟩:=dA hk3
 obtain⟨M2,hk5,g1,g2⟩:=T.set_ok _ _ _ _ _ hk4
 clear hk hk2 hk3 hk4
 subst hvv
 rw[fA]at h2 h3 h5 h6
 refine⟨M2,nx',ρ',le,sm.swap h4 h5 h6 (fun x hx=> ?_) g1 g2,hk5⟩
 -- the cell's value is known already in the old numbers
 obtain⟨e,arr,xs,e1,e2,e3,e4,e5,e6,e7,e8,e9⟩:=h.cellsAt h1
 have hmem:v2∈els.flatten:=List.mem_flatten.2 ⟨el,acF h2,acF h3⟩
 obtain⟨k,hk2⟩:=List.mem_iff_getElem?.1 hmem
 obtain⟨y,y1,_⟩:=mj e3 hk2
 have:=gP le v2 y y1
 rw[this]at hx
 cases hx
 exact hv _ y1
noncomputable def UI (i q r:Nat) (M:T) (K:T→Bool):Bool:=
 fi M i fun _ _ _ els=>dj (eC els q) fun el=>dj (eC el r) fun v=>OF v M fun u M'=>fi M' i fun g T2 s2 els=>dj (eC els q) fun el'=>dj (eC el' r) fun v2=>ac (aC (v2=v))
  (upd el' r [u] fun e2=>upd els q [e2] fun els2=>T.set bM M' i (some (.blk g T2 s2 els2)) K)
theorem TA (h:Sim E ρ G F M nx w) {i q r:Nat} {K:T→Bool} (hk:UI i q r M K=true):
  ∃E' M',Av ρ E E'∧E'.at_=E.at_∧Sim E' ρ G F M' nx w∧K M'=true:=by
 obtain⟨g,T1,s1,els,h1,hk⟩:=cM hk
 obtain⟨el,h2,hk⟩:=bq hk
 obtain⟨v,h3,hk⟩:=bq hk
 rw[fA]at h2 h3
 obtain⟨e,arr,xs,e1,e2,e3,e4,e5,e6,e7,e8,e9⟩:=h.cellsAt h1
 have hmem:v∈els.flatten:=List.mem_flatten.2 ⟨el,acF h2,acF h3⟩
 obtain⟨k,hk2⟩:=List.mem_iff_getElem?.1 hmem
 obtain⟨y,y1,_⟩:=mj e3 hk2
 obtain⟨E1,M1,u,f1,f2,f3,f4,hk3⟩:=MA h y1 hk
 obtain⟨g,T2,s2,els2,h4,hk4⟩:=cM hk3
 obtain⟨el2,h5,hk5⟩:=bq hk4
 obtain⟨v2,h6,hk6⟩:=bq hk5
 obtain⟨hvv,hk7⟩:=aa hk6
 obtain⟨hk8,l1⟩:=dA hk7
 obtain⟨hk9,l2⟩:=dA hk8
 obtain⟨M2,hk10,g1,g2⟩:=T.set_ok _ _ _ _ _ hk9
 subst hvv
 rw[fA]at h5 h6
 refine⟨E1,M2,f1,f2,f3.swap h4 h5 h6 (fun x hx=> ?_) g1 g2,hk10⟩
 rw[mf f1 _ _ y1]at hx
 cases hx
 exact gP (ρ:=fun _=>none) (fun _ _ q=>by cases q) u y f4
noncomputable def JH (v:AV) (K:AV→Bool):Bool:=AV.casesOn v (K .bad) (fun k z=>K (.int k z)) (fun b=>K (.bool b)) (fun l=>K (.str l)) (fun i o=>K (.ptr i o)) (fun i o n c=>K (.sl i o n c)) (fun i=>K (.map i)) (K .nilP) (K .nilS) (K .nilM) (K .nilF) (K .nilI) (fun t v=>K (.iface t v)) (fun f c=>K (.fn f c)) (fun i=>K (.yl i)) (fun l=>K (.agg l)) (fun l=>K (.tup l)) (fun i=>K (.any i)) (fun s=>K (.sy s))
theorem EE {v:AV} {K:AV→Bool} (h:JH v K=true):K v=true:=by
 cases v<;>exact h
noncomputable def PH (v:AV):AV:=AV.casesOn v .bad (fun k z=>.sy (.int k z)) (fun b=>.sy (.bool (b=true))) (fun l=>.sy (.str (l.map acX))) (fun i o=>.ptr i o) (fun i o n c=>.sl i o n c) (fun i=>.map i) .nilP .nilS .nilM .nilF .nilI (fun t v=>.iface t v) (fun f c=>.fn f c) (fun i=>.yl i) (fun l=>.agg l) (fun l=>.tup l) (fun i=>.any i) (fun s=>.sy s)
theorem DH {v:AV} {x:Value} (h:den E ρ v=some x):den E ρ (PH v)=some x:=by
 cases v<;>first|exact h|skip
 case bool b=>
  simp only[den]at h
  cases h
  show bb E ρ (.bool (b=true))=_
  simp only[bb,uR]
noncomputable def upX (t:Nat) (S:SL) (K:SL→Bool):Bool:=JH (PH (bv t S)) fun v=>K (.cons t v S)
theorem Xk {N:Nat} {S:SL} {a:Act} (s:SR E ρ N S a) {t:Nat} {K:SL→Bool} (hk:upX t S K=true):∃S',SR E ρ N S' a∧K S'=true:=by
 have hk:=EE hk
 refine⟨_,⟨s.size,s.defs,fun u=> ?_⟩,hk⟩
 by_cases q:t=u
 ·subst q
  rw[io]
  rcases s.at_ t with q|⟨x,q1,q2⟩
  ·rw[q];exact .inl rfl
  ·exact .inr ⟨x,DH q1,q2⟩
 ·rw[kP _ _ q]
  exact s.at_ u
noncomputable def acp (M:T) (i q r:Nat):Bool:=Option.casesOn (M.get i) false fun ob=>AObj.casesOn ob (fun _ _ _ els=>Option.casesOn (eC els q) false fun el=>Option.casesOn (eC el r) false fun _=>true) (fun _ _=>false) (fun _ _ _ _=>false) false (fun _ _ _ _ _=>false) (fun _ _ _ _ _ _ _=>false)
noncomputable def Xj (i q r:Nat) (M:T) (K:T→Bool):Bool:=aY (acp M i q r) (fi M i fun g Ty sz els=>dj (eC els q) fun el=>dj (eC el r) fun v=>JH (PH v) fun v'=>upd el r [v'] fun e2=>upd els q [e2] fun els2=>T.set bM M i (some (.blk g Ty sz els2)) K) (K M)
theorem Vh (h:Sim E ρ G F M nx w) {i q r:Nat} {K:T→Bool} (hk:Xj i q r M K=true):∃M',Sim E ρ G F M' nx w∧K M'=true:=by
 rcases aX hk with⟨-,hk⟩|⟨-,hk⟩
 case inr=>exact⟨M,h,hk⟩
 obtain⟨g,Ty,sz,els,h1,hk⟩:=cM hk
 obtain⟨el,h2,hk⟩:=bq hk
 obtain⟨v,h3,hk⟩:=bq hk
 have hk:=EE hk
 obtain⟨hk,l1⟩:=dA hk
 obtain⟨hk,l2⟩:=dA hk
 obtain⟨M2,hk,g1,g2⟩:=T.set_ok _ _ _ _ _ hk
 rw[fA]at h2 h3
 exact⟨M2,h.swap h1 h2 h3 (fun x hx=>DH hx) g1 g2,hk⟩
theorem Sim.swapM (h:Sim E ρ G F M nx w) {i:Nat} {es es':List (AV×AV×Nat)} {cl:Nat} (hi:M.get i=some (.map es cl)) (hv:∀ms,bB E ρ es=some ms→bB E ρ es'=some ms) {M':T} (h1:M'.get i=some (.map es' cl)) (h2:∀m,m≠i→M'.get m=M.get m):Sim E ρ G F M' nx w:=by
 obtain⟨c,hh,hob,hinj⟩:=h.ex
 have old:∀m o,M'.get m=some o→∃o2,M.get m=some o2∧∀e,cd e o=cd e o2:=fun m o hm=>by
  by_cases q1:m=i
  ·subst q1
   rw[h1]at hm;cases hm
   exact⟨_,hi,fun e=>rfl⟩
  ·rw[h2 m q1]at hm
   exact⟨o,hm,fun e=>rfl⟩
 refine⟨⟨c,hh,fun m o hm=> ?_,fun m k e f o o' hm hk he hf hb1 hb2 hb=> ?_⟩,h.mem,h.fresh⟩
 ·by_cases q1:m=i
  ·subst q1
   rw[h1]at hm;cases hm
   obtain⟨e,a1,⟨b1,ob,b2,b3⟩|⟨b1,b2⟩⟩:=hob m _ hi
   ·obtain⟨ms,c1,c2⟩:=b3
    exact⟨e,a1,.inl ⟨rfl,ob,b2,ms,hv ms c1,c2⟩⟩
   ·cases b1
  ·rw[h2 m q1]at hm
   exact hob m o hm
 ·obtain⟨o2,f1,f2⟩:=old m o hm
  obtain⟨o3,f3,f4⟩:=old k o' hk
  rw[f2]at hb1
  rw[f4]at hb2
  exact hinj m k e f o2 o3 f1 f3 he hf hb1 hb2 hb
noncomputable def Xl (es:List (AV×AV×Nat)) (K:List (AV×AV×Nat)→Bool):Bool:=List.rec (motive:=fun _=>(List (AV×AV×Nat)→Bool)→Bool) (fun K=>K []) (fun e _ ih K=>JH (PH e.2.1) fun v=>ih fun l=>K ((e.1,v,e.2.2)::l)) es K
theorem PI:∀{es:List (AV×AV×Nat)} {K:List (AV×AV×Nat)→Bool},Xl es K=true→∃es',K es'=true∧∀ms,bB E ρ es=some ms→bB E ρ es'=some ms
 |[],K,h=>⟨[],h,fun ms q=>q⟩
 |(k,v,b)::es,K,h=>by
  have h1:=EE (show JH (PH v) (fun v=>Xl es fun l=>K ((k,v,b)::l))=true from h)
  obtain⟨es',h2,h3⟩:=PI h1
  refine⟨_,h2,fun ms q=> ?_⟩
  obtain⟨x,y,ms',q1,q2,q3,rfl⟩:=dv q
  simp only[bB,q1,DH q2,h3 _ q3]
noncomputable def Xi (i:Nat) (M:T) (K:T→Bool):Bool:=ou M i fun es cl=>Xl es fun es'=>T.set bM M i (some (.map es' cl)) K
theorem Vf (h:Sim E ρ G F M nx w) {i:Nat} {K:T→Bool} (hk:Xi i M K=true):∃M',Sim E ρ G F M' nx w∧K M'=true:=by
 obtain⟨es,cl,h1,hk⟩:=ju hk
 obtain⟨es',hk,h2⟩:=PI (E:=E) (ρ:=ρ) hk
 obtain⟨M2,hk,g1,g2⟩:=T.set_ok _ _ _ _ _ hk
 exact⟨M2,h.swapM h1 h2 g1 g2,hk⟩
noncomputable def ZK (i:Nat) (M:T) (K:T→Bool):Bool:=fi M i fun g Ty sz _=>Bool.rec false (T.set bM M i (some (.blk true Ty sz [])) K) g
theorem Vt (h:Sim E ρ G F M nx w) {i:Nat} {K:T→Bool} (hk:ZK i M K=true):∃M',Sim E ρ G F M' nx w∧K M'=true:=by
 obtain⟨g,Ty,sz,els,h1,hk1⟩:=cM hk
 cases g with
 |false=>cases hk1
 |true=>
  obtain⟨M2,hk2,g1,g2⟩:=T.set_ok _ _ _ _ _ hk1
  obtain⟨e,ob,a1,a2,a3⟩:=h.obj h1
  obtain⟨b1,b2,arr,xs,b3,b4,b5⟩:=a3
  obtain⟨c1,c2,c3,c4⟩:=b5
  have hr:ORel E ρ e (.blk true Ty sz []) ob:=⟨by simp,b2,arr,[],b3,by simp[aJ],c1,by simp,by simp,c4⟩
  exact⟨M2,h.turn h1 a1 rfl rfl rfl (fun _ _ _=>rfl) a2 hr g1 g2,hk2⟩
theorem Sim.swapK (h:Sim E ρ G F M nx w) {i:Nat} {es:List (AV×AV×Nat)} {cl:Nat} {ak av:Bool} {α:Type} {l:List α} {kf vf:α→List PL} (hi:M.get i=some (.map es cl)) (hs:es.map (fun e=>(e.1,e.2.1))=l.map (fun x=>(df ak (kf x),df av (vf x)))) {M':T} (h1:M'.get i=some (.kmap true ak av α l kf vf)) (h2:∀m,m≠i→M'.get m=M.get m):Sim E ρ G F M' nx w:=by
 obtain⟨c,hh,hob,hinj⟩:=h.ex
 have old:∀m o,M'.get m=some o→∃o2,M.get m=some o2∧∀e,cd e o=cd e o2:=fun m o hm=>by
  by_cases q1:m=i
  ·subst q1
   rw[h1]at hm;cases hm
   exact⟨_,hi,fun e=>rfl⟩
  ·rw[h2 m q1]at hm
   exact⟨o,hm,fun e=>rfl⟩
 refine⟨⟨c,hh,fun m o hm=> ?_,fun m k e f o o' hm hk he hf hb1 hb2 hb=> ?_⟩,h.mem,h.fresh⟩
 ·by_cases q1:m=i
  ·subst q1
   rw[h1]at hm;cases hm
   obtain⟨e,a1,⟨b1,ob,b2,b3⟩|⟨b1,b2⟩⟩:=hob m _ hi
   ·obtain⟨ms,c1,c2⟩:=b3
    exact⟨e,a1,.inl ⟨rfl,ob,b2,es,cl,ms,hs,c1,c2⟩⟩
   ·cases b1
  ·rw[h2 m q1]at hm
   exact hob m o hm
 ·obtain⟨o2,f1,f2⟩:=old m o hm
  obtain⟨o3,f3,f4⟩:=old k o' hk
  rw[f2]at hb1
  rw[f4]at hb2
  exact hinj m k e f o2 o3 f1 f3 he hf hb1 hb2 hb
noncomputable def kbX (i:Nat) (ak av:Bool) (α:Type) (kf vf:α→List PL) (M:T) (K:T→Bool):Bool:=aY (isK M i) (K M) (ou M i fun es _=>aF fun l:List α=>ac (aC (es.map (fun e=>(e.1,e.2.1))=l.map (fun x=>(df ak (kf x),df av (vf x))))) (T.set bM M i (some (.kmap true ak av α l kf vf)) K))
theorem QL (h:Sim E ρ G F M nx w) {i:Nat} {ak av:Bool} {α:Type} {kf vf:α→List PL} {K:T→Bool} (hk:kbX i ak av α kf vf M K=true):∃M',Sim E ρ G F M' nx w∧K M'=true:=by
 rcases aX hk with⟨_,hk⟩|⟨_,hk⟩
 ·exact⟨M,h,hk⟩
 obtain⟨es,cl,h1,hk⟩:=ju hk
 obtain⟨l,hk⟩:=bL hk
 obtain⟨hs,hk⟩:=aa hk
 obtain⟨M2,hk,g1,g2⟩:=T.set_ok _ _ _ _ _ hk
 exact⟨M2,h.swapK h1 hs g1 g2,hk⟩
theorem Sim.reobjE (h:Sim E ρ G F M nx w) {i:Nat} {o o':AObj} {e0:dH} (hi:M.get i=some o) (he0:ρ i=some e0) (hB:cd e0 o=true) (hB':cd e0 o'=true) (hr:∀ob,ORel E ρ e0 o ob→ORel E ρ e0 o' ob) {M':T} (h1:M'.get i=some o') (h2:∀m,m≠i→M'.get m=M.get m):Sim E ρ G F M' nx w:=by
 obtain⟨c,hh,hob,hinj⟩:=h.ex
 have old:∀m o2 e,M'.get m=some o2→ρ m=some e→∃o3,M.get m=some o3∧cd e o2=cd e o3:=fun m o2 e hm he=>by
  by_cases q1:m=i
  ·subst q1
   rw[h1]at hm;cases hm
   rw[he0]at he;cases he
   exact⟨_,hi,by rw[hB,hB']⟩
  ·rw[h2 m q1]at hm
   exact⟨o2,hm,rfl⟩
 refine⟨⟨c,hh,fun m o2 hm=> ?_,fun m k e f o2 o3 hm hk he hf hb1 hb2 hb=> ?_⟩,h.mem,h.fresh⟩
 ·by_cases q1:m=i
  ·subst q1
   rw[h1]at hm;cases hm
   obtain⟨e,a1,⟨b1,ob,b2,b3⟩|⟨b1,b2⟩⟩:=hob m _ hi
   ·rw[he0]at a1;cases a1
    exact⟨_,he0,.inl ⟨hB',ob,b2,hr ob b3⟩⟩
   ·rw[he0]at a1;cases a1
    rw[hB]at b1;cases b1
  ·rw[h2 m q1]at hm
   exact hob m o2 hm
 ·obtain⟨o4,f1,f2⟩:=old m o2 e hm he
  obtain⟨o5,f3,f4⟩:=old k o3 f hk hf
  rw[f2]at hb1
  rw[f4]at hb2
  exact hinj m k e f o4 o5 f1 f3 he hf hb1 hb2 hb
theorem Sim.nilObj (h:Sim E ρ G F M nx w) {M':T} {o:AObj} (hB:cd ⟨0,0⟩ o=false) (hN:Cf o) (h1:M'.get nx=some o) (h2:∀m,m≠nx→M'.get m=M.get m):Sim E (ρ.set nx ⟨0,0⟩) G F M' (nx+1) w:=by
 have h0:=h.fresh nx (acR _)
 have hle:=Ren.le_set (ρ:=ρ) ⟨0,0⟩ h0
 obtain⟨c,hh,hob,hinj⟩:=h.ex
 refine⟨⟨c,hh,fun j o hj=> ?_,fun j k e f o o' hj hk he hf hb1 hb2 hb=> ?_⟩,h.mem,fun j hj=> ?_⟩
 ·by_cases q:j=nx
  ·subst q
   rw[h1]at hj;cases hj
   exact⟨_,Ren.set_self _ _ _,.inr ⟨hB,hN⟩⟩
  ·rw[h2 j q]at hj
   obtain⟨e,a1,⟨q1,ob,q2,q3⟩|q1⟩:=hob j o hj
   ·exact⟨e,hle _ _ a1,.inl ⟨q1,ob,q2,q3.mono hle⟩⟩
   ·exact⟨e,hle _ _ a1,.inr q1⟩
 ·have nb:∀m e o,M'.get m=some o→ρ.set nx ⟨0,0⟩ m=some e→cd e o=true→m≠nx:=fun m e o q1 q2 q3 q4=>by
   subst q4
   rw[h1]at q1;cases q1
   rw[Ren.set_self]at q2;cases q2
   rw[hB]at q3;cases q3
  have nj:=nb j e o hj he hb1
  have nk:=nb k f o' hk hf hb2
  rw[h2 j nj]at hj
  rw[h2 k nk]at hk
  rw[Ren.set_ne _ nj]at he
  rw[Ren.set_ne _ nk]at hf
  exact hinj j k e f o o' hj hk he hf hb1 hb2 hb
 ·rw[Ren.set_ne _ (by omega)]
  exact h.fresh j (by omega)
noncomputable def QJ (i q r:Nat) (M:T) (K:T→Bool):Bool:=fi M i fun g Ty sz els=>dj (eC els q) fun el=>dj (eC el r) fun v=>Hg v (fun j=>ud M j fun sure ak av α l kf vf=>aY sure false
  (ac (aY (aC (l=[])) (upd el r [.nilM] fun e2=>upd els q [e2] fun els2=>T.set bM M i (some (.blk g Ty sz els2)) K) true)
   (T.set bM M j (some (.kmap true ak av α l kf vf)) fun M1=>fi M1 i fun g Ty sz els=>dj (eC els q) fun el=>dj (eC el r) fun v2=>ac (aC (v2=v)) (upd el r [.map j] fun e2=>upd els q [e2] fun els2=>T.set bM M1 i (some (.blk g Ty sz els2)) K)))) (K M)
theorem QI (h:Sim E ρ G F M nx w) {i q r:Nat} {K:T→Bool} (hk:QJ i q r M K=true):∃M',Sim E ρ G F M' nx w∧K M'=true:=by
 obtain⟨g,Ty,sz,els,h1,hk⟩:=cM hk
 obtain⟨el,h2,hk⟩:=bq hk
 obtain⟨v,h3,hk⟩:=bq hk
 rw[fA]at h2 h3
 rcases Kv hk with⟨j,rfl,hk⟩|hk
 case inr=>exact⟨M,h,hk⟩
 obtain⟨sure,ak,av,α,l,kf,vf,hj,hk⟩:=oJ hk
 rcases aX hk with⟨_,hk⟩|⟨hs,hk⟩
 ·cases hk
 subst hs
 obtain⟨k1,k2⟩:=ai hk
 obtain⟨e,h4,q5⟩:=h.objP hj
 rcases q5 with⟨b1,ob,b2,b3⟩|⟨b1,b2⟩
 ·have b1':(false|| !Nat.beq e.cap 0)=true:=b1
  have b4:Nat.beq e.cap 0=false:=by simpa using b1'
  obtain⟨M1,k3,s1,s2⟩:=T.set_ok _ _ _ _ _ k2
  obtain⟨g,Ty,sz,els,h1,hk⟩:=cM k3
  obtain⟨el,h2,hk⟩:=bq hk
  obtain⟨v2,h3,hk⟩:=bq hk
  rw[fA]at h2 h3
  obtain⟨hvv,hk3⟩:=aa hk
  subst hvv
  obtain⟨hk4,_⟩:=dA hk3
  obtain⟨hk5,_⟩:=dA hk4
  obtain⟨M2,hk6,g1,g2⟩:=T.set_ok _ _ _ _ _ hk5
  have hS:Sim E ρ G F M1 nx w:=h.reobjE (o':=.kmap true ak av α l kf vf) hj h4 b1 rfl (fun ob q=>q) s1 s2
  refine⟨M2,hS.swap h1 h2 h3 (fun x hx=> ?_) g1 g2,hk6⟩
  simp only[den,bb,h4,b4,cond_false]at hx ⊢
  exact hx
 ·have b1':(false|| !Nat.beq e.cap 0)=false:=b1
  have b4:Nat.beq e.cap 0=true:=by simpa using b1'
  rw[prB_true.2 b2.2]at k1
  obtain⟨hk,_⟩:=dA (show(upd el r [.nilM] fun e2=>upd els q [e2] fun els2=>T.set bM M i (some (.blk g Ty sz els2)) K)=true from k1)
  obtain⟨hk,_⟩:=dA hk
  obtain⟨M2,hk,g1,g2⟩:=T.set_ok _ _ _ _ _ hk
  refine⟨M2,h.swap h1 h2 h3 (fun x hx=> ?_) g1 g2,hk⟩
  simp only[den,bb,h4,b4,cond_true]at hx ⊢
  exact hx
noncomputable def UF (v:AV) (ak av:Bool) (α:Type) (kf vf:α→List PL) (M:T) (nx:Nat) (K:AV→T→Nat→Bool):Bool:=sJ v (T.set bM M nx (some (.kmap false ak av α [] kf vf)) fun M'=>fN (Nat.succ nx) fun q=>K (.sy (.kmp nx)) M' q)
 (fun j=>kbX j ak av α kf vf M fun M1=>ud M1 j fun sure ak av α l kf vf=>ac sure (T.set bM M1 j none fun M2=>T.set bM M2 nx (some (.kmap false ak av α l kf vf)) fun M'=>fN (Nat.succ nx) fun q=>K (.sy (.kmp nx)) M' q))
theorem Tu (h:Sim E ρ G F M nx w) {v:AV} {ak av:Bool} {α:Type} {kf vf:α→List PL} {K:AV→T→Nat→Bool} (hk:UF v ak av α kf vf M nx K=true):
  ∃v' M' nx' ρ',ρ.Le ρ'∧Sim E ρ' G F M' nx' w∧K v' M' nx'=true∧(∀x,den E ρ v=some x→den E ρ' v'=some x):=by
 rcases lL hk with⟨rfl,g⟩|⟨j,rfl,g⟩
 ·obtain⟨M',k1,s1,s2⟩:=T.set_ok _ _ _ _ _ g
  rw[bX]at k1
  refine⟨_,M',nx+1,_,Ren.le_set _ (h.fresh nx (acR _)),h.nilObj (o:=.kmap false ak av α [] kf vf) rfl ⟨rfl,rfl⟩ s1 s2,k1,fun x hx=> ?_⟩
  cases hx
  simp[den,bb,Ren.set_self]
 ·obtain⟨M1,hS,k1⟩:=QL h g
  have k1:=oJ k1
  obtain⟨sure,ak2,av2,α2,l2,kf2,vf2,hj,k2⟩:=k1
  obtain⟨hs,k3⟩:=ai k2
  subst hs
  obtain⟨e,ob,h4,_,_⟩:=hS.obj hj
  obtain⟨M2,k4,s1,s2⟩:=T.set_ok _ _ _ _ _ k3
  obtain⟨M3,k5,s3,s4⟩:=T.set_ok _ _ _ _ _ k4
  rw[bX]at k5
  have h0:=hS.fresh nx (acR _)
  have hne:j≠nx:=fun q=>by rw[q,h0]at h4;cases h4
  refine⟨_,M3,nx+1,_,Ren.le_set (ρ:=ρ) ⟨e.b,1⟩ h0,hS.rekey (o':=.kmap false ak2 av2 α2 l2 kf2 vf2) (e':=⟨e.b,1⟩) hj h4 rfl rfl rfl (fun ob q=>q) s3 (fun m a1 a2=>by rw[s4 m a1,s2 m a2]) (by rw[s4 j hne,s1]),k5,fun x hx=> ?_⟩
  simp only[den,h4]at hx
  cases hx
  simp only[den,bb,Ren.set_self]
  rfl
noncomputable def QH (i q r:Nat) (ak av:Bool) (α:Type) (kf vf:α→List PL) (M:T) (nx:Nat) (K:T→Nat→Bool):Bool:=
 fi M i fun _ _ _ els=>dj (eC els q) fun el=>dj (eC el r) fun v=>aY (eO v) (K M nx) (UF v ak av α kf vf M nx fun v' M' nx'=>fi M' i fun g T2 s2 els=>dj (eC els q) fun el'=>dj (eC el' r) fun v2=>ac (aC (v2=v))
  (upd el' r [v'] fun e2=>upd els q [e2] fun els2=>T.set bM M' i (some (.blk g T2 s2 els2)) fun M2=>K M2 nx'))
theorem QG (h:Sim E ρ G F M nx w) {i q r:Nat} {ak av:Bool} {α:Type} {kf vf:α→List PL} {K:T→Nat→Bool} (hk:QH i q r ak av α kf vf M nx K=true):
  ∃M' nx' ρ',ρ.Le ρ'∧Sim E ρ' G F M' nx' w∧K M' nx'=true:=by
 obtain⟨g,T1,s1,els,h1,hk⟩:=cM hk
 obtain⟨el,h2,hk⟩:=bq hk
 obtain⟨v,h3,hk⟩:=bq hk
 rcases aX hk with⟨-,hk⟩|⟨-,hk⟩
 ·exact⟨M,nx,ρ,Ren.Le.refl _,h,hk⟩
 obtain⟨v',M',nx',ρ',le,sm,hk,hv⟩:=Tu h hk
 obtain⟨g,T2,s2,els2,h4,hk⟩:=cM hk
 obtain⟨el2,h5,hk⟩:=bq hk
 obtain⟨v2,h6,hk⟩:=bq hk
 obtain⟨hvv,hk2⟩:=aa hk
 obtain⟨hk3,l1⟩:=dA hk2
 obtain⟨hk4,l2⟩:=dA hk3
 obtain⟨M2,hk5,g1,g2⟩:=T.set_ok _ _ _ _ _ hk4
 clear hk hk2 hk3 hk4
 subst hvv
 rw[fA]at h2 h3 h5 h6
 refine⟨M2,nx',ρ',le,sm.swap h4 h5 h6 (fun x hx=> ?_) g1 g2,hk5⟩
 obtain⟨e,arr,xs,e1,e2,e3,e4,e5,e6,e7,e8,e9⟩:=h.cellsAt h1
 have hmem:v2∈els.flatten:=List.mem_flatten.2 ⟨el,acF h2,acF h3⟩
 obtain⟨k,hk2⟩:=List.mem_iff_getElem?.1 hmem
 obtain⟨y,y1,_⟩:=mj e3 hk2
 have:=gP le v2 y y1
 rw[this]at hx
 cases hx
 exact hv _ y1
noncomputable def TG (t n:Nat) (S:SL) (K:SL→Bool):Bool:=AV.casesOn (bv t S) false (fun _ _=>K S) (fun _=>false) (fun _=>false) (fun _ _=>false) (fun _ _ _ _=>false) (fun _=>false) false false false false false (fun _ _=>false) (fun _ _=>false) (fun _=>false) (fun _=>false) (fun _=>false) (fun _=>false)
 (fun s=>SY.casesOn s (fun k z=>xW n z (fun j=>fN j fun j=>K (.cons t (.int k (Int.ofNat j)) S)) 0) (fun _=>false) (fun _=>false) (fun _ _ _ _ _=>false) (fun _ _ _=>false) (fun _ _=>false) (fun _ _ _ _=>false) (fun _ _ _ _=>false) (fun _ _ _=>false) (fun _=>false))
theorem Wx {N:Nat} {S:SL} {a:Act} (s:SR E ρ N S a) {t n:Nat} {K:SL→Bool} (hk:TG t n S K=true):∃S',SR E ρ N S' a∧K S'=true:=by
 unfold TG at hk
 generalize e:bv t S=v at hk
 cases v<;>first|(cases hk;done)|exact⟨S,s,hk⟩|skip
 case sy s'=>
  cases s'<;>first|(cases hk;done)|skip
  case int k z=>
   obtain⟨j,h1,_,h2⟩:=uh (show xW n z (fun j=>fN j fun j=>K (.cons t (.int k (Int.ofNat j)) S)) 0=true from hk)
   rw[bX]at h2
   refine⟨_,⟨s.size,s.defs,fun u=> ?_⟩,h2⟩
   by_cases q:t=u
   ·subst q
    rw[io]
    rcases s.at_ t with q|⟨x,q1,q2⟩
    ·rw[e]at q;cases q
    ·refine .inr ⟨x,?_,q2⟩
     rw[e]at q1
     rw[←q1,h1]
     rfl
   ·rw[kP _ _ q]
    exact s.at_ u
noncomputable def UK (i q r n:Nat) (M:T) (K:T→Bool):Bool:=fi M i fun g Ty sz els=>dj (eC els q) fun el=>dj (eC el r) fun v=>AV.casesOn v false (fun _ _=>K M) (fun _=>false) (fun _=>false) (fun _ _=>false) (fun _ _ _ _=>false) (fun _=>false) false false false false false (fun _ _=>false) (fun _ _=>false) (fun _=>false) (fun _=>false) (fun _=>false) (fun _=>false)
 (fun s=>SY.casesOn s (fun k z=>xW n z (fun j=>fN j fun j=>upd el r [.int k (Int.ofNat j)] fun e2=>upd els q [e2] fun els2=>T.set bM M i (some (.blk g Ty sz els2)) K) 0) (fun _=>false) (fun _=>false) (fun _ _ _ _ _=>false) (fun _ _ _=>false) (fun _ _=>false) (fun _ _ _ _=>false) (fun _ _ _ _=>false) (fun _ _ _=>false) (fun _=>false))
theorem TF (h:Sim E ρ G F M nx w) {i q r n:Nat} {K:T→Bool} (hk:UK i q r n M K=true):∃M',Sim E ρ G F M' nx w∧K M'=true:=by
 obtain⟨g,Ty,sz,els,h1,hk1⟩:=cM hk
 obtain⟨el,h2,hk2⟩:=bq hk1
 obtain⟨v,h3,hk3⟩:=bq hk2
 clear hk hk1 hk2
 rw[fA]at h2 h3
 cases v<;>first|(cases hk3;done)|exact⟨M,h,hk3⟩|skip
 case sy s'=>
  cases s'<;>first|(cases hk3;done)|skip
  case int k z=>
   obtain⟨j,e1,_,e2⟩:=uh (show xW n z (fun j=>fN j fun j=>upd el r [.int k (Int.ofNat j)] fun e2=>upd els q [e2] fun els2=>T.set bM M i (some (.blk g Ty sz els2)) K) 0=true from hk3)
   rw[bX]at e2
   obtain⟨e3,l1⟩:=dA e2
   obtain⟨e4,l2⟩:=dA e3
   obtain⟨M2,e5,g1,g2⟩:=T.set_ok _ _ _ _ _ e4
   refine⟨M2,h.swap h1 h2 h3 (v':=.int k (Int.ofNat j)) (fun x hx=> ?_) g1 g2,e5⟩
   rw[←hx,e1]
   rfl
noncomputable def GZ (n:Nat) (z:Int) (K:Nat→Bool) (D:Bool):Nat→Bool:=Nat.rec (fun _=>D) (fun _ ih k=>aY (aC (z=Int.ofNat k)) (K k) (ih (Nat.succ k))) n
theorem JI {z:Int} {K:Nat→Bool} {D:Bool}:∀{n k:Nat},GZ n z K D k=true→(∃j:Nat,z=(j:Int)∧K j=true)∨D=true
 |0,k,h=>.inr h
 |n+1,k,h=>by
  have h':aY (aC (z=Int.ofNat k)) (K k) (GZ n z K D (Nat.succ k))=true:=h
  rcases jF h' with⟨q,g⟩|⟨_,g⟩
  ·exact .inl ⟨k,q,g⟩
  ·exact JI g
noncomputable def UJ (i q r n:Nat) (M:T) (K:T→Bool):Bool:=fi M i fun g Ty sz els=>dj (eC els q) fun el=>dj (eC el r) fun v=>AV.casesOn v false (fun _ _=>K M) (fun _=>false) (fun _=>false) (fun _ _=>false) (fun _ _ _ _=>false) (fun _=>false) false false false false false (fun _ _=>false) (fun _ _=>false) (fun _=>false) (fun _=>false) (fun _=>false) (fun _=>false)
 (fun s=>SY.casesOn s (fun k z=>GZ n z (fun j=>fN j fun j=>upd el r [.int k (Int.ofNat j)] fun e2=>upd els q [e2] fun els2=>T.set bM M i (some (.blk g Ty sz els2)) K) (K M) 0) (fun _=>false) (fun _=>false) (fun _ _ _ _ _=>false) (fun _ _ _=>false) (fun _ _=>false) (fun _ _ _ _=>false) (fun _ _ _ _=>false) (fun _ _ _=>false) (fun _=>false))
theorem TE (h:Sim E ρ G F M nx w) {i q r n:Nat} {K:T→Bool} (hk:UJ i q r n M K=true):∃M',Sim E ρ G F M' nx w∧K M'=true:=by
 obtain⟨g,Ty,sz,els,h1,hk1⟩:=cM hk
 obtain⟨el,h2,hk2⟩:=bq hk1
 obtain⟨v,h3,hk3⟩:=bq hk2
 clear hk hk1 hk2
 rw[fA]at h2 h3
 cases v<;>first|(cases hk3;done)|exact⟨M,h,hk3⟩|skip
 case sy s'=>
  cases s'<;>first|(cases hk3;done)|skip
  case int k z=>
   rcases JI (show GZ n z (fun j=>fN j fun j=>upd el r [.int k (Int.ofNat j)] fun e2=>upd els q [e2] fun els2=>T.set bM M i (some (.blk g Ty sz els2)) K) (K M) 0=true from hk3) with⟨j,e1,e2⟩|e2
   ·rw[bX]at e2
    obtain⟨e3,l1⟩:=dA e2
    obtain⟨e4,l2⟩:=dA e3
    obtain⟨M2,e5,g1,g2⟩:=T.set_ok _ _ _ _ _ e4
    refine⟨M2,h.swap h1 h2 h3 (v':=.int k (Int.ofNat j)) (fun x hx=> ?_) g1 g2,e5⟩
    rw[←hx,e1]
    rfl
   ·exact⟨M,h,e2⟩
end
inductive Adm:Type 1|can (k:Nat) (live:List Nat)|born (t Ty sz:Nat) (α:Type) (enc:α→List PL)|cell (i q r Ty sz:Nat) (α:Type) (enc:α→List PL)|up (t:Nat)|upc (i q r:Nat)|upm (i:Nat)|fix (t n:Nat)|frz (t:Nat)|fixc (i q r n:Nat)|frzc (i q r:Nat)|fixo (i q r n:Nat)|kb (i:Nat) (ak av:Bool) (α:Type) (kf vf:α→List PL)|die|kfork (i q r:Nat)|bors (t Ty sz:Nat) (α:Type) (enc:α→List PL)|kjoin (i q r:Nat) (ak av:Bool) (α:Type) (kf vf:α→List PL)|shr (i:Nat)
noncomputable def fw (l:List Adm):SL→T→Nat→(SL→T→Nat→Bool)→Bool:=List.rec (fun S M nx K=>K S M nx) (fun a _ ih S M nx K=>Adm.casesOn a (fun k live=>abv k live S M fun S M nx=>ih S M nx K) (fun t Ty sz α enc=>Hf t Ty sz α enc S M nx fun S M nx=>ih S M nx K) (fun i q r Ty sz α enc=>UR i q r Ty sz α enc M nx fun M nx=>ih S M nx K) (fun t=>upX t S fun S=>ih S M nx K) (fun i q r=>Xj i q r M fun M=>ih S M nx K) (fun i=>Xi i M fun M=>ih S M nx K) (fun t n=>TG t n S fun S=>ih S M nx K) (fun t=>OF (bv t S) M fun v M=>ih (.cons t v S) M nx K) (fun i q r n=>UK i q r n M fun M=>ih S M nx K) (fun i q r=>UI i q r M fun M=>ih S M nx K) (fun i q r n=>UJ i q r n M fun M=>ih S M nx K) (fun i ak av α kf vf=>kbX i ak av α kf vf M fun M=>ih S M nx K) false (fun i q r=>QJ i q r M fun M=>ih S M nx K) (fun t Ty sz α enc=>aY (eO (bv t S)) (ih S M nx K) (Hf t Ty sz α enc S M nx fun S M nx=>ih S M nx K)) (fun i q r ak av α kf vf=>QH i q r ak av α kf vf M nx fun M nx=>ih S M nx K) (fun i=>ZK i M fun M=>ih S M nx K)) l
noncomputable def yy (l:List (Nat×List Adm)) (e:Nat):List Adm:=List.rec [] (fun p _ ih=>Bool.rec ih p.2 (Nat.beq p.1 e)) l
noncomputable def NH (S:SL):Nat:=AV.casesOn (bv 0 S) 0 (fun _ z=>Int.casesOn z (fun n=>Nat.succ n) (fun _=>0)) (fun _=>0) (fun _=>0) (fun _ _=>0) (fun _ _ _ _=>0) (fun _=>0) 0 0 0 0 0 (fun _ _=>0) (fun _ _=>0) (fun _=>0) (fun _=>0) (fun _=>0) (fun _=>0) (fun _=>0)
noncomputable def aa8 (l:List (Nat×List Adm)) (e:Nat):Bool:=List.rec false (fun p _ ih=>Bool.rec ih true (Nat.beq p.1 e)) l
noncomputable def ER (l:List (Nat×List Adm)) (e:Nat) (S:SL):List Adm:=Bool.rec (yy l e) (yy l (Nat.add e (Nat.mul 1000 (NH S)))) (aa8 l (Nat.add e (Nat.mul 1000 (NH S))))
inductive XC:Type 1|bad|skip|ret|exit (k:Nat)|reg (draw:Bool) (n:Nat) (tr:XTr)|seq (x y:XC)|cond (p:XP) (x y:XC)|block (k:Nat) (c:XC)|loop (live:List Nat) (c:XC)|inv (j:Nat) (c:XC)|aft (x:XC) (l:List (Nat×List Adm))|pre (l:List Adm) (x:XC)|spc (j:Nat) (x:XC)
abbrev KC:=Nat→SL→T→Nat→Bool
noncomputable def frc (v:AV) (K0:Bool) (K:AV→Bool):Bool:=AV.casesOn v K0 (fun k z=>K (.int k z)) (fun b=>K (.bool b)) (fun l=>K (.str l)) (fun i o=>K (.ptr i o)) (fun i o n c=>K (.sl i o n c)) (fun i=>K (.map i)) (K .nilP) (K .nilS) (K .nilM) (K .nilF) (K .nilI) (fun t v=>K (.iface t v)) (fun f c=>K (.fn f c)) (fun i=>K (.yl i)) (fun l=>K (.agg l)) (fun l=>K (.tup l)) (fun i=>K (.any i)) (fun s=>K (.sy s))
theorem aa9 {v:AV} {K0:Bool} {K:AV→Bool} (h:frc v K0 K=true):(v= .bad∧K0=true)∨K v=true:=by
 cases v<;>first|exact .inr h|exact .inl ⟨rfl,h⟩
noncomputable def Cy (S:SL) (live:List Nat):SL→(SL→Bool)→Bool:=List.rec (fun acc K=>K acc) (fun t _ ih acc K=>frc (bv t S) (ih acc K) fun v=>ih (.cons t v acc) K) live
noncomputable def UO (p:XP) (S:SL) (K:Bool→SL→Bool):Bool:=XP.casesOn p (fun n=>DU n S K) (fun v=>MR v fun b=>K b S) (fun _=>false)
abbrev fE:=Nat→SL→T→Nat→KC→Bool
noncomputable def cO (cf:iy) (lp:fE) (lf:Nat) (c:XC):SL→T→Nat→KC→Bool:=XC.rec
 (fun _ _ _ _=>false) (fun S M nx K=>K 0 S M nx) (fun S M nx K=>K 1 S M nx) (fun k S M nx K=>K k S M nx)
 (fun _ _ tr S M nx K=>GN cf tr S M nx fun S M nx=>K 0 S M nx)
 (fun _ _ ihx ihy S M nx K=>ihx S M nx fun e S M nx=>Nat.casesOn e (ihy S M nx K) fun e'=>K (Nat.succ e') S M nx)
 (fun p _ _ ihx ihy S M nx K=>UO p S fun b S=>aY b (ihx S M nx K) (ihy S M nx K))
 (fun k _ ih S M nx K=>ih S M nx fun e S M nx=>aY (Nat.beq e k) (K 0 S M nx) (K e S M nx))
 (fun live _ ih S M nx K=>Nat.rec (motive:=fun _=>SL→T→Nat→Bool) (fun _ _ _=>false) (fun _ again S M nx=>Cy S live .nil fun S=>ih S M nx fun e S M nx=>Nat.casesOn e (again S M nx) fun e'=>K (Nat.succ e') S M nx) lf S M nx)
 (fun j _ _ S M nx K=>lp j S M nx K)
 (fun _ l ih S M nx K=>ih S M nx fun e S M nx=>fw (ER l e S) S M nx (K e))
 (fun l _ ih S M nx K=>fw l S M nx fun S M nx=>ih S M nx K)
 (fun j _ _ S M nx K=>lp j S M nx K) c
def EG:Nat→Exit
 |0=>.normal|1=>.ret|n+2=>.exit n
def CB:List XSt→Bool
 |[]=>true
 |.a ..::_=>false
 |_::r=>CB r
def fS (P:Program) (N:Nat):XC→Code→Bool
 |.bad,_=>true
 |.skip,.skip=>true
 |.ret,.ret=>true
 |.exit k,.exit i=>Nat.beq k (i+2)
 |.reg draw n tr,.region _ ops d=>decide (draw=d)&&Dh P ops N tr&&(match draw,tr with|true,_=>yM ops n [] (Np tr)|false,.leaf sts=>CB sts&&Nat.beq ops.size n&&decide ((sts.map fun s=>(vR s).1)=List.range n)|_,_=>false)
 |.seq x y,.seq a b=>fS P N x a&&fS P N y b
 |.cond p x y,.cond c a b=>bS p c&&fS P N x a&&fS P N y b
 |.block k c,.block i a=>Nat.beq k (i+2)&&fS P N c a
 |.loop _ c,.loop a=>fS P N c a
 |.inv _ c,.loop a=>fS P N c a
 |.aft x _,c=>fS P N x c
 |.pre _ x,c=>fS P N x c
 |.spc _ x,c=>fS P N x c
 |_,_=>false
def plain:XC→Bool
 |.seq x y=>plain x&&plain y
 |.cond _ x y=>plain x&&plain y
 |.block _ c=>plain c
 |.loop _ c=>plain c
 |.inv ..|.aft ..|.pre ..|.spc ..=>false
 |_=>true
def eL:XC→List (Bool×Nat×XC)
 |.seq x y=>eL x++eL y
 |.cond _ x y=>eL x++eL y
 |.block _ c=>eL c
 |.loop _ c=>eL c
 |.inv j c=>[(true,j,c)]
 |.aft x _=>eL x
 |.pre _ x=>eL x
 |.spc j x=>[(false,j,x)]
 |_=>[]
section
variable {P:Program} {E:Env} {ρ:Ren} {G:GS} {F:List aA} {M:T} {nx:Nat} {w:World} {N:Nat} {S:SL} {a:Act} {ops:Array Oper} {o:Oper}
theorem TP (s:SR E ρ N S a) {p:XP} {c:Operand} {K:Bool→SL→Bool} (ho:bS p c=true) (h:UO p S K=true):∃b S',a.eval c= .bool b∧SR E ρ N S' a∧K b S'=true:=by
 cases p with
 |t n=>
  cases c<;>simp only[bS]at ho<;>first|(cases ho;done)|skip
  have:=acE ho
  subst this
  obtain⟨b,S',h1,h2,h3⟩:=LR s (show DU n S K=true from h)
  exact⟨b,S',h1,h2,h3⟩
 |c v=>
  cases c<;>simp only[bS]at ho<;>first|(cases ho;done)|skip
  have hd:=ue (E:=E) (ρ:=ρ) ho
  obtain⟨b,rfl,h1⟩:=Do (show MR v (fun b=>K b S)=true from h)
  cases hd
  exact⟨b,S,rfl,s,h1⟩
 |f n=>cases h
theorem AN (s:SR E ρ N S a):∀{live:List Nat} {acc:SL} {K:SL→Bool},SR E ρ N acc a→Cy S live acc K=true→∃S',SR E ρ N S' a∧K S'=true
 |[],acc,K,sa,h=>⟨acc,sa,h⟩
 |t::live,acc,K,sa,h=>by
  have h':frc (bv t S) (Cy S live acc K) (fun v=>Cy S live (.cons t v acc) K)=true:=h
  rcases aa9 h' with⟨_,h1⟩|h1
  ·exact AN s sa h1
  ·refine AN s ⟨sa.size,sa.defs,fun u=> ?_⟩ h1
   by_cases e:t=u
   ·subst e
    rw[io]
    exact s.at_ t
   ·rw[kP _ _ e]
    exact sa.at_ u
theorem SR.nil (h1:a.tmps.size=N) (h2:a.defers=[]):SR E ρ N .nil a:=⟨h1,h2,fun _=>.inl rfl⟩
theorem pM {Q:Exit→Act→World→Prop}:∀{sts:List XSt} {a:Act} {w:World},CB sts=true→nh P ops (fun a w=>Q .normal a w) (sts.map vR) a w→wpOps P ops Q (sts.map fun s=>(vR s).1) a w
 |[],_,_,_,h=>h
 |.p i d g x::r,a,w,hn,⟨v,h1,h2⟩=>by
  rw[acH,wpOps_cons]
  exact yX ((h1 w).to (pM (Q:=Q) (by simpa[CB] using hn) h2))
 |.r i d g x::r,a,w,hn,⟨v,h1,h2⟩=>by
  rw[acH,wpOps_cons]
  exact yX (h1.to (pM (Q:=Q) (by simpa[CB] using hn) h2))
 |.e i d g x::r,a,w,hn,h=>by
  rw[acH,wpOps_cons]
  exact yX (op1.mono h fun a w h=>pM (Q:=Q) (by simpa[CB] using hn) h)
 |.c i d g f xs::r,a,w,hn,h=>by
  rw[acH,wpOps_cons]
  exact yX (op1.mono h fun a w h=>pM (Q:=Q) (by simpa[CB] using hn) h)
 |.k i d g t f xs::r,a,w,hn,h=>by
  rw[acH,wpOps_cons]
  exact yX (op1.mono h fun a w h=>pM (Q:=Q) (by simpa[CB] using hn) h)
 |.a i d g x::r,a,w,hn,h=>by simp[CB]at hn
structure Rel (fl:Bool) (pk:Nat) (E:Env) (ρ:Ren) (E':Env) (ρ':Ren):Prop where
 one:dV E'
 mem:MLe E.M E'.M
 ext:fl=true→Ext E ρ E' ρ'
 pin:∀i e,i<pk→ρ i=some e→ρ' i=some e
theorem Ext.rel {fl:Bool} {pk:Nat} {E':Env} {ρ':Ren} (h:Ext E ρ E' ρ'):Rel fl pk E ρ E' ρ':=⟨h.one,h.env.mem,fun _=>h,fun i e _ q=>h.le i e q⟩
theorem Rel.trans {fl:Bool} {pk:Nat} {E1 E2 E3:Env} {r1 r2 r3:Ren} (h:Rel fl pk E1 r1 E2 r2) (k:Rel fl pk E2 r2 E3 r3):Rel fl pk E1 r1 E3 r3:=⟨k.one,MLe.trans h.mem k.mem,fun q=>(h.ext q).trans (k.ext q),fun i e q1 q2=>k.pin i e q1 (h.pin i e q1 q2)⟩
theorem Rel.next {pk:Nat} {E1 E2:Env} {r1 r2 r3:Ren} (h:Rel false pk E1 r1 E2 r2) (k:∀i e,i<pk→r2 i=some e→r3 i=some e):Rel false pk E1 r1 E2 r3:=⟨h.one,h.mem,fun q=>(by cases q),fun i e q1 q2=>k i e q1 (h.pin i e q1 q2)⟩
theorem Rel.prev {pk:Nat} {E1 E2:Env} {r1 r2 r3:Ren} (h:Rel false pk E1 r2 E2 r3) (k:∀i e,i<pk→r1 i=some e→r2 i=some e):Rel false pk E1 r1 E2 r3:=⟨h.one,h.mem,fun q=>(by cases q),fun i e q1 q2=>h.pin i e q1 (k i e q1 q2)⟩
def cC (pk:Nat):List Adm→Bool
 |[]=>true
 |.can k _::l=>Nat.ble pk k&&cC pk l
 |.born ..::l=>cC pk l
 |.cell ..::l=>cC pk l
 |.up _::l=>cC pk l
 |.upc ..::l=>cC pk l
 |.upm _::l=>cC pk l
 |.shr _::l=>cC pk l
 |.fix ..::l=>cC pk l
 |.frz _::l=>cC pk l
 |.fixc ..::l=>cC pk l
 |.frzc ..::l=>cC pk l
 |.fixo ..::l=>cC pk l
 |.kb ..::l=>cC pk l
 |.die::l=>cC pk l
 |.kfork ..::l=>cC pk l
 |.bors ..::l=>cC pk l
 |.kjoin ..::l=>cC pk l
def GV (pk:Nat):List (Nat×List Adm)→Bool
 |[]=>true
 |p::l=>cC pk p.2&&GV pk l
def fu (pk:Nat):XC→Bool
 |.seq x y=>fu pk x&&fu pk y
 |.cond _ x y=>fu pk x&&fu pk y
 |.block _ c=>fu pk c
 |.loop _ c=>fu pk c
 |.aft x l=>fu pk x&&GV pk l
 |.pre l x=>cC pk l&&fu pk x
 |_=>true
theorem Bg {pk:Nat}:∀{l:List (Nat×List Adm)} {e:Nat},GV pk l=true→cC pk (yy l e)=true
 |[],e,_=>rfl
 |p::l,e,h=>by
  obtain⟨h1,h2⟩:=aQ h
  have:yy (p::l) e=(Bool.rec (yy l e) p.2 (Nat.beq p.1 e):List Adm):=rfl
  rw[this]
  cases Nat.beq p.1 e
  ·exact Bg h2
  ·exact h1
theorem QK {pk:Nat} {l:List (Nat×List Adm)} {e:Nat} {S:SL} (h:GV pk l=true):cC pk (ER l e S)=true:=by
 unfold ER
 cases aa8 l (Nat.add e (Nat.mul 1000 (NH S)))
 ·exact Bg h
 ·exact Bg h
theorem dq {pk:Nat}:∀{l:List Adm} {S:SL} {M:T} {nx:Nat} {E:Env} {ρ:Ren} {K:SL→T→Nat→Bool},dV E→cC pk l=true→SR E ρ N S a→Sim E ρ G F M nx w→fw l S M nx K=true→∃S' M' nx' E' ρ',dV E'∧MLe E.M E'.M∧SR E' ρ' N S' a∧Sim E' ρ' G F M' nx' w∧K S' M' nx'=true∧∀i e,i<pk→ρ i=some e→ρ' i=some e
 |[],S,M,nx,E,ρ,K,hE,_,s,h,hk=>⟨S,M,nx,E,ρ,hE,MLe.refl _,s,h,hk,fun _ _ _ q=>q⟩
 |.can k live::l,S,M,nx,E,ρ,K,hE,hp,s,h,hk=>by
  obtain⟨hp1,hp2⟩:=aQ hp
  rw[Nat.ble_eq]at hp1
  obtain⟨S1,M1,n1,ρ1,s1,h1,k1,p1⟩:=WI (K:=fun S M nx=>fw l S M nx K) s h hk
  obtain⟨S2,M2,n2,E2,ρ2,o2,m2,s2,h2,k2,p2⟩:=dq hE hp2 s1 h1 k1
  exact⟨S2,M2,n2,E2,ρ2,o2,m2,s2,h2,k2,fun i e q1 q2=>p2 i e q1 (p1 i e (Nat.lt_of_lt_of_le q1 hp1) q2)⟩
 |.born t Ty sz α enc::l,S,M,nx,E,ρ,K,hE,hp,s,h,hk=>by
  obtain⟨S1,M1,n1,ρ1,le1,s1,h1,k1⟩:=Ki (K:=fun S M nx=>fw l S M nx K) s h hk
  obtain⟨S2,M2,n2,E2,ρ2,o2,m2,s2,h2,k2,p2⟩:=dq hE (show cC pk l=true from hp) s1 h1 k1
  exact⟨S2,M2,n2,E2,ρ2,o2,m2,s2,h2,k2,fun i e q1 q2=>p2 i e q1 (le1 i e q2)⟩
 |.cell i q r Ty sz α enc::l,S,M,nx,E,ρ,K,hE,hp,s,h,hk=>by
  obtain⟨M1,n1,ρ1,le1,h1,k1⟩:=TR (K:=fun M nx=>fw l S M nx K) h hk
  obtain⟨S2,M2,n2,E2,ρ2,o2,m2,s2,h2,k2,p2⟩:=dq hE (show cC pk l=true from hp) (s.mono le1) h1 k1
  exact⟨S2,M2,n2,E2,ρ2,o2,m2,s2,h2,k2,fun i e q1 q2=>p2 i e q1 (le1 i e q2)⟩
 |.up t::l,S,M,nx,E,ρ,K,hE,hp,s,h,hk=>by
  obtain⟨S1,s1,k1⟩:=Xk (K:=fun S=>fw l S M nx K) s hk
  exact dq hE (show cC pk l=true from hp) s1 h k1
 |.upc i q r::l,S,M,nx,E,ρ,K,hE,hp,s,h,hk=>by
  obtain⟨M1,h1,k1⟩:=Vh (K:=fun M=>fw l S M nx K) h hk
  exact dq hE (show cC pk l=true from hp) s h1 k1
 |.upm i::l,S,M,nx,E,ρ,K,hE,hp,s,h,hk=>by
  obtain⟨M1,h1,k1⟩:=Vf (K:=fun M=>fw l S M nx K) h hk
  exact dq hE (show cC pk l=true from hp) s h1 k1
 |.shr i::l,S,M,nx,E,ρ,K,hE,hp,s,h,hk=>by
  obtain⟨M1,h1,k1⟩:=Vt (K:=fun M=>fw l S M nx K) h hk
  exact dq hE (show cC pk l=true from hp) s h1 k1
 |.kb i ak av α kf vf::l,S,M,nx,E,ρ,K,hE,hp,s,h,hk=>by
  obtain⟨M1,h1,k1⟩:=QL (K:=fun M=>fw l S M nx K) h hk
  exact dq hE (show cC pk l=true from hp) s h1 k1
 |.kfork i q r::l,S,M,nx,E,ρ,K,hE,hp,s,h,hk=>by
  obtain⟨M1,h1,k1⟩:=QI (K:=fun M=>fw l S M nx K) h hk
  exact dq hE (show cC pk l=true from hp) s h1 k1
 |.kjoin i q r ak av α kf vf::l,S,M,nx,E,ρ,K,hE,hp,s,h,hk=>by
  obtain⟨M1,n1,ρ1,le1,h1,k1⟩:=QG (K:=fun M nx=>fw l S M nx K) h hk
  obtain⟨S2,M2,n2,E2,ρ2,o2,m2,s2,h2,k2,p2⟩:=dq hE (show cC pk l=true from hp) (s.mono le1) h1 k1
  exact⟨S2,M2,n2,E2,ρ2,o2,m2,s2,h2,k2,fun i e q1 q2=>p2 i e q1 (le1 i e q2)⟩
 |.bors t Ty sz α enc::l,S,M,nx,E,ρ,K,hE,hp,s,h,hk=>by
  rcases aX (show aY (eO (bv t S)) (fw l S M nx K) (Hf t Ty sz α enc S M nx fun S M nx=>fw l S M nx K)=true from hk) with⟨_,hk⟩|⟨_,hk⟩
  ·exact dq hE (show cC pk l=true from hp) s h hk
  obtain⟨S1,M1,n1,ρ1,le1,s1,h1,k1⟩:=Ki (K:=fun S M nx=>fw l S M nx K) s h hk
  obtain⟨S2,M2,n2,E2,ρ2,o2,m2,s2,h2,k2,p2⟩:=dq hE (show cC pk l=true from hp) s1 h1 k1
  exact⟨S2,M2,n2,E2,ρ2,o2,m2,s2,h2,k2,fun i e q1 q2=>p2 i e q1 (le1 i e q2)⟩
 |.die::l,S,M,nx,E,ρ,K,hE,hp,s,h,hk=>by cases(show false=true from hk)
 |.fix t n::l,S,M,nx,E,ρ,K,hE,hp,s,h,hk=>by
  obtain⟨S1,s1,k1⟩:=Wx (K:=fun S=>fw l S M nx K) s hk
  exact dq hE (show cC pk l=true from hp) s1 h k1
 |.frz t::l,S,M,nx,E,ρ,K,hE,hp,s,h,hk=>by
  have hk':(OF (bv t S) M fun v M=>fw l (.cons t v S) M nx K)=true:=hk
  have hne:bv t S≠ .bad:=fun e=>by rw[e]at hk';cases hk'
  obtain⟨x,q1,q2⟩:=(s.at_ t).resolve_left hne
  obtain⟨E1,M1,u,e1,e2,e3,e4,k1⟩:=MA h q1 hk'
  have hE1:dV E1:=⟨fun i=>by rw[e2];exact hE.1 i,Tied.mono e1.mem hE.2⟩
  have s1:SR E1 ρ N (.cons t u S) a:=⟨s.size,s.defs,fun r=>by
   by_cases q:t=r
   ·subst q
    rw[io]
    exact .inr ⟨x,gP (ρ:=fun _=>none) (fun _ _ q=>by cases q) u x e4,q2⟩
   ·rw[kP _ _ q]
    exact(s.at_ r).imp id fun⟨y,y1,y2⟩=>⟨y,mf e1 _ _ y1,y2⟩⟩
  obtain⟨S2,M2,n2,E2,ρ2,o2,m2,s2,h2,k2,p2⟩:=dq hE1 (show cC pk l=true from hp) s1 e3 k1
  exact⟨S2,M2,n2,E2,ρ2,o2,MLe.trans e1.mem m2,s2,h2,k2,p2⟩
 |.frzc i q r::l,S,M,nx,E,ρ,K,hE,hp,s,h,hk=>by
  obtain⟨E1,M1,e1,e2,h1,k1⟩:=TA (K:=fun M=>fw l S M nx K) h hk
  have hE1:dV E1:=⟨fun i=>by rw[e2];exact hE.1 i,Tied.mono e1.mem hE.2⟩
  have s1:SR E1 ρ N S a:=⟨s.size,s.defs,fun r=>(s.at_ r).imp id fun⟨y,y1,y2⟩=>⟨y,mf e1 _ _ y1,y2⟩⟩
  obtain⟨S2,M2,n2,E2,ρ2,o2,m2,s2,h2,k2,p2⟩:=dq hE1 (show cC pk l=true from hp) s1 h1 k1
  exact⟨S2,M2,n2,E2,ρ2,o2,MLe.trans e1.mem m2,s2,h2,k2,p2⟩
 |.fixo i q r n::l,S,M,nx,E,ρ,K,hE,hp,s,h,hk=>by
  obtain⟨M1,h1,k1⟩:=TE (K:=fun M=>fw l S M nx K) h hk
  exact dq hE (show cC pk l=true from hp) s h1 k1
 |.fixc i q r n::l,S,M,nx,E,ρ,K,hE,hp,s,h,hk=>by
  obtain⟨M1,h1,k1⟩:=TF (K:=fun M=>fw l S M nx K) h hk
  exact dq hE (show cC pk l=true from hp) s h1 k1
def dI (P:Program) (N pk:Nat) (lp:fE) (b:Bool) (j:Nat) (x:XC):Prop:=∀(c:Code) (S:SL) (M:T) (nx:Nat) (E:Env) (ρ:Ren) (G:GS) (F:List aA) (a:Act) (w:World) (K:KC) (Q:Exit→Act→World→Prop),dV E→fS P N x c=true→SR E ρ N S a→Sim E ρ G F M nx w→lp j S M nx K=true→
 (∀e S' M' nx' E' ρ' a' w',K e S' M' nx'=true→Rel false pk E ρ E' ρ'→SR E' ρ' N S' a'→Sim E' ρ' G F M' nx' w'→Q (EG e) a' w')→(bif b then Code.loop c else c).wp P Q a w
theorem BH (hm:P.follows .mixedOrders=true) {cf:iy} (hcf:gQ P cf) {lp:fE} {lf:Nat} {fl:Bool} {pk:Nat}:∀(xc:XC) (c:Code) {S:SL} {M:T} {nx:Nat} {E:Env} {ρ:Ren} {a:Act} {w:World} {K:KC} {Q:Exit→Act→World→Prop},dV E→(fl=true→plain xc=true)→fu pk xc=true→(∀b j x,(b,j,x)∈eL xc→dI P N pk lp b j x)→fS P N xc c=true→SR E ρ N S a→Sim E ρ G F M nx w→cO cf lp lf xc S M nx K=true→
  (∀e S' M' nx' E' ρ' a' w',K e S' M' nx'=true→Rel fl pk E ρ E' ρ'→SR E' ρ' N S' a'→Sim E' ρ' G F M' nx' w'→Q (EG e) a' w')→c.wp P Q a w:=by
 intro xc
 induction xc with
 |bad=>
  intro c S M nx E ρ a w K Q hE hfl hkp hlp hc s h hk hq
  cases hk
 |skip=>
  intro c S M nx E ρ a w K Q hE hfl hkp hlp hc s h hk hq
  cases c<;>simp only[fS]at hc<;>first|(cases hc;done)|skip
  exact wp_skip (hq 0 _ _ _ _ _ _ _ hk (Ext.of hE (Ren.Le.refl _)).rel s h)
 |ret=>
  intro c S M nx E ρ a w K Q hE hfl hkp hlp hc s h hk hq
  cases c<;>simp only[fS]at hc<;>first|(cases hc;done)|skip
  exact wp_ret (hq 1 _ _ _ _ _ _ _ hk (Ext.of hE (Ren.Le.refl _)).rel s h)
 |exit k=>
  intro c S M nx E ρ a w K Q hE hfl hkp hlp hc s h hk hq
  cases c<;>simp only[fS]at hc<;>first|(cases hc;done)|skip
  have:=acE hc
  subst this
  exact wp_exit (hq _ _ _ _ _ _ _ _ hk (Ext.of hE (Ren.Le.refl _)).rel s h)
 |reg draw n tr=>
  intro c S M nx E ρ a w K Q hE hfl hkp hlp hc s h hk hq
  cases c<;>simp only[fS]at hc<;>first|(cases hc;done)|skip
  rename_i id ops d
  obtain⟨hc,c3⟩:=aQ hc
  obtain⟨c1,c2⟩:=aQ hc
  rw[decide_eq_true_eq]at c1
  subst c1
  cases draw with
  |true=>
   refine DB hm n _ c3 ?_
   exact Az hE hcf s h.drawn (fun S' M' nx' E' ρ' a' w' k1 k2 k3 k4=>hq 0 _ _ _ _ _ _ _ k1 k2.rel k3 k4) c2 hk
  |false=>
   cases tr with
   |split x y t u=>cases c3
   |leaf sts=>
    have hall:∀st∈sts,pI P ops N st=true:=fun st hst=>List.all_eq_true.1 c2 st hst
    obtain⟨hc,c5⟩:=aQ c3
    obtain⟨c3,c4⟩:=aQ hc
    rw[decide_eq_true_eq]at c5
    have c4:=acE c4
    refine wp_region ?_
    rw[c4,←c5]
    exact pM c3 (DT hcf hE hall s h hk fun S' M' nx' E' ρ' a' w' k1 k2 k3 k4=>hq 0 _ _ _ _ _ _ _ k1 k2.rel k3 k4)
 |seq x y ihx ihy=>
  intro c S M nx E ρ a w K Q hE hfl hkp hlp hc s h hk hq
  cases c<;>simp only[fS]at hc<;>first|(cases hc;done)|skip
  obtain⟨c1,c2⟩:=aQ hc
  refine wp_seq (ihx _ hE (fun q=>(aQ (hfl q)).1) (aQ hkp).1 (fun b j x h=>hlp b j x (List.mem_append.2 (.inl h))) c1 s h hk fun e S' M' nx' E' ρ' a' w' k1 k2 k3 k4=> ?_)
  match e,k1 with
  |0,k1=>exact ihy _ k2.one (fun q=>(aQ (hfl q)).2) (aQ hkp).2 (fun b j x h=>hlp b j x (List.mem_append.2 (.inr h))) c2 k3 k4 k1 fun e S2 M2 nx2 E2 ρ2 a2 w2 j1 j2=>hq e _ _ _ _ _ _ _ j1 (k2.trans j2)
  |1,k1=>exact hq 1 _ _ _ _ _ _ _ k1 k2 k3 k4
  |n+2,k1=>exact hq (n+2) _ _ _ _ _ _ _ k1 k2 k3 k4
 |cond p x y ihx ihy=>
  intro c S M nx E ρ a w K Q hE hfl hkp hlp hc s h hk hq
  cases c<;>simp only[fS]at hc<;>first|(cases hc;done)|skip
  obtain⟨hc,c3⟩:=aQ hc
  obtain⟨c1,c2⟩:=aQ hc
  obtain⟨b,S,h2,s,h4⟩:=TP s c1 hk
  rcases aX h4 with⟨rfl,h5⟩|⟨rfl,h5⟩
  ·exact wp_cond_true h2 (ihx _ hE (fun q=>(aQ (hfl q)).1) (aQ hkp).1 (fun b j x h=>hlp b j x (List.mem_append.2 (.inl h))) c2 s h h5 hq)
  ·exact wp_cond_false h2 (ihy _ hE (fun q=>(aQ (hfl q)).2) (aQ hkp).2 (fun b j x h=>hlp b j x (List.mem_append.2 (.inr h))) c3 s h h5 hq)
 |block k x ih=>
  intro c S M nx E ρ a w K Q hE hfl hkp hlp hc s h hk hq
  cases c<;>simp only[fS]at hc<;>first|(cases hc;done)|skip
  rename_i i cc
  obtain⟨c1,c2⟩:=aQ hc
  have c1:=acE c1
  subst c1
  refine wp_block (ih _ hE hfl hkp hlp c2 s h hk fun e S' M' nx' E' ρ' a' w' k1 k2 k3 k4=> ?_)
  rcases aX k1 with⟨q,g1⟩|⟨q,g1⟩
  ·have he:=acE q
   have h0:=hq 0 _ _ _ _ _ _ _ g1 k2 k3 k4
   rw[he]
   simp only[EG,Exit.inBlock,if_true]
   exact h0
  ·have:=hq e _ _ _ _ _ _ _ g1 k2 k3 k4
   match e,q,this with
   |0,_,this=>exact this
   |1,_,this=>exact this
   |n+2,q,this=>
    have hne:¬n=i:=fun e=>by subst e;simp at q
    simp only[EG,Exit.inBlock,if_neg hne]
    exact this
 |loop live x ih=>
  intro c S M nx E ρ a w K Q hE hfl hkp hlp hc s h hk hq
  cases c<;>simp only[fS]at hc<;>first|(cases hc;done)|skip
  rename_i cc
  refine wp_loop_rounds lf ?_
  have key:∀(n:Nat) {S:SL} {M:T} {nx:Nat} {E:Env} {ρ:Ren} {a:Act} {w:World},dV E→SR E ρ N S a→Sim E ρ G F M nx w→
    (Nat.rec (motive:=fun _=>SL→T→Nat→Bool) (fun _ _ _=>false) (fun _ again S M nx=>Cy S live .nil fun S=>cO cf lp lf x S M nx fun e S M nx=>Nat.casesOn e (again S M nx) fun e'=>K (Nat.succ e') S M nx) n S M nx)=true→
    (∀e S' M' nx' E' ρ' a' w',K e S' M' nx'=true→Rel fl pk E ρ E' ρ'→SR E' ρ' N S' a'→Sim E' ρ' G F M' nx' w'→Q (EG e) a' w')→Code.rounds P cc Q n a w:=by
   intro n
   induction n with
   |zero=>intro S M nx E ρ a w _ _ _ hk;cases hk
   |succ n ihn=>
    intro S M nx E ρ a w hE s h hk hq
    obtain⟨S1,s1,hk1⟩:=AN s (SR.nil s.size s.defs) hk
    refine ih _ hE hfl hkp hlp hc s1 h hk1 fun e S' M' nx' E' ρ' a' w' k1 k2 k3 k4=> ?_
    match e,k1 with
    |0,k1=>exact ihn k2.one k3 k4 k1 fun e S2 M2 nx2 E2 ρ2 a2 w2 j1 j2=>hq e _ _ _ _ _ _ _ j1 (k2.trans j2)
    |1,k1=>exact hq 1 _ _ _ _ _ _ _ k1 k2 k3 k4
    |m+2,k1=>exact hq (m+2) _ _ _ _ _ _ _ k1 k2 k3 k4
  exact key lf hE s h hk hq
 |inv j x ih=>
  intro c S M nx E ρ a w K Q hE hfl hkp hlp hc s h hk hq
  cases c<;>simp only[fS]at hc<;>first|(cases hc;done)|skip
  cases fl with
  |true=>exact absurd (hfl rfl) (by simp[plain])
  |false=>exact hlp true j x (by simp[eL]) _ S M nx E ρ G F a w K Q hE hc s h hk hq
 |aft x l ih=>
  intro c S M nx E ρ a w K Q hE hfl hkp hlp hc s h hk hq
  cases fl with
  |true=>exact absurd (hfl rfl) (by simp[plain])
  |false=>
   have hc':fS P N x c=true:=by
    cases c<;>exact hc
   refine ih c hE (fun q=>by cases q) (aQ hkp).1 hlp hc' s h hk fun e S' M' nx' E' ρ' a' w' k1 k2 k3 k4=> ?_
   obtain⟨S2,M2,n2,E2,ρ2,o2,m2,s2,h2,g2,p2⟩:=dq k2.one (QK (aQ hkp).2) k3 k4 k1
   exact hq e S2 M2 n2 E2 ρ2 a' w' g2 (k2.trans ⟨o2,m2,fun q=>(by cases q),p2⟩) s2 h2
 |pre l x ih=>
  intro c S M nx E ρ a w K Q hE hfl hkp hlp hc s h hk hq
  cases fl with
  |true=>exact absurd (hfl rfl) (by simp[plain])
  |false=>
   have hc':fS P N x c=true:=by
    cases c<;>exact hc
   obtain⟨S2,M2,n2,E2,ρ2,o2,m2,s2,h2,g2,p2⟩:=dq (K:=fun S M nx=>cO cf lp lf x S M nx K) hE (aQ hkp).1 s h hk
   exact ih c o2 (fun q=>by cases q) (aQ hkp).2 hlp hc' s2 h2 g2 fun e S' M' nx' E' ρ' a' w' k1 k2 k3 k4=>hq e S' M' nx' E' ρ' a' w' k1 (Rel.trans ⟨o2,m2,fun q=>(by cases q),p2⟩ k2) k3 k4
 |spc j x ih=>
  intro c S M nx E ρ a w K Q hE hfl hkp hlp hc s h hk hq
  cases fl with
  |true=>exact absurd (hfl rfl) (by simp[plain])
  |false=>
   have hc':fS P N x c=true:=by
    cases c<;>exact hc
   exact hlp false j x (by simp[eL]) c S M nx E ρ G F a w K Q hE hc' s h hk hq
end
inductive XRes|none|one (t:Nat)|two (t u:Nat)|cell (t:Nat) (agg:Bool) (n:Nat)|ct (t:Nat) (agg:Bool) (n u:Nat)|three (t u v:Nat)
inductive XF:Type 1|mk (N:Nat) (res:XRes) (body:XC)
noncomputable def HF (r:XRes) (S:SL) (M:T) (K:AV→Bool):Bool:=XRes.casesOn r (K (.tup [])) (fun t=>nb (bv t S) K) (fun t u=>nb (bv t S) fun x=>nb (bv u S) fun y=>K (.tup [x,y])) (fun t agg n=>nb (bv t S) fun p=>Mq agg n p M K) (fun t agg n u=>nb (bv t S) fun p=>Mq agg n p M fun v=>nb (bv u S) fun y=>K (.tup [v,y])) (fun t u v=>nb (bv t S) fun x=>nb (bv u S) fun y=>nb (bv v S) fun z=>K (.tup [x,y,z]))
noncomputable def zE (vs:List AV):Nat→SL→(SL→Bool)→Bool:=List.rec (fun _ S K=>K S) (fun v _ ih n S K=>ih (Nat.succ n) (.cons n v S) K) vs
def Kh (P:Program) (r:XRes) (rs:List ResultVar):Bool:=match r,rs with
 |.none,[]=>true
 |.one t,[.tmp t']=>Nat.beq t t'
 |.two t u,[.tmp t',.tmp u']=>Nat.beq t t'&&Nat.beq u u'
 |.three t u v,[.tmp t',.tmp u',.tmp v']=>Nat.beq t t'&&Nat.beq u u'&&Nat.beq v v'
 |.cell t agg n,[.cell t' ty]=>Nat.beq t t'&&decide (isAg P ty=some agg)&&decide (szOf P ty=some n)
 |.ct t agg n u,[.cell t' ty,.tmp u']=>Nat.beq t t'&&decide (isAg P ty=some agg)&&decide (szOf P ty=some n)&&Nat.beq u u'
 |_,_=>false
def fD:XF→XC
 |.mk _ _ b=>b
def nOf:XF→Nat
 |.mk n _ _=>n
def bE (P:Program) (f:Nat) (xf:XF):Bool:=match xf,P.funcs[f]? with
 |.mk N res body,some fn=>(match fn.body with|some c=>Nat.beq fn.ntmps N&&Kh P res fn.results.toList&&fS P N body c|none=>false)
 |_,none=>false
abbrev cq:=List AV→T→Nat→(AV→T→Nat→Bool)→Bool
inductive ES:Type 1|mk (k:Nat) (sp:cq)
noncomputable def fP (l:List (Nat×Nat)):(List (Nat×Nat)→Bool)→Bool:=List.rec (fun K=>K []) (fun p _ ih K=>fN p.1 fun a=>fN p.2 fun b=>ih fun l=>K ((a,b)::l)) l
theorem Hc:∀{l:List (Nat×Nat)} {K:List (Nat×Nat)→Bool},fP l K=K l
 |[],K=>rfl
 |p::l,K=>by
  have:fP (p::l) K=(fN p.1 fun a=>fN p.2 fun b=>fP l fun l=>K ((a,b)::l)):=rfl
  rw[this,bX,bX,Hc]
def Km (n:Nat) (ps:List (Nat×Nat)):Bool:=ps.all fun p=>Nat.blt p.2 n
theorem Gx {n:Nat} {ps:List (Nat×Nat)} (h:Km n ps=true):∀p∈ps,p.2<n:=fun p hp=>by
 have:=List.all_eq_true.1 h p hp
 simpa[acZ] using this
noncomputable def OL (k:Nat) (v:AV) (M:T) (K:AV→T→Nat→Bool):Bool:=fP (Em 0 (pj M 200 (DI k (vS v)) [])) fun ps=>ac (Cx ps k) (ac (gO ps) (fN ps.length fun n=>ac (Km n ps) (sV ps M ps .leaf fun M'=>dj (fy ps v) fun v'=>K v' M' n)))
noncomputable def TO (l:List (Nat×Nat)):T→(T→Bool)→Bool:=List.rec (fun M K=>K M) (fun p _ ih M K=>T.set bM M p.1 none fun M=>ih M K) l
noncomputable def lkB (ps:List (Nat×Nat)) (j:Nat):Nat:=List.rec 0 (fun p _ ih=>Bool.rec ih p.1 (Nat.beq p.2 j)) ps
noncomputable def aaf (k nx:Nat) (ps:List (Nat×Nat)) (l:List Nat):List (Nat×Nat):=List.rec [] (fun j _ ih=>(j,Bool.rec (Nat.add nx j) (lkB ps j) (Nat.blt j k))::ih) l
def aag (k nx n:Nat) (ps qs:List (Nat×Nat)):Bool:=qs.all fun q=>Nat.blt q.1 n&&((Nat.blt q.1 k&&ps.any fun p=>Nat.beq p.1 q.2&&Nat.beq p.2 q.1)||(Nat.ble k q.1&&Nat.beq q.2 (nx+q.1)))
noncomputable def ze (k:Nat) (sp:cq) (vs:List AV) (M:T) (nx:Nat) (K:AV→T→Nat→Bool):Bool:=fP (Em 0 (pj M 200 (Bk vs) [])) fun ps=>ac (gO ps) (fN ps.length fun n=>ac (Km n ps) (dj (jd ps vs) fun us=>sV ps M ps .leaf fun Ml=>sp us Ml n fun v M' n'=>
 fP (aaf k nx ps (pj M' 200 (DI k (vS v)) [])) fun qs=>ac (gO qs) (ac (aag k nx n' ps qs) (dj (fy qs v) fun v'=>TO ps M fun M1=>sV qs M' qs M1 fun M2=>fN (nx+n') fun n2=>K v' M2 n2))))
noncomputable def He (tab:Nat→Option XF) (nat:Nat→List AV→Option ES) (lp:fE) (lf:Nat):Nat→iy:=Nat.rec (fun f vs M nx K=>Option.casesOn (nat f vs) false fun es=>ES.casesOn es fun k sp=>ze k sp vs M nx K) (fun _ ih f vs M nx K=>Option.casesOn (nat f vs) (dj (tab f) fun xf=>XF.casesOn xf fun N res body=>
 ac (Nat.ble (dG vs) N) (zE vs 0 .nil fun S=>cO ih lp lf body S M nx fun e S M nx=>aY (Nat.blt 1 e) false (HF res S M fun v=>K v M nx))) fun es=>ES.casesOn es fun k sp=>ze k sp vs M nx K)
noncomputable def bW (k:Nat) (cf:iy) (lp:fE) (lf:Nat) (xf:XF) (vs:List AV) (M:T) (nx:Nat) (K:AV→T→Nat→Bool):Bool:=XF.casesOn xf fun N res body=>ac (Nat.ble (dG vs) N) (zE vs 0 .nil fun S=>cO cf lp lf body S M nx fun e S M nx=>aY (Nat.blt 1 e) false (HF res S M fun v=>OL k v M K))
section
variable {P:Program} {E:Env} {ρ:Ren} {G:GS} {F:List aA} {M:T} {nx:Nat} {w:World} {N:Nat} {S:SL} {a:Act} {ops:Array Oper} {o:Oper} {pk:Nat}
theorem Kx:∀{vs:List AV} {xs:List Value} {n:Nat} {S:SL} {K:SL→Bool},aJ E ρ vs=some xs→(∀i x,xs[i]?=some x→a.tmps.getD (n+i) undef=x)→SR E ρ N S a→zE vs n S K=true→∃S',SR E ρ N S' a∧K S'=true
 |[],xs,n,S,K,_,_,s,h=>⟨S,s,h⟩
 |v::vs,xs,n,S,K,hd,hx,s,h=>by
  obtain⟨y,ys,h1,h2,rfl⟩:=bh hd
  have h':zE vs (Nat.succ n) (.cons n v S) K=true:=h
  refine Kx h2 (fun i x hi=> ?_) ⟨s.size,s.defs,fun t=> ?_⟩ h'
  ·have:=hx (i+1) x (by simpa using hi)
   rw[show n+(i+1)=Nat.succ n+i by omega]at this
   exact this
  ·by_cases e:n=t
   ·subst e
    rw[io]
    exact .inr ⟨y,h1,hx 0 y rfl⟩
   ·rw[kP _ _ e]
    exact s.at_ t
theorem kJ (s:SR E ρ N S a) {t:Nat} {K:AV→Bool} (h:nb (bv t S) K=true):∃x,den E ρ (bv t S)=some x∧a.tmps.getD t undef=x∧K (bv t S)=true:=by
 obtain⟨h1,h2⟩:=UA h
 obtain⟨x,h3,h4⟩:=(s.at_ t).resolve_left h1
 exact⟨x,h3,h4,h2⟩
theorem Vy (s:SR E ρ N S a) (h:Sim E ρ G F M nx w) {fn:Func} {r:XRes} {K:AV→Bool} (hc:Kh P r fn.results.toList=true) (hk:HF r S M K=true):∃v z,den E ρ v=some z∧K v=true∧(results fn a.tmps).run P w= .ok z w:=by
 unfold Kh at hc
 split at hc
 ·rename_i h1
  have hr:=ox h1
  exact⟨.tup [],.tuple #[],by simp[den,aJ],hk,results_none hr _ _ _⟩
 ·rename_i t t' h1
  have hr:=ox h1
  have:=acE hc
  subst this
  obtain⟨x,g1,g2,g3⟩:=kJ s (show nb (bv t S) K=true from hk)
  exact⟨_,x,g1,g3,by rw[results_tmp hr,g2]⟩
 ·rename_i t u t' u' h1
  have hr:=ox h1
  obtain⟨c1,c2⟩:=aQ hc
  have c1:=acE c1
  have c2:=acE c2
  subst c1;subst c2
  obtain⟨x,g1,g2,g3⟩:=kJ s (show nb (bv t S) (fun x=>nb (bv u S) fun y=>K (.tup [x,y]))=true from hk)
  obtain⟨y,g4,g5,g6⟩:=kJ s (show nb (bv u S) (fun y=>K (.tup [bv t S,y]))=true from g3)
  exact⟨_,.tuple #[x,y],by simp only[den,aJ,g1,g4],g6,by rw[results_tmp2 hr,g2,g5]⟩
 ·rename_i t u v t' u' v' h1
  have hr:=ox h1
  obtain⟨c1,c3⟩:=aQ hc
  obtain⟨c1,c2⟩:=aQ c1
  have c1:=acE c1
  have c2:=acE c2
  have c3:=acE c3
  subst c1;subst c2;subst c3
  obtain⟨x,g1,g2,g3⟩:=kJ s (show nb (bv t S) (fun x=>nb (bv u S) fun y=>nb (bv v S) fun z=>K (.tup [x,y,z]))=true from hk)
  obtain⟨y,g4,g5,g6⟩:=kJ s (show nb (bv u S) (fun y=>nb (bv v S) fun z=>K (.tup [bv t S,y,z]))=true from g3)
  obtain⟨z,g7,g8,g9⟩:=kJ s (show nb (bv v S) (fun z=>K (.tup [bv t S,bv u S,z]))=true from g6)
  refine⟨_,.tuple #[x,y,z],by simp only[den,aJ,g1,g4,g7],g9,?_⟩
  simp at g2 g5 g8
  simp[results,hr,g2,g5,g8]
 ·rename_i t agg n t' ty h1
  have hr:=ox h1
  obtain⟨hc,c3⟩:=aQ hc
  obtain⟨c1,c2⟩:=aQ hc
  rw[decide_eq_true_eq]at c2 c3
  have c1:=acE c1
  subst c1
  obtain⟨x,g1,g2,g3⟩:=kJ s (show nb (bv t S) (fun p=>Mq agg n p M K)=true from hk)
  have fin:∀{u:AV} {z:Value},den E ρ u=some z→K u=true→(Instr.loadAt ty x).run P w= .ok z w→∃v z,den E ρ v=some z∧K v=true∧(results fn a.tmps).run P w= .ok z w:=by
   intro u z d1 d2 d3
   refine⟨u,z,d1,d2,?_⟩
   have e1:a.tmps[t]?.getD undef=x:=by simpa using g2
   cases x with
   |pointer p=>
    cases p with
    |some ad=>
     simp only[Instr.loadAt,Instr.sureAddr,Sem.run_bind,Sem.run_pure,Result.andThen_ok]at d3
     simp[results,hr,e1,asAddr,d3]
    |none=>simp[Instr.loadAt,Instr.sureAddr]at d3
   |_=>simp[Instr.loadAt,Instr.sureAddr]at d3
  obtain⟨u,z,d1,d2,d3⟩:=IS (P:=P) h g1 g3 c2 c3
  exact fin d1 d2 d3
 ·rename_i t agg n v0 t' ty u' h1
  have hr:=ox h1
  obtain⟨hc,c4⟩:=aQ hc
  obtain⟨hc,c3⟩:=aQ hc
  obtain⟨c1,c2⟩:=aQ hc
  rw[decide_eq_true_eq]at c2 c3
  have c1:=acE c1
  subst c1
  have c4:=acE c4
  subst c4
  obtain⟨x,g1,g2,g3⟩:=kJ s (show nb (bv t S) (fun p=>Mq agg n p M fun v=>nb (bv v0 S) fun y=>K (.tup [v,y]))=true from hk)
  obtain⟨u,z,d1,d2,d3⟩:=IS (P:=P) h g1 g3 c2 c3
  obtain⟨y,e1,e2,e3⟩:=kJ s d2
  refine⟨_,.tuple #[z,y],by simp only[den,aJ,d1,e1],e3,?_⟩
  rw[results_cell_tmp hr,g2,e2]
  cases x with
  |pointer p=>
   cases p with
   |some ad=>
    simp only[Instr.loadAt,Instr.sureAddr,Sem.run_bind,Sem.run_pure,Result.andThen_ok]at d3
    simp[asAddr,d3]
   |none=>simp[Instr.loadAt,Instr.sureAddr]at d3
  |_=>simp[Instr.loadAt,Instr.sureAddr]at d3
 ·cases hc
theorem HG:∀{ps l:List (Nat×Nat)} {M acc:T} {K:T→Bool},sV ps M l acc K=true→∀p∈l,∃o,M.get p.1=some o
 |ps,[],M,acc,K,h,p,hp=>by simp at hp
 |ps,q::l,M,acc,K,h,p,hp=>by
  have h':(dj (M.get q.1) fun o=>dj (fY ps o) fun o'=>T.set bM acc q.2 (some o') fun acc=>sV ps M l acc K)=true:=h
  obtain⟨o,h1,h2⟩:=bq h'
  obtain⟨o',h3,h4⟩:=bq h2
  obtain⟨acc',h5,s1,s2⟩:=T.set_ok _ _ _ _ _ h4
  rcases List.mem_cons.1 hp with rfl|hp
  ·exact⟨o,h1⟩
  ·exact HG h5 p hp
theorem Fo:∀{ps l:List (Nat×Nat)} {M M1 acc:T} {K:T→Bool},(∀j o,acc.get j=some o→(∃i o0,(i,j)∈ps∧M.get i=some o0∧fY ps o0=some o)∨M1.get j=some o)→(∀p∈l,p∈ps)→sV ps M l acc K=true→
  ∃M',K M'=true∧∀j o,M'.get j=some o→(∃i o0,(i,j)∈ps∧M.get i=some o0∧fY ps o0=some o)∨M1.get j=some o
 |ps,[],M,M1,acc,K,ha,_,h=>⟨acc,h,ha⟩
 |ps,p::l,M,M1,acc,K,ha,hl,h=>by
  have h':(dj (M.get p.1) fun o=>dj (fY ps o) fun o'=>T.set bM acc p.2 (some o') fun acc=>sV ps M l acc K)=true:=h
  obtain⟨o,h1,h2⟩:=bq h'
  obtain⟨o',h3,h4⟩:=bq h2
  obtain⟨acc',h5,s1,s2⟩:=T.set_ok _ _ _ _ _ h4
  refine Fo (fun j ob hj=> ?_) (fun q hq=>hl q (by simp[hq])) h5
  by_cases e:j=p.2
  ·subst e
   rw[s1]at hj
   cases hj
   exact .inl ⟨p.1,o,hl p (by simp),h1,h3⟩
  ·rw[s2 j e]at hj
   exact ha j ob hj
theorem MI:∀{l:List (Nat×Nat)} {M:T} {K:T→Bool},TO l M K=true→∃M',K M'=true∧(∀j o,M'.get j=some o→M.get j=some o∧∀p∈l,p.1≠j)
 |[],M,K,h=>⟨M,h,fun j o hj=>⟨hj,fun p hp=>by simp at hp⟩⟩
 |p::l,M,K,h=>by
  have h':(T.set bM M p.1 none fun M=>TO l M K)=true:=h
  obtain⟨M1,h1,s1,s2⟩:=T.set_ok _ _ _ _ _ h'
  obtain⟨M2,h2,h3⟩:=MI h1
  refine⟨M2,h2,fun j o hj=> ?_⟩
  obtain⟨q1,q2⟩:=h3 j o hj
  have hne:p.1≠j:=fun e=>by rw[←e,s1]at q1;cases q1
  refine⟨by rw[←s2 j (fun e=>hne e.symm)];exact q1,fun r hr=> ?_⟩
  rcases List.mem_cons.1 hr with rfl|hr
  ·exact hne
  ·exact q2 r hr
theorem VC {k nx n:Nat} {ps qs:List (Nat×Nat)} (h:aag k nx n ps qs=true):∀q∈qs,q.1<n∧((q.1<k∧(q.2,q.1)∈ps)∨(k≤q.1∧q.2=nx+q.1)):=fun q hq=>by
 have:=List.all_eq_true.1 h q hq
 simp only[acT,Bool.or_eq_true,acZ,Nat.ble_eq]at this
 obtain⟨h1,h2⟩:=this
 refine⟨h1,?_⟩
 rcases h2 with⟨h2,h3⟩|⟨h2,h3⟩
 ·obtain⟨p,q1,q2⟩:=List.any_eq_true.1 h3
  simp only[acT]at q2
  have e1:=acE q2.1
  have e2:=acE q2.2
  have:p=(q.2,q.1):=by cases p;simp_all
  rw[this]at q1
  exact .inl ⟨h2,q1⟩
 ·exact .inr ⟨h2,acE h3⟩
theorem WJ (h:Sim E ρ G F M nx w) {k:Nat} {v:AV} {x:Value} {K:AV→T→Nat→Bool} (hd:den E ρ v=some x) (hk:OL k v M K=true):
  ∃v' M' n' ρ',Sim E ρ' G F M' n' w∧den E ρ' v'=some x∧K v' M' n'=true∧∀i e,i<k→ρ i=some e→ρ' i=some e:=by
 unfold OL at hk
 rw[Hc]at hk
 generalize Em 0 (pj M 200 (DI k (vS v)) [])=ps at hk
 obtain⟨h1,hk⟩:=ai hk
 obtain⟨h2,hk⟩:=ai hk
 rw[bX]at hk
 obtain⟨h3,hk⟩:=ai hk
 obtain⟨M',h4,h5⟩:=yT (ps:=ps) (fun j o hj=>by simp[T.get_leaf]at hj) (fun p hp=>hp) hk
 obtain⟨v',h6,h7⟩:=bq h4
 exact⟨v',M',_,jM ps ρ,h.ren h2 (Gx h3) h5,lB h2 _ _ _ h6 hd,h7,fun i e q1 q2=>by rw[dM h2 (AM h1 i q1)];exact q2⟩
def bR (P:Program) (f k:Nat) (sp:cq):Prop:=∀(us:List AV) (xs:List Value) (E:Env) (ρ:Ren) (G:GS) (F:List aA) (M:T) (nx:Nat) (w:World) (K:AV→T→Nat→Bool) (R:Ending→World→Prop),dV E→Sim E ρ G F M nx w→aJ E ρ us=some xs→sp us M nx K=true→
 (∀v M' nx' E' ρ' w' z,K v M' nx'=true→dV E'→MLe E.M E'.M→(∀i e,i<k→ρ i=some e→ρ' i=some e)→Sim E' ρ' G F M' nx' w'→den E' ρ' v=some z→R (.returned z) w')→Calls P f xs.toArray w R
theorem Iz {f k:Nat} {sp:cq} (hn:bR P f k sp) {vs:List AV} {xs:List Value} {K:AV→T→Nat→Bool} {R:Ending→World→Prop} (hE:dV E) (h:Sim E ρ G F M nx w) (hd:aJ E ρ vs=some xs) (hk:ze k sp vs M nx K=true)
  (hr:∀v M' nx' E' ρ' w' z,K v M' nx'=true→Ext E ρ E' ρ'→Sim E' ρ' G F M' nx' w'→den E' ρ' v=some z→R (.returned z) w'):Calls P f xs.toArray w R:=by
 classical
 unfold ze at hk
 rw[Hc]at hk
 generalize Em 0 (pj M 200 (Bk vs) [])=ps at hk
 obtain⟨h1,hk⟩:=ai hk
 rw[bX]at hk
 obtain⟨h2,hk⟩:=ai hk
 have h2:=Gx h2
 obtain⟨us,h3,hk⟩:=bq hk
 have hall:=HG hk
 obtain⟨Ml,hsp,hMl⟩:=yT (ps:=ps) (fun j o hj=>by simp[T.get_leaf]at hj) (fun p hp=>hp) hk
 obtain⟨c,hh,hob,hinj⟩:=h.ex
 let B:Nat×Obj→Bool:=fun q=>decide (∃p∈ps,∃e o,ρ p.1=some e∧e.b=q.1∧M.get p.1=some o∧cd e o=true)
 have hB:∀q:Nat×Obj,B q=true↔∃p∈ps,∃e o,ρ p.1=some e∧e.b=q.1∧M.get p.1=some o∧cd e o=true:=fun q=>by simp only[B,decide_eq_true_eq]
 have hh1:Holds {G with M:=E.M} w (c.filter B::c.filter (fun q=> !B q)::F):=hh.perm (by
  simp only[acG,←acJ]
  exact(List.filter_append_perm B c).append_right _)
 have hs:Sim E (jM ps ρ) G (c.filter (fun q=> !B q)::F) Ml ps.length w:=by
  refine⟨⟨c.filter B,hh1,fun j o hj=> ?_,fun j k e f o o' hj hk he hf hb1 hb2 hb=> ?_⟩,h.mem,fun j hj=> ?_⟩
  ·obtain⟨i,o0,g1,g2,g3⟩:=hMl j o hj
   obtain⟨e,a1,q⟩:=hob i o0 g2
   have hHB:=gv (e:=e) g3
   refine⟨e,by rw[dM h1 g1];exact a1,?_⟩
   rcases q with⟨q1,ob,q2,q3⟩|⟨q1,q2⟩
   ·exact .inl ⟨by rw[hHB.1];exact q1,ob,List.mem_filter.2 ⟨q2,(hB _).2 ⟨(i,j),g1,e,o0,a1,rfl,g2,q1⟩⟩,AJ h1 g3 q3⟩
   ·exact .inr ⟨by rw[hHB.1];exact q1,hHB.2 q2⟩
  ·obtain⟨i,o0,g1,g2,g3⟩:=hMl j o hj
   obtain⟨i',o1,f1,f2,f3⟩:=hMl k o' hk
   rw[dM h1 g1]at he
   rw[dM h1 f1]at hf
   rw[(gv (e:=e) g3).1]at hb1
   rw[(gv (e:=f) f3).1]at hb2
   have:=hinj i i' e f o0 o1 g2 f2 he hf hb1 hb2 hb
   subst this
   exact vn h1 g1 f1
  ·unfold jM
   split
   ·rename_i p hp
    have q1:=List.mem_of_find?_eq_some hp
    have q2:=List.find?_some hp
    have:=acE q2
    have:=h2 p q1
    omega
   ·rfl
 refine hn us xs E (jM ps ρ) G _ Ml _ w _ R hE hs (nu h1 _ _ _ h3 hd) hsp fun v M' n' E' ρ' w' z kv hE' hm hpin hs' hz=> ?_
 rw[Hc]at kv
 generalize aaf k nx ps (pj M' 200 (DI k (vS v)) [])=qs at kv
 obtain⟨g1,kv⟩:=ai kv
 obtain⟨g2,kv⟩:=ai kv
 have g2:=VC g2
 obtain⟨v',g3,kv⟩:=bq kv
 obtain⟨M1,kv,hM1⟩:=MI kv
 obtain⟨M2,kv,hM2⟩:=Fo (M1:=M1) (fun j o hj=>.inr hj) (fun p hp=>hp) kv
 rw[bX]at kv
 obtain⟨c',hh',hob',hinj'⟩:=hs'.ex
 let ρo:Ren:=fun i=>if i<nx then ρ i else ρ' (i - nx)
 have lt:∀i e,ρ i=some e→i<nx:=fun i e q=>by
  by_cases q1:i<nx
  ·exact q1
  ·rw[h.fresh i (by omega)]at q;cases q
 have hle:ρ.Le ρo:=fun i e q=>by simp only[ρo,if_pos (lt i e q)];exact q
 have hq:∀j i,(j,i)∈qs→∀e,ρ' j=some e→ρo i=some e:=fun j i hji e he=>by
  obtain⟨q1,⟨q2,q3⟩|⟨q2,q3⟩⟩:=g2 _ hji
  ·obtain⟨o,ho⟩:=hall _ q3
   obtain⟨e0,a1,_⟩:=hob _ _ ho
   have:=hpin j e0 q2 (by rw[dM h1 q3];exact a1)
   rw[this]at he
   cases he
   exact hle _ _ a1
  ·simp only at q2 q3
   have:¬i<nx:=by omega
   simp only[ρo,if_neg this]
   rw[show i - nx=j by omega];exact he
 have hrle:(jM qs ρ').Le ρo:=fun i e q=>by
  unfold jM at q
  split at q
  ·rename_i p hp
   have q1:=List.mem_of_find?_eq_some hp
   have q2:=List.find?_some hp
   have q2:=acE q2
   subst q2
   exact hq p.1 p.2 q1 e q
  ·cases q
 have hEE:Av ρ E ⟨E.at_,E'.M⟩:=⟨fun _ _ _=>rfl,hm⟩
 refine hr v' M2 (nx+n') ⟨E.at_,E'.M⟩ ρo w' z kv ⟨hEE,hle,hE.1,hE'.2⟩ ⟨⟨c'++c.filter (fun q=> !B q),?_,fun id o hid=> ?_,fun i j e f o o' hi hj he hf hb1 hb2 hb=> ?_⟩,hs'.mem,fun i hi=> ?_⟩ (gP hrle _ _ (lB g1 _ _ _ g3 hz))
 ·exact hh'.perm (by simp)
 ·rcases hM2 id o hid with⟨j,o0,p1,p2,p3⟩|p1
  ·obtain⟨e,a1,q⟩:=hob' j o0 p2
   have hHB:=gv (e:=e) p3
   refine⟨e,hq j id p1 e a1,?_⟩
   rcases q with⟨q1,ob,q2,q3⟩|⟨q1,q2⟩
   ·exact .inl ⟨by rw[hHB.1];exact q1,ob,List.mem_append.2 (.inl q2),(AJ (t2:=E.at_) g1 p3 q3).mono hrle⟩
   ·exact .inr ⟨by rw[hHB.1];exact q1,hHB.2 q2⟩
  ·obtain⟨q1,q2⟩:=hM1 id o p1
   obtain⟨e,a1,q⟩:=hob id o q1
   refine⟨e,hle _ _ a1,?_⟩
   rcases q with⟨r1,ob,r2,r3⟩|r
   ·refine .inl ⟨r1,ob,List.mem_append.2 (.inr (List.mem_filter.2 ⟨r2,?_⟩)),(r3.env hEE).mono hle⟩
    have:¬B (e.b,ob)=true:=fun hb=>by
     obtain⟨p,s1,e2,o2,s2,s3,s4,s5⟩:=(hB _).1 hb
     exact q2 p s1 (hinj p.1 id e2 e o2 o s4 q1 s2 a1 s5 r1 s3)
    simpa using this
   ·exact .inr r
 ·have nd:=hh'.nodup
  simp only[acG,List.map_append]at nd
  have ap:∀b,b∈c'.map (·.1)→b∈(c.filter fun q=> !B q).map (·.1)→False:=fun b b1 b2=>
   (List.nodup_append.1 nd).2.2 b b1 b (List.mem_append.2 (.inl b2)) rfl
  have blkN:∀id o e,(∃j o0,(j,id)∈qs∧M'.get j=some o0∧fY qs o0=some o)→ρo id=some e→cd e o=true→e.b∈c'.map (·.1):=by
   rintro id o e ⟨j,o0,p1,p2,p3⟩ he hb
   obtain⟨e2,a1,q⟩:=hob' j o0 p2
   have:=hq j id p1 e2 a1
   rw[this]at he;cases he
   rcases q with⟨q1,ob,q2,q3⟩|⟨q1,q2⟩
   ·exact List.mem_map.2 ⟨_,q2,rfl⟩
   ·rw[(gv (e:=e) p3).1,q1]at hb;cases hb
  have blkO:∀id o e,M1.get id=some o→ρo id=some e→cd e o=true→e.b∈(c.filter fun q=> !B q).map (·.1):=by
   intro id o e p1 he hb
   obtain⟨q1,q2⟩:=hM1 id o p1
   obtain⟨e2,a1,q⟩:=hob id o q1
   rw[hle _ _ a1]at he;cases he
   rcases q with⟨r1,ob,r2,r3⟩|⟨r1,r2⟩
   ·refine List.mem_map.2 ⟨_,List.mem_filter.2 ⟨r2,?_⟩,rfl⟩
    have:¬B (e.b,ob)=true:=fun hb=>by
     obtain⟨p,s1,e3,o2,s2,s3,s4,s5⟩:=(hB _).1 hb
     exact q2 p s1 (hinj p.1 id e3 e o2 o s4 q1 s2 a1 s5 r1 s3)
    simpa using this
   ·rw[r1]at hb;cases hb
  rcases hM2 i o hi with m1|m1<;>rcases hM2 j o' hj with m2|m2
  ·obtain⟨j1,o1,p1,p2,p3⟩:=m1
   obtain⟨j2,o2,r1,r2,r3⟩:=m2
   obtain⟨e1,a1,_⟩:=hob' j1 o1 p2
   obtain⟨e2,a2,_⟩:=hob' j2 o2 r2
   have x1:=hq _ _ p1 _ a1
   have x2:=hq _ _ r1 _ a2
   rw[x1]at he;cases he
   rw[x2]at hf;cases hf
   rw[(gv (e:=e) p3).1]at hb1
   rw[(gv (e:=f) r3).1]at hb2
   have:=hinj' j1 j2 e f o1 o2 p2 r2 a1 a2 hb1 hb2 hb
   subst this
   exact vn g1 p1 r1
  ·exact(ap _ (blkN i o e m1 he hb1) (by rw[hb];exact blkO j o' f m2 hf hb2)).elim
  ·exact(ap _ (blkN j o' f m2 hf hb2) (by rw[←hb];exact blkO i o e m1 he hb1)).elim
  ·obtain⟨q1,_⟩:=hM1 i o m1
   obtain⟨q2,_⟩:=hM1 j o' m2
   obtain⟨e1,a1,_⟩:=hob i o q1
   obtain⟨e2,a2,_⟩:=hob j o' q2
   rw[hle _ _ a1]at he;cases he
   rw[hle _ _ a2]at hf;cases hf
   exact hinj i j e f o o' q1 q2 a1 a2 hb1 hb2 hb
 ·have:¬i<nx:=by omega
  simp only[ρo,if_neg this]
  exact hs'.fresh _ (by omega)
theorem LL (hm:P.follows .mixedOrders=true) {cf:iy} (hcf:gQ P cf) {lp:fE} {lf:Nat} {fl:Bool} {pk:Nat} {f N:Nat} {res:XRes} {body:XC} (hf:bE P f (.mk N res body)=true) (hfl:fl=true→plain body=true) (hkp:fu pk body=true) (hlp:∀b j x,(b,j,x)∈eL body→dI P N pk lp b j x)
  {vs:List AV} {xs:List Value} (hE:dV E) (h:Sim E ρ G F M nx w) (hd:aJ E ρ vs=some xs) {K:AV→T→Nat→Bool} {R:Ending→World→Prop}
  (h2:ac (Nat.ble (dG vs) N) (zE vs 0 .nil fun S=>cO cf lp lf body S M nx fun e S M nx=>aY (Nat.blt 1 e) false (HF res S M fun v=>K v M nx))=true)
  (hr:∀v M' nx' E' ρ' w' z,K v M' nx'=true→Rel fl pk E ρ E' ρ'→Sim E' ρ' G F M' nx' w'→den E' ρ' v=some z→R (.returned z) w'):Calls P f xs.toArray w R:=by
 unfold bE at hf
 split at hf
 case h_2=>cases hf
 rename_i N' res' body' fn hx hfn
 cases hx
 split at hf
 case h_2=>cases hf
 rename_i c hb
 obtain⟨hf,c3⟩:=aQ hf
 obtain⟨c1,c2⟩:=aQ hf
 have c1:=acE c1
 obtain⟨h3,h4⟩:=ai h2
 rw[Nat.ble_eq,cj]at h3
 have hlen:=cm hd
 refine calls_of_wp hfn hb ?_
 have hsz:(xs.toArray++Array.replicate (fn.ntmps - xs.toArray.size) undef).size=N:=by simp;omega
 obtain⟨S,s,h5⟩:=Kx (a:={tmps:=xs.toArray++Array.replicate (fn.ntmps - xs.toArray.size) undef,defers:=[]}) (N:=N) hd (fun i x hi=>by
  have hlt:=(List.getElem?_eq_some_iff.1 hi).1
  have hv:=(List.getElem?_eq_some_iff.1 hi).2
  simp only[Nat.zero_add,Array.getD,hsz]
  rw[dif_pos (by omega)]
  simp[Array.getElem_append,hlt,hv]) (SR.nil hsz rfl) h4
 refine BH hm hcf body c hE hfl hkp hlp c3 s h h5 fun e S' M' nx' E' ρ' a' w' k1 k2 k3 k4=> ?_
 rcases aX k1 with⟨_,g1⟩|⟨q,g1⟩
 ·cases g1
 ·obtain⟨v,z,r1,r2,r3⟩:=Vy k3 k4 c2 g1
  have hR:=hr v M' nx' E' ρ' w' z r2 k2 k4 r1
  match e,q with
  |0,_=>exact⟨k3.defs,z,r3,hR⟩
  |1,_=>exact⟨k3.defs,z,r3,hR⟩
  |n+2,q=>
   have:Nat.blt 1 (n+2)=true:=by rw[acZ];omega
   rw[this]at q;cases q
theorem BJ (hm:P.follows .mixedOrders=true) {tab:Nat→Option XF} {nat:Nat→List AV→Option ES} {lp:fE} {lf:Nat} (htab:∀f xf,tab f=some xf→bE P f xf=true∧plain (fD xf)=true) (hnat:∀f vs k sp,nat f vs=some (.mk k sp)→bR P f k sp):∀d,gQ P (He tab nat lp lf d)
 |0=>by
  intro f vs M nx K E ρ G F w xs R hE h hd hk hr
  have hk':(Option.casesOn (nat f vs) false fun es=>ES.casesOn es fun k sp=>ze k sp vs M nx K:Bool)=true:=hk
  rcases e:nat f vs with _|⟨k,sp⟩
  ·rw[e]at hk';cases hk'
  ·rw[e]at hk'
   exact Iz (hnat f vs k sp e) hE h hd hk' hr
 |d+1=>by
  intro f vs M nx K E ρ G F w xs R hE h hd hk hr
  have hk':(Option.casesOn (nat f vs) (dj (tab f) fun xf=>XF.casesOn xf fun N res body=>
   ac (Nat.ble (dG vs) N) (zE vs 0 .nil fun S=>cO (He tab nat lp lf d) lp lf body S M nx fun e S M nx=>aY (Nat.blt 1 e) false (HF res S M fun v=>K v M nx))) fun es=>ES.casesOn es fun k sp=>ze k sp vs M nx K:Bool)=true:=hk
  rcases e:nat f vs with _|⟨k,sp⟩
  ·rw[e]at hk'
   obtain⟨xf,h1,h2⟩:=bq hk'
   obtain⟨hf,hp⟩:=htab f xf h1
   obtain⟨N,res,body⟩:=xf
   have hno:∀{x:XC},plain x=true→eL x=[]:=by
    intro x
    induction x with
    |seq x y ihx ihy=>intro q;obtain⟨q1,q2⟩:=aQ (show(plain x&&plain y)=true from q);simp[eL,ihx q1,ihy q2]
    |cond p x y ihx ihy=>intro q;obtain⟨q1,q2⟩:=aQ (show(plain x&&plain y)=true from q);simp[eL,ihx q1,ihy q2]
    |block k x ih=>exact fun q=>ih q
    |loop l x ih=>exact fun q=>ih q
    |inv=>intro q;cases q
    |aft=>intro q;cases q
    |pre=>intro q;cases q
    |spc=>intro q;cases q
    |_=>intro _;rfl
   have hk0:∀{x:XC},plain x=true→fu 0 x=true:=by
    intro x
    induction x with
    |seq x y ihx ihy=>intro q;obtain⟨q1,q2⟩:=aQ (show(plain x&&plain y)=true from q);simp[fu,ihx q1,ihy q2]
    |cond p x y ihx ihy=>intro q;obtain⟨q1,q2⟩:=aQ (show(plain x&&plain y)=true from q);simp[fu,ihx q1,ihy q2]
    |block k x ih=>exact fun q=>ih q
    |loop l x ih=>exact fun q=>ih q
    |inv=>intro q;cases q
    |aft=>intro q;cases q
    |pre=>intro q;cases q
    |spc=>intro q;cases q
    |_=>intro _;rfl
   exact LL (fl:=true) (pk:=0) hm (BJ hm htab hnat d) hf (fun _=>hp) (hk0 hp) (fun b j x q=>by rw[hno (x:=body) hp]at q;cases q) hE h hd h2 fun v M' nx' E' ρ' w' z q1 q2=>hr v M' nx' E' ρ' w' z q1 (q2.ext rfl)
  ·rw[e]at hk'
   exact Iz (hnat f vs k sp e) hE h hd hk' hr
theorem VP (hm:P.follows .mixedOrders=true) {cf:iy} (hcf:gQ P cf) {lp:fE} {lf f k:Nat} {xf:XF} {sp:cq} (hf:bE P f xf=true) (hkp:fu k (fD xf)=true) (hlp:∀b j x,(b,j,x)∈eL (fD xf)→dI P (nOf xf) k lp b j x) (hrun:∀us M nx K,sp us M nx K=true→bW k cf lp lf xf us M nx K=true):bR P f k sp:=by
 intro us xs E ρ G F M nx w K R hE hs hd hk hr
 obtain⟨N,res,body⟩:=xf
 refine LL (fl:=false) (pk:=k) (K:=fun v M _=>OL k v M K) (G:=G) hm hcf hf (fun q=>by cases q) hkp hlp hE hs hd (hrun us M nx K hk) fun v M' nx' E' ρ' w' z q1 q2 q3 q4=> ?_
 obtain⟨v2,M2,n2,ρ2,f1,f2,f3,f4⟩:=WJ q3 q4 q1
 exact hr v2 M2 n2 E' ρ2 w' z f3 q2.one q2.mem (fun i e i1 i2=>f4 i e i1 (q2.pin i e i1 i2)) f1 f2
theorem eM (hm:P.follows .mixedOrders=true) {cf:iy} (hcf:gQ P cf) {lp:fE} {lf j:Nat} {x:XC} (hkp:fu pk x=true) {α:Type _} (I:α→SL×T×Nat) (μ:α→Nat) (spec:α→KC→Bool) (hlp:∀b j' x',(b,j',x')∈eL x→dI P N pk lp b j' x')
  (hj:∀S M nx K,lp j S M nx K=true→∃p,(S,M,nx)=I p∧spec p K=true)
  (hbody:∀p K,spec p K=true→cO cf lp lf x (I p).1 (I p).2.1 (I p).2.2 (fun e S M nx=>Nat.casesOn e (aF fun p'=>ac (aC ((S,M,nx)=I p'∧μ p'<μ p)) (spec p' K)) (fun e'=>K (Nat.succ e') S M nx))=true):dI P N pk lp true j x:=by
 intro c S M nx E ρ G F a w K Q hE hc s h hk hq
 obtain⟨p,hp,hs⟩:=hj S M nx K hk
 have key:∀(n:Nat) (p:α),μ p<n→∀{S:SL} {M:T} {nx:Nat} {E:Env} {ρ:Ren} {a:Act} {w:World},(S,M,nx)=I p→spec p K=true→dV E→SR E ρ N S a→Sim E ρ G F M nx w→
   (∀e S' M' nx' E' ρ' a' w',K e S' M' nx'=true→Rel false pk E ρ E' ρ'→SR E' ρ' N S' a'→Sim E' ρ' G F M' nx' w'→Q (EG e) a' w')→Code.rounds P c Q n a w:=by
  intro n
  induction n with
  |zero=>intro p hn;omega
  |succ n ih=>
   intro p hn S M nx E ρ a w hI hs hE s h hq
   have hb:=hbody p K hs
   rw[←hI]at hb
   refine BH (fl:=false) hm hcf x c hE (fun q=>by cases q) hkp hlp hc s h hb fun e S' M' nx' E' ρ' a' w' k1 k2 k3 k4=> ?_
   match e,k1 with
   |0,k1=>
    obtain⟨p',k5⟩:=bL k1
    obtain⟨⟨k6,k7⟩,k8⟩:=aa k5
    exact ih p' (by omega) k6 k8 k2.one k3 k4 fun e S2 M2 nx2 E2 ρ2 a2 w2 j1 j2=>hq e _ _ _ _ _ _ _ j1 (k2.trans j2)
   |1,k1=>exact hq 1 _ _ _ _ _ _ _ k1 k2 k3 k4
   |m+2,k1=>exact hq (m+2) _ _ _ _ _ _ _ k1 k2 k3 k4
 exact wp_loop_rounds (μ p+1) (key (μ p+1) p (Nat.lt_succ_self _) hp hs hE s h hq)
theorem abJ (hm:P.follows .mixedOrders=true) {cf:iy} (hcf:gQ P cf) {lp:fE} {lf j:Nat} {x:XC} (hkp:fu pk x=true) (hlp:∀b j' x',(b,j',x')∈eL x→dI P N pk lp b j' x') (hrun:∀S M nx K,lp j S M nx K=true→cO cf lp lf x S M nx K=true):dI P N pk lp false j x:=by
 intro c S M nx E ρ G F a w K Q hE hc s h hk hq
 exact BH (fl:=false) hm hcf x c hE (fun q=>by cases q) hkp hlp hc s h (hrun S M nx K hk) hq
end
noncomputable def shp (v:AV):Nat:=AV.casesOn v 0 (fun _ _=>1) (fun _=>2) (fun _=>3) (fun _ _=>4) (fun _ _ _ _=>5) (fun _=>6) 7 8 9 10 11 (fun _ _=>12) (fun _ _=>13) (fun _=>14) (fun _=>15) (fun _=>16) (fun _=>17) (fun s=>SY.casesOn s (fun _ _=>20) (fun _=>21) (fun _=>22) (fun _ _ _ _ _=>23) (fun _ _ _=>24) (fun _ _=>25) (fun _ _ _ _=>26) (fun _ _ _ _=>27) (fun _ _ _=>28) (fun _=>29))
noncomputable def aca (vs:List AV) (n:Nat):Nat:=Option.casesOn (eC vs n) 0 shp
noncomputable def aco (vs:List AV) (l:List (Nat×Nat)):Bool:=List.rec true (fun p _ ih=>Bool.rec false ih (Nat.beq (aca vs p.1) p.2)) l
noncomputable def Ow (f g:Nat) (vs:List AV) (l:List (Nat×Nat)):Bool:=Bool.rec false (aco vs l) (Nat.beq f g)
theorem Tb {P:Program} {f g k k0:Nat} {vs:List AV} {sp sp0:cq} {rest:Option ES} {l:List (Nat×Nat)} (h0:bR P g k0 sp0) (hr:rest=some (.mk k sp)→bR P f k sp) (h:(Bool.rec rest (some (ES.mk k0 sp0)) (Ow f g vs l):Option ES)=some (.mk k sp)):bR P f k sp:=by
 cases hb:Ow f g vs l with
 |false=>rw[hb]at h;exact hr h
 |true=>
  rw[hb]at h
  cases h
  unfold Ow at hb
  cases he:Nat.beq f g with
  |false=>rw[he]at hb;cases hb
  |true=>rw[acE he];exact h0
theorem cy {P:Program} {N k:Nat} {lp:fE} {b b0:Bool} {j j0:Nat} {x x0:XC} {l:List (Bool×Nat×XC)} (h0:dI P N k lp b0 j0 x0) (hr:(b,j,x)∈l→dI P N k lp b j x) (h:(b,j,x)∈(b0,j0,x0)::l):dI P N k lp b j x:=by
 rcases List.mem_cons.1 h with e|h
 ·injection e with e1 e2
  injection e2 with e3 e4
  subst e1;subst e3;subst e4
  exact h0
 ·exact hr h
theorem au {p:Prop} {x y:Bool} (hp:p) (h:aY (aC p) x y=true):x=true:=by
 rcases jF h with⟨_,h⟩|⟨q,_⟩
 ·exact h
 ·exact absurd hp q
def bw (x:UInt8):List PL:=[.sint 1 (x.toNat:Int)]
def aP (s:List UInt8):List PL:=[.sstr s]
def Dy (T b:Nat) (l:List UInt8) (c:aA):Prop:=∃p ao cap cr,(p= .pointer none∨p= .pointer (some ⟨b,0,none⟩))∧Row 5 1 ao l.length cap (l.map u8) cr∧c=(b,.cells #[p,.slice ao l.length cap] T (0,0))::cr
def BuildS (T b:Nat) (l:List UInt8) (c:aA):Prop:=∃p ao cap cr,p= .pointer (some ⟨b,0,none⟩)∧Row 5 1 ao l.length cap (l.map u8) cr∧c=(b,.cells #[p,.slice ao l.length cap] T (0,0))::cr
theorem BuildS.d {T b:Nat} {l:List UInt8} {c:aA}:BuildS T b l c→Dy T b l c:=fun⟨p,ao,cap,cr,h1,h2⟩=>⟨p,ao,cap,cr,.inr h1,h2⟩
end Go.Sy
namespace Go.Eng
open Go Go.RowKit
section
variable {G:GS} {w:World} {F:List aA} {c:aA}
theorem Holds.pick1 {x:Nat×Obj} (h:Holds G w (c::F)) (hm:x∈c):Holds G w ([x]::F):=by
 obtain⟨s,t,rfl⟩:=List.append_of_mem hm
 have h2:Holds G w ((s++t)::[x]::F):=h.perm (by
  simp only[acG]
  have p1:(s++x::t).Perm (x::(s++t)):=List.perm_middle
  exact(List.perm_append_comm_assoc (s++t) [x] F.flatten).trans (p1.append_right F.flatten).symm)
 exact h2.drop
theorem Holds.pick2 {x y:Nat×Obj} (h:Holds G w (c::F)) (hx:x∈c) (hy:y∈c) (hne:x.1≠y.1):Holds G w ((x::[y])::F):=by
 obtain⟨s,t,rfl⟩:=List.append_of_mem hx
 have hy2:y∈s++t:=by
  rcases List.mem_append.1 hy with q|q
  ·exact List.mem_append.2 (.inl q)
  ·rcases List.mem_cons.1 q with rfl|q
   ·exact absurd rfl hne
   ·exact List.mem_append.2 (.inr q)
 obtain⟨s2,t2,e⟩:=List.append_of_mem hy2
 have h2:Holds G w ((s2++t2)::(x::[y])::F):=h.perm (by
  simp only[acG]
  have p1:(s++x::t).Perm (x::(s++t)):=List.perm_middle
  rw[e]at p1
  have p2:(s2++y::t2).Perm (y::(s2++t2)):=List.perm_middle
  have p3:(s++x::t).Perm ((x::[y])++(s2++t2)):=p1.trans (p2.cons x)
  have p4:((s++x::t)++F.flatten).Perm (((x::[y])++(s2++t2))++F.flatten):=p3.append_right _
  exact(List.perm_append_comm_assoc (s2++t2) (x::[y]) F.flatten).trans p4.symm)
 exact h2.drop
end
end Go.Eng
namespace Go.Sy
open Go Go.RowKit Go.Eng
section
variable {P:Program} {E:Env} {ρ:Ren} {G:GS} {F:List aA} {M:T} {nx:Nat} {w:World}
theorem Holds.withM {G G':GS} {m:lh} (hG:GS.Le {G with M:=m} G') {H:List aA} (hh:Holds G' w H):Holds {G with M:=G'.M} w H:=⟨hh.os.trans hG.os,hh.tape.trans hG.tape,hh.output.trans hG.output,hh.mem,hh.own,hh.nodup,hh.apart⟩
theorem Sim.bare {G':GS} {w':World} (hs:Sim E ρ G F M nx w) (hG:GS.Le {G with M:=E.M} G') (hh:Holds G' w' F):Sim ⟨E.at_,G'.M⟩ (fun _=>none) G F .leaf 0 w':=
 ⟨⟨[],(Holds.withM hG hh).nil,fun i o h=>by simp[T.get_leaf]at h,fun i j e f o o' h=>by simp[T.get_leaf]at h⟩,MLe.trans hs.mem (fun b o h=>hG.mem b o h),fun _ _=>rfl⟩
abbrev Pi (k:Nat) (E:Env) (ρ:Ren) (G:GS) (F:List aA) (K:AV→T→Nat→Bool) (R:Ending→World→Prop):Prop:=
 ∀v M' nx' E' ρ' w' z,K v M' nx'=true→dV E'→MLe E.M E'.M→(∀i e,i<k→ρ i=some e→ρ' i=some e)→Sim E' ρ' G F M' nx' w'→den E' ρ' v=some z→R (.returned z) w'
theorem De {f:Nat} {xs:Array Value} {s:List UInt8} {K:AV→T→Nat→Bool} {R:Ending→World→Prop} (hE:dV E) (hs:Sim E ρ G F M nx w) (hc:Calls P f xs w (Ret {G with M:=E.M} F fun _ v=>v=S s)) (hk:K (.sy (.str s)) .leaf 0=true) (hr:Pi 0 E ρ G F K R):Calls P f xs w R:=by
 refine hc.mono fun e w' ⟨v,G',he,hG,hh,hv⟩=> ?_
 subst he;subst hv
 exact hr _ _ _ ⟨E.at_,G'.M⟩ (fun _=>none) w' _ hk ⟨hE.1,Tied.mono (fun b o h=>hG.mem b o h) hE.2⟩ (fun b o h=>hG.mem b o h) (fun i e h=>absurd h (Nat.not_lt_zero i)) (hs.bare hG hh) rfl
theorem zy {f:Nat} {xs:Array Value} {s:List UInt8} {K:AV→T→Nat→Bool} {R:Ending→World→Prop} (hE:dV E) (hs:Sim E ρ G F M nx w) (hc:Calls P f xs w fun e w'=>e= .returned (S s)∧Below w.heap.size w w') (hk:K (.sy (.str s)) .leaf 0=true) (hr:Pi 0 E ρ G F K R):Calls P f xs w R:=by
 obtain⟨c,hh,_,_⟩:=hs.ex
 exact De hE hs (hc.mono fun e w' ⟨he,hb⟩=>⟨_,_,he,GS.Le.refl _,hh.drop.ext hb,rfl⟩) hk hr
noncomputable def zA (k:Nat) (v:AV) (K:Int→Bool):Bool:=match v with
 |.int j z=>ac (Nat.beq j k) (K z)
 |.sy (.int j z)=>ac (Nat.beq j k) (K z)
 |_=>false
theorem Uj {k:Nat} {v:AV} {K:Int→Bool} (h:zA k v K=true):∃z,(∀x,den E ρ v=some x→x= .int (aH k) z)∧K z=true:=by
 unfold zA at h
 split at h
 ·obtain⟨h1,h2⟩:=ai h
  have:=acE h1
  subst this
  exact⟨_,fun x hx=>by simpa[den] using hx.symm,h2⟩
 ·obtain⟨h1,h2⟩:=ai h
  have:=acE h1
  subst this
  exact⟨_,fun x hx=>by simpa[den,bb] using hx.symm,h2⟩
 ·cases h
noncomputable def DO (k:Nat) (g:Int→List UInt8):cq:=fun us _ _ K=>match us with
 |[v]=>zA k v fun z=>ac (aC (bp k z)) (K (.sy (.str (g z))) .leaf 0)
 |_=>false
noncomputable def DN (k b:Nat) (g:Int→List UInt8):cq:=fun us _ _ K=>match us with
 |[v,.int 0 (.ofNat n)]=>ac (Nat.beq n b) (zA k v fun z=>ac (aC (bp k z)) (K (.sy (.str (g z))) .leaf 0))
 |_=>false
theorem Mj {f k:Nat} {g:Int→List UInt8} (hI:∀(z:Int) (G:GS) (w:World) (F:List aA),bp k z→Tied G.M→Holds G w F→Calls P f #[.int (aH k) z] w (Ret G F fun _ v=>v=S (g z))):bR P f 0 (DO k g):=by
 intro us xs E ρ G F M nx w K R hE hs hd hk hr
 unfold DO at hk
 split at hk
 case h_2=>cases hk
 rename_i v
 obtain⟨x,ys,h1,h2,rfl⟩:=bh hd
 obtain rfl:ys=[]:=by simpa[aJ] using h2.symm
 obtain⟨z,hz,hk⟩:=Uj (E:=E) (ρ:=ρ) hk
 obtain⟨hi,hk⟩:=aa hk
 obtain rfl:=hz x h1
 obtain⟨c,hh,_,_⟩:=hs.ex
 exact De hE hs (hI z {G with M:=E.M} w F hi hE.2 hh.drop) hk hr
theorem Mi {f k b:Nat} {g:Int→List UInt8} (hI:∀(z:Int) (G:GS) (w:World) (F:List aA),bp k z→Tied G.M→Holds G w F→Calls P f #[.int (aH k) z,.int .i64 (b:Int)] w (Ret G F fun _ v=>v=S (g z))):bR P f 0 (DN k b g):=by
 intro us xs E ρ G F M nx w K R hE hs hd hk hr
 unfold DN at hk
 split at hk
 case h_2=>cases hk
 rename_i v n
 obtain⟨hb,hk1⟩:=ai hk
 have hb:=acE hb
 subst hb
 obtain⟨x,ys,h1,h2,rfl⟩:=bh hd
 obtain⟨x2,ys2,h3,h4,rfl⟩:=bh h2
 obtain rfl:ys2=[]:=by simpa[aJ] using h4.symm
 obtain rfl:x2= .int .i64 (n:Int):=by simpa[den,aH] using h3.symm
 obtain⟨z,hz,hk2⟩:=Uj (E:=E) (ρ:=ρ) hk1
 obtain⟨hi,hk⟩:=aa hk2
 obtain rfl:=hz x h1
 obtain⟨c,hh,_,_⟩:=hs.ex
 exact De hE hs (hI z {G with M:=E.M} w F hi hE.2 hh.drop) hk hr
noncomputable def Kf (fuel:Nat):Nat→List Nat→List Nat:=Nat.rec (fun _ acc=>acc) (fun _ ih n acc=>Bool.rec (ih (Nat.div n 10) (Nat.add 48 (Nat.mod n 10)::acc)) (Nat.add 48 n::acc) (Nat.blt n 10)) fuel
theorem MK:∀(fuel n:Nat) (acc:List Nat),n<10 ^ fuel→0<fuel→(Kf fuel n acc).map acX=Lib.decDigits n++acc.map acX
 |0,n,acc,h,h0=>by omega
 |fuel+1,n,acc,h,_=>by
  have e:Kf (fuel+1) n acc=Bool.rec (Kf fuel (n / 10) ((48+n % 10)::acc)) ((48+n)::acc) (Nat.blt n 10):=rfl
  cases hb:Nat.blt n 10 with
  |true=>
   have h9:=hb
   rw[acZ]at h9
   rw[e,hb,Lib.decDigits_one h9]
   rfl
  |false=>
   have hn:¬n<10:=fun q=>by rw[←acZ]at q;rw[q]at hb;cases hb
   rw[e,hb]
   show(Kf fuel (n / 10) ((48+n % 10)::acc)).map acX=_
   rcases Nat.eq_zero_or_pos fuel with rfl|hf
   ·simp at h;omega
   ·rw[MK fuel (n / 10) _ (by rw[Nat.pow_succ]at h;omega) hf]
    conv=>rhs;rw[Lib.decDigits,dif_neg hn]
    simp
noncomputable def DM (k m:Nat) (tl:List AV→Bool):cq:=fun us _ _ K=>match us with
 |.int j (.ofNat n)::r=>ac (Nat.beq j k) (ac (tl r) (ac (aC (bp k (n:Int))) (ac (Nat.blt n m) (K (.str (Kf 20 n [])) .leaf 0))))
 |_=>false
noncomputable def LG (r:List AV):Bool:=match r with|[]=>true|_=>false
theorem Tv (n:Nat):Lib.itoa (n:Int)=Lib.decDigits n:=by
 unfold Lib.itoa
 rw[if_neg (by omega)]
 simp
theorem ab4 {f:Nat} {xs:Array Value} {s:List Nat} {K:AV→T→Nat→Bool} {R:Ending→World→Prop} (hE:dV E) (hs:Sim E ρ G F M nx w) (hc:Calls P f xs w (Ret {G with M:=E.M} F fun _ v=>v=S (s.map acX))) (hk:K (.str s) .leaf 0=true) (hr:Pi 0 E ρ G F K R):Calls P f xs w R:=by
 refine hc.mono fun e w' ⟨v,G',he,hG,hh,hv⟩=> ?_
 subst he;subst hv
 exact hr _ _ _ ⟨E.at_,G'.M⟩ (fun _=>none) w' _ hk ⟨hE.1,Tied.mono (fun b o h=>hG.mem b o h) hE.2⟩ (fun b o h=>hG.mem b o h) (fun i e h=>absurd h (Nat.not_lt_zero i)) (hs.bare hG hh) rfl
theorem Mh {f k m:Nat} (hm:m≤100000000000000000000) {tl:List AV→Bool} {ts:List Value} (ht:∀(E:Env) (ρ:Ren) (r:List AV) (xs:List Value),tl r=true→aJ E ρ r=some xs→xs=ts) (hI:∀(n:Nat) (G:GS) (w:World) (F:List aA),n<m→bp k (n:Int)→Tied G.M→Holds G w F→Calls P f (Value.int (aH k) (n:Int)::ts).toArray w (Ret G F fun _ v=>v=S (Lib.decDigits n))):bR P f 0 (DM k m tl):=by
 intro us xs E ρ G F M nx w K R hE hs hd hk hr
 unfold DM at hk
 split at hk
 case h_2=>cases hk
 rename_i j n r
 obtain⟨q1,hk1⟩:=ai hk
 obtain⟨q2,hk2⟩:=ai hk1
 obtain⟨q3,hk3⟩:=aa hk2
 obtain⟨q4,hk4⟩:=ai hk3
 have q1:=acE q1
 subst q1
 rw[acZ]at q4
 obtain⟨x,ys,h1,h2,rfl⟩:=bh hd
 obtain rfl:=ht E ρ r ys q2 h2
 obtain rfl:x= .int (aH j) (n:Int):=by simpa[den] using h1.symm
 obtain⟨c,hh,_,_⟩:=hs.ex
 have:=hI n {G with M:=E.M} w F q4 q3 hE.2 hh.drop
 have e:=MK 20 n [] (Nat.lt_of_lt_of_le q4 (Nat.le_trans hm (by decide))) (by omega)
 rw[List.map_nil,List.append_nil]at e
 rw[←e]at this
 exact ab4 hE hs this hk4 hr
theorem PO (E:Env) (ρ:Ren) (r:List AV) (xs:List Value) (h:LG r=true) (hd:aJ E ρ r=some xs):xs=[]:=by
 unfold LG at h
 split at h
 ·simpa[aJ] using hd.symm
 ·cases h
noncomputable def sA (v:AV) (K:List UInt8→Bool):Bool:=match v with
 |.str l=>K (l.map acX)
 |.sy (.str l)=>K l
 |_=>false
theorem uL {v:AV} {K:List UInt8→Bool} (h:sA v K=true):∃s,den E ρ v=some (S s)∧K s=true:=by
 unfold sA at h
 split at h
 ·exact⟨_,by simp[den],h⟩
 ·exact⟨_,by simp[den,bb],h⟩
 ·cases h
noncomputable def WV (l:List (List AV)):(List (List UInt8)→Bool)→Bool:=List.rec (fun K=>K []) (fun e _ ih K=>match e with
 |[v]=>sA v fun s=>ih fun ws=>K (s::ws)
 |_=>false) l
theorem Pj:∀{l:List (List AV)} {K:List (List UInt8)→Bool},WV l K=true→∃ws vs,l=vs.map (fun v=>[v])∧aJ E ρ vs=some (ws.map S)∧K ws=true
 |[],K,h=>⟨[],[],rfl,rfl,h⟩
 |e::l,K,h=>by
  have h':(match (generalizing:=false) e with
   |[v]=>sA v fun s=>WV l fun ws=>K (s::ws)
   |_=>false)=true:=h
  split at h'
  ·obtain⟨s,h1,h2⟩:=uL (E:=E) (ρ:=ρ) h'
   obtain⟨ws,vs,e1,e2,e3⟩:=Pj h2
   exact⟨s::ws,_::vs,by simp[e1],bA h1 e2,e3⟩
  ·cases h'
noncomputable def abu (g:Bool) (n:Nat) (c:ACap):Bool:=match c with
 |.ex m=>Nat.ble n m
 |.rest 0=>g
 |_=>false
noncomputable def GW (ws:List (List UInt8)) (sep:List UInt8) (K:AV→T→Nat→Bool):Bool:=ac (aC ((Lib.join ws sep).length≤140737488355328)) (ac (aC (ws.length≤140737488355328)) (K (.sy (.str (Lib.join ws sep))) .leaf 0))
noncomputable def Ck:cq:=fun us M _ K=>match us with
 |[a,s]=>sA s fun sep=>(match a with
  |.nilS=>GW [] sep K
  |.sl 0 0 n c=>(match M.get 0 with
   |some (.blk g _ 1 els)=>ac (Nat.ble n (dG els)) (ac (abu g n c) (WV (els.take n) fun ws=>GW ws sep K))
   |_=>false)
  |.sy (.prow 0 n)=>(match M.get 0 with
   |some (.prow _ 1 _ l enc)=>aF fun ws:List (List UInt8)=>ac (aC (l.map enc=ws.map aP)) (ac (aC (n=ws.length)) (GW ws sep K))
   |_=>false)
  |.sy (.imm _ 1 _ l enc)=>aF fun ws:List (List UInt8)=>ac (aC (l.map enc=ws.map aP)) (GW ws sep K)
  |_=>false)
 |_=>false
theorem JL {α:Type} {l:List α} {enc:α→List PL} {ws:List (List UInt8)} (h:l.map enc=ws.map aP):l.flatMap enc=ws.map PL.sstr:=by
 rw[List.flatMap_def,h]
 clear h
 induction ws with
 |nil=>rfl
 |cons a r ih=>
  show PL.sstr a::(List.map aP r).flatten=PL.sstr a::List.map PL.sstr r
  rw[ih]
theorem xZ {α:Type} {l:List α} {enc:α→List PL} {ws:List UInt8} (h:l.map enc=ws.map bw):l.flatMap enc=ws.map fun x=>PL.sint 1 (x.toNat:Int):=by
 rw[List.flatMap_def,h]
 clear h
 induction ws with
 |nil=>rfl
 |cons a r ih=>
  show PL.sint 1 (a.toNat:Int)::(List.map bw r).flatten=PL.sint 1 (a.toNat:Int)::List.map (fun x=>PL.sint 1 (x.toNat:Int)) r
  rw[ih]
theorem LI {α:Type} {l:List α} {m j:Nat} {y:α} (h:(l.take m)[j]?=some y):l[j]?=some y:=by
 rw[List.getElem?_take]at h
 split at h
 ·exact h
 ·cases h
theorem Qr {f:Nat} (hJ:∀(bk o c:Nat) (ws:List (List UInt8)) (sep:List UInt8) (w:World),(∀(j:Nat) x,ws[j]?=some x→w.cell? ⟨bk,o+j,none⟩=some (S x))→bk<w.heap.size→ws.length≤140737488355328→ws.length≤c→(Lib.join ws sep).length≤140737488355328→
   Calls P f #[.slice (some ⟨bk,o,none⟩) ws.length c,S sep] w fun e w'=>e= .returned (S (Lib.join ws sep))∧Below w.heap.size w w')
  (hN:∀(a:Option Addr) (c:Nat) (sep:List UInt8) (w:World),Calls P f #[.slice a 0 c,S sep] w fun e w'=>e= .returned (S (Lib.join [] sep))∧Below w.heap.size w w'):bR P f 0 Ck:=by
 intro us xs E ρ G F M nx w K R hE hs hd hk hr
 unfold Ck at hk
 split at hk
 case h_2=>cases hk
 rename_i a s
 obtain⟨xa,ys,d1,d2,rfl⟩:=bh hd
 obtain⟨xs',ys2,d3,d4,rfl⟩:=bh d2
 obtain rfl:ys2=[]:=by simpa[aJ] using d4.symm
 obtain⟨sep,e1,hk1⟩:=uL (E:=E) (ρ:=ρ) hk
 clear hk
 have hk:=hk1
 clear hk1
 obtain rfl:xs'=S sep:=acY (d3.symm.trans e1)
 split at hk
 ·obtain rfl:xa= .slice none 0 0:=by simpa[den] using d1.symm
  obtain⟨l1,hk⟩:=aa hk
  obtain⟨l2,hk⟩:=aa hk
  exact zy hE hs (hN none 0 sep w) hk hr
 ·rename_i n c
  split at hk
  case h_2=>cases hk
  rename_i g T els hM
  obtain⟨hn,hk⟩:=ai hk
  obtain⟨hc,hk⟩:=ai hk
  obtain⟨ws,vs,e2,e3,hk⟩:=Pj (E:=E) (ρ:=ρ) hk
  obtain⟨l1,hk⟩:=aa hk
  obtain⟨l2,hk⟩:=aa hk
  rw[cj,Nat.ble_eq]at hn
  obtain⟨e,ob,r0,hheap,_,_,arr,xs0,rfl,hdd,hR⟩:=hs.obj hM (fun _=>rfl)
  obtain rfl:xa= .slice (some ⟨e.b,0,none⟩) n (dc e c):=by simpa[den,r0] using d1.symm
  have hlv:vs.length=n:=by
   have:=congrArg List.length e2
   simpa[hn] using this.symm
  have hlw:ws.length=n:=by
   have:=cm e3
   simpa[hlv] using this
  have hsp:els.flatten=vs++(els.drop n).flatten:=by
   conv=>lhs;rw[←List.take_append_drop n els,List.flatten_append,e2]
   congr 1
   clear e2 e3 hlv
   induction vs with
   |nil=>rfl
   |cons v r ih=>simpa using ih
  rw[hsp]at hdd
  obtain⟨xs1,xs2,f1,f2,rfl⟩:=ee hdd
  obtain rfl:xs1=ws.map S:=acY (f1.symm.trans e3)
  have hcell:∀(j:Nat) x,ws[j]?=some x→arr.toList[j]?=some (S x):=by
   intro j x hx
   have hj:(ws.map S++xs2)[j]?=some (S x):=by
    rw[List.getElem?_append_left (by rw[acC];exact(List.getElem?_eq_some_iff.1 hx).1)]
    simp[hx]
   cases g with
   |false=>exact(show arr.toList=_ from hR)▸hj
   |true=>
    obtain⟨_,q,_⟩:=(show arr.size=e.cap*1∧arr.toList.take (els.length*1)=ws.map S++xs2∧els.length≤e.cap∧e.cap≤maxLen from hR)
    rw[←q]at hj
    exact LI hj
  have hcap:n≤dc e c:=by
   unfold abu at hc
   split at hc
   ·exact Nat.le_of_ble_eq_true hc
   ·subst hc
    obtain⟨_,_,q,_⟩:=(show arr.size=e.cap*1∧arr.toList.take (els.length*1)=ws.map S++xs2∧els.length≤e.cap∧e.cap≤maxLen from hR)
    show n≤e.cap - 0
    omega
   ·cases hc
  have:=hJ e.b 0 (dc e c) ws sep w (fun j x hx=>by
   have:=hcell j x hx
   simp only[World.cell?,hheap,Nat.zero_add]
   simpa using this) (bu hheap) l2 (by omega) l1
  rw[hlw]at this
  exact zy hE hs this hk hr
 ·rename_i n
  split at hk
  case h_2=>cases hk
  rename_i T α l enc hM
  obtain⟨ws,hk2⟩:=bL hk
  obtain⟨e2,hk3⟩:=aa hk2
  obtain⟨en,hk4⟩:=aa hk3
  obtain⟨l1,hk5⟩:=aa hk4
  obtain⟨l2,hk6⟩:=aa hk5
  clear hk hk2 hk3 hk4 hk5
  subst en
  have hll:l.length=ws.length:=by simpa using congrArg List.length e2
  obtain⟨e,r0,⟨hB,ob,hheap,arr,xs0,rfl,_,_,hdd,hsz,htk,hle,hmx⟩|⟨hB,hnil,_⟩⟩:=hs.objP hM
  ·obtain⟨cc,hcc⟩:∃cc,e.cap=cc+1:=by
    rcases h0:e.cap with _|cc
    ·simp[cd,h0]at hB
    ·exact⟨cc,rfl⟩
   obtain rfl:xa= .slice (some ⟨e.b,0,none⟩) ws.length cc:=by simpa[den,bb,r0,lj,hcc] using d1.symm
   rw[JL e2]at hdd
   obtain⟨_,rfl⟩:=pG hdd
   have:=hJ e.b 0 cc ws sep w (fun j x hx=>by
    have hj:((ws.map PL.sstr).map bD)[j]?=some (S x):=by simp[hx,bD]
    rw[←htk]at hj
    have:=LI hj
    simp only[World.cell?,hheap,Nat.zero_add]
    simpa using this) (bu hheap) l2 (by omega) l1
   exact zy hE hs this hk6 hr
  ·have hc0:e.cap=0:=by simpa[cd] using hB
   subst hnil
   obtain rfl:ws=[]:=by simpa using e2.symm
   obtain rfl:xa= .slice none 0 0:=by simpa[den,bb,r0,lj,hc0] using d1.symm
   exact zy hE hs (hN none 0 sep w) hk6 hr
 ·rename_i h α l enc
  obtain⟨ws,hk⟩:=bL hk
  obtain⟨e2,hk⟩:=aa hk
  obtain⟨l1,hk⟩:=aa hk
  obtain⟨l2,hk⟩:=aa hk
  have hll:l.length=ws.length:=by simpa using congrArg List.length e2
  obtain⟨ok,rfl⟩:=gy (show gU E (.imm h 1 α l enc)=some xa by simpa[den,bb] using d1)
  cases ok with
  |imm ao cap hh h1 h2 h3 ha hl ho hr2=>
   subst hh
   show Calls P f #[.slice ao l.length cap,S sep] w R
   rcases Nat.eq_zero_or_pos l.length with h0|h0
   ·obtain rfl:ws=[]:=acW (by omega)
    rw[h0]
    exact zy hE hs (hN ao cap sep w) hk hr
   ·have hc:∀(j:Nat) x,ws[j]?=some x→w.cell? ⟨blk ao,ni ao+j,none⟩=some (S x):=by
     intro j x hx
     have e3:(l.map enc)[j]?=some (aP x):=by rw[e2];simp[hx]
     rw[List.getElem?_map,acL]at e3
     obtain⟨y,hy,e4⟩:=e3
     have:=hr2 j y hy 0 (S x) (by rw[e4];rfl)
     simp only[Nat.mul_one,Nat.add_zero]at this
     exact hs.cellM this
    have hb:blk ao<w.heap.size:=by
     obtain⟨x,hx⟩:∃x,ws[0]?=some x:=⟨ws[0]'(by omega),by simp⟩
     have:=hc 0 x hx
     unfold World.cell? at this
     rcases hh:w.heap[blk ao]? with _|o
     ·simp[hh]at this
     ·exact bu hh
    have:=hJ (blk ao) (ni ao) cap ws sep w hc hb l2 (by omega) l1
    rw[←ha h0,←hll]at this
    exact zy hE hs this hk hr
 ·cases hk
noncomputable def OM (M:T) (b0:AV) (K:List UInt8→Bool):Bool:=match b0 with
 |.nilS=>K []
 |.sy (.prow 1 n)=>(match M.get 1 with
  |some (.prow 5 1 _ l enc)=>aF fun s:List UInt8=>ac (aC (l.map enc=s.map bw)) (ac (aC (n=s.length)) (K s))
  |_=>false)
 |_=>false
noncomputable def Ov (a0:AV):Bool:=match a0 with
 |.nilP=>true
 |.ptr 0 0=>true
 |_=>false
noncomputable def mB (Ty:Nat) (s:List UInt8) (n:Nat):T:=.node (.node .leaf (some (.prow 5 1 UInt8 s bw)) .leaf) (some (.blk false Ty 2 [[.ptr 0 0,.sy (.prow 1 n)]])) .leaf
noncomputable def OX (n:Nat) (l:List Nat):Bool:=List.rec false (fun m _ ih=>Bool.rec ih true (Nat.beq n m)) l
theorem zF:∀{n:Nat} {l:List Nat},OX n l=true→n∈l
 |n,[],h=>by cases h
 |n,m::l,h=>by
  have h':(Bool.rec (OX n l) true (Nat.beq n m):Bool)=true:=h
  cases hb:Nat.beq n m with
  |true=>rw[acE hb];simp
  |false=>rw[hb]at h';exact List.mem_cons_of_mem _ (zF h')
noncomputable def yR (Ts:List Nat):cq:=fun us M _ K=>match us with
 |[.ptr 0 0,s]=>(match M.get 0 with
  |some (.blk false Ty 2 [[a0,b0]])=>ac (OX Ty Ts) (ac (Ov a0) (OM M b0 fun l=>sA s fun t=>ac (aC (l.length+t.length≤140737488355328)) (K (.tup [.sy (.int 0 (t.length:Int)),.nilI]) (mB Ty (l++t) (l++t).length) 2)))
  |_=>false)
 |_=>false
noncomputable def GP (Ts:List Nat):cq:=fun us M _ K=>match us with
 |[.ptr 0 0]=>(match M.get 0 with
  |some (.blk false Ty 2 [[a0,b0]])=>ac (OX Ty Ts) (ac (Ov a0) (match b0 with
   |.nilS=>K (.sy (.str [])) .leaf 0
   |.sy (.prow 1 n)=>OM M b0 fun l=>ac (aC (l≠[])) (K (.sy (.str l)) .leaf 0)
   |_=>false))
  |_=>false)
 |_=>false
theorem MM {M:T} {b0:AV} {K:List UInt8→Bool} (h:OM M b0 K=true):∃s,((b0= .nilS∧s=[])∨(b0= .sy (.prow 1 s.length)∧∃α l,∃enc:α→List PL,M.get 1=some (.prow 5 1 α l enc)∧l.map enc=s.map bw))∧K s=true:=by
 unfold OM at h
 split at h
 ·exact⟨[],.inl ⟨rfl,rfl⟩,h⟩
 ·split at h
  case h_2=>cases h
  rename_i α l enc hM
  obtain⟨s,h2⟩:=bL h
  obtain⟨e1,h3⟩:=aa h2
  obtain⟨en,h4⟩:=aa h3
  subst en
  exact⟨s,.inr ⟨rfl,α,l,enc,hM,e1⟩,h4⟩
 ·cases h
theorem Ey {a0:AV} (h:Ov a0=true):a0= .nilP∨a0= .ptr 0 0:=by
 unfold Ov at h
 split at h
 ·exact .inl rfl
 ·exact .inr rfl
 ·cases h
theorem BK (hs:Sim E ρ G F M nx w) {Ty:Nat} {a0 b0:AV} {s:List UInt8} (h0:M.get 0=some (.blk false Ty 2 [[a0,b0]])) (ha:a0= .nilP∨a0= .ptr 0 0)
  (hb:(b0= .nilS∧s=[])∨(b0= .sy (.prow 1 s.length)∧∃α l,∃enc:α→List PL,M.get 1=some (.prow 5 1 α l enc)∧l.map enc=s.map bw)):
  ∃e p ao cap cr,ρ 0=some e∧(p= .pointer none∨p= .pointer (some ⟨e.b,0,none⟩))∧Row 5 1 ao s.length cap (s.map u8) cr∧(b0= .nilS→ao=none)∧Holds {G with M:=E.M} w (((e.b,.cells #[p,.slice ao s.length cap] Ty (0,0))::cr)::F):=by
 obtain⟨c0,hh,ho,hj⟩:=hs.ex
 obtain⟨e,r0,⟨_,ob,hm,_,_,arr,xs,rfl,hd,hR⟩|⟨q,_⟩⟩:=ho 0 _ h0
 case inr=>cases q
 have hR:arr.toList=xs:=hR
 obtain⟨x0,ys,d0,d1,rfl⟩:=bh (show aJ E ρ [a0,b0]=some xs from hd)
 obtain⟨x1,zs,d2,d3,rfl⟩:=bh d1
 obtain rfl:zs=[]:=by simpa[aJ] using d3.symm
 have harr:arr= #[x0,x1]:=Array.toList_inj.1 hR
 subst harr
 have hp:x0= .pointer none∨x0= .pointer (some ⟨e.b,0,none⟩):=by
  rcases ha with rfl|rfl
  ·exact .inl (by simpa[den] using d0.symm)
  ·exact .inr (by simpa[den,r0] using d0.symm)
 rcases hb with⟨rfl,rfl⟩|⟨rfl,α,l,enc,hM,e1⟩
 ·obtain rfl:x1= .slice none 0 0:=by simpa[den] using d2.symm
  exact⟨e,x0,none,0,[],r0,hp,Row.nil 5 1,fun _=>rfl,hh.pick1 hm⟩
 ·have hll:l.length=s.length:=by simpa using congrArg List.length e1
  obtain⟨f,r1,⟨hB,ob1,hm1,arr1,xs1,rfl,_,_,hdd,hsz,htk,hle,hmx⟩|⟨hB,hnil,_⟩⟩:=ho 1 _ hM
  ·obtain⟨cc,hcc⟩:∃cc,f.cap=cc+1:=by
    rcases h0:f.cap with _|cc
    ·simp[cd,h0]at hB
    ·exact⟨cc,rfl⟩
   obtain rfl:x1= .slice (some ⟨f.b,0,none⟩) s.length cc:=by simpa[den,bb,r1,lj,hcc] using d2.symm
   rw[xZ e1]at hdd
   obtain⟨_,rfl⟩:=pG hdd
   have hne:e.b≠f.b:=fun q=>by
    have:=hj 0 1 e f _ _ h0 hM r0 r1 rfl hB q
    omega
   refine⟨e,x0,_,cc,[(f.b,.cells arr1 5 (0,0))],r0,hp,⟨by simp,.inr ⟨f.b,arr1,rfl,rfl,by omega,by omega,by rw[hsz,hcc];simp,?_⟩⟩,fun q=>(by cases q),hh.pick2 hm hm1 hne⟩
   rw[←hll,htk]
   simp[bD,aH,u8,Function.comp_def]
  ·have hc0:f.cap=0:=by simpa[cd] using hB
   subst hnil
   obtain rfl:s=[]:=by simpa using e1.symm
   obtain rfl:x1= .slice none 0 0:=by simpa[den,bb,r1,lj,hc0] using d2.symm
   exact⟨e,x0,none,0,[],r0,hp,Row.nil 5 1,fun _=>rfl,hh.pick1 hm⟩
theorem IP (Ty:Nat) (s:List UInt8) (n:Nat):∀i o,(mB Ty s n).get i=some o→(i=0∧o= .blk false Ty 2 [[.ptr 0 0,.sy (.prow 1 n)]])∨(i=1∧o= .prow 5 1 UInt8 s bw)
 |0,o,h=>by cases h;exact .inl ⟨rfl,rfl⟩
 |1,o,h=>by cases h;exact .inr ⟨rfl,rfl⟩
 |m+2,o,h=>by
  exfalso
  unfold mB at h
  rcases Nat.mod_two_eq_zero_or_one (m+1) with q|q
  ·rw[T.get_even _ _ _ _ q]at h
   obtain⟨k,hk⟩:∃k,(m+1) / 2=k+1:=⟨(m+1) / 2 - 1,by omega⟩
   rw[hk]at h
   rcases Nat.mod_two_eq_zero_or_one k with q|q
   ·rw[T.get_even _ _ _ _ q,T.get_leaf]at h;cases h
   ·rw[T.get_odd _ _ _ _ q,T.get_leaf]at h;cases h
  ·rw[T.get_odd _ _ _ _ q,T.get_leaf]at h;cases h
theorem Rs (hs:Sim E ρ G F M nx w) {G':GS} {w':World} {Ty:Nat} {e:dH} {s:List UInt8} {c:aA} (hG:GS.Le {G with M:=E.M} G') (hh:Holds G' w' (c::F)) (hb:BuildS Ty e.b s c):
  ∃ρ',ρ' 0=some e∧Sim ⟨E.at_,G'.M⟩ ρ' G F (mB Ty s s.length) 2 w':=by
 obtain⟨p,ao,cap,cr,rfl,hr,rfl⟩:=hb
 have hh:=Holds.withM hG hh
 have hm:MLe G.M G'.M:=MLe.trans hs.mem (fun b o h=>hG.mem b o h)
 have key:∀f:dH,((cd f (.prow 5 1 UInt8 s bw)=true∧f.b≠e.b∧∃ob,(f.b,ob)∈cr∧ORel ⟨E.at_,G'.M⟩ (fun i=>match i with|0=>some e|1=>some f|_=>none) f (.prow 5 1 UInt8 s bw) ob)∨(cd f (.prow 5 1 UInt8 s bw)=false∧s=[]))→lj f s.length=some (.slice ao s.length cap)→
   ∃ρ':Ren,ρ' 0=some e∧Sim ⟨E.at_,G'.M⟩ ρ' G F (mB Ty s s.length) 2 w':=by
  intro f hf hv
  refine⟨fun i=>match i with|0=>some e|1=>some f|_=>none,rfl,⟨_,hh,fun i o hi=> ?_,fun i j e1 e2 o1 o2 hi hj he1 he2 hb1 hb2 hb=> ?_⟩,hm,fun i hi=> ?_⟩
  ·rcases IP _ _ _ i o hi with⟨rfl,rfl⟩|⟨rfl,rfl⟩
   ·refine⟨e,rfl,.inl ⟨rfl,_,List.mem_cons_self,fun l hl=> ?_,by decide,_,_,rfl,?_,rfl⟩⟩
    ·simp only[List.mem_cons,List.not_mem_nil,or_false]at hl
     subst hl;rfl
    ·simp[aJ,den,bb,hv]
   ·refine⟨f,rfl,?_⟩
    rcases hf with⟨h1,_,ob,h2,h3⟩|⟨h1,h2⟩
    ·exact .inl ⟨h1,ob,List.mem_cons_of_mem _ h2,h3⟩
    ·exact .inr ⟨h1,h2,by decide⟩
  ·rcases IP _ _ _ i o1 hi with⟨rfl,rfl⟩|⟨rfl,rfl⟩<;>rcases IP _ _ _ j o2 hj with⟨rfl,rfl⟩|⟨rfl,rfl⟩
   ·rfl
   ·cases he1;cases he2
    rcases hf with⟨_,h1,_⟩|⟨h1,_⟩
    ·exact absurd hb.symm h1
    ·rw[h1]at hb2;cases hb2
   ·cases he1;cases he2
    rcases hf with⟨_,h1,_⟩|⟨h1,_⟩
    ·exact absurd hb h1
    ·rw[h1]at hb1;cases hb1
   ·rfl
  ·match i,hi with
   |m+2,_=>rfl
 rcases hr.form with⟨rfl,h0,rfl,rfl⟩|⟨g,cur,rfl,rfl,h1,h2,h3,h4⟩
 ·have:s=[]:=acW h0
  subst this
  exact key ⟨0,0⟩ (.inr ⟨rfl,rfl⟩) rfl
 ·refine key ⟨g,cap+1⟩ (.inl ⟨rfl,?_,_,List.mem_cons_self,cur,s.map u8,rfl,by decide,fun x _=>rfl,?_,by simpa using h3,by simpa using h4,by simpa using h1,by simpa using h2⟩) (by simp[lj])
  ·intro q
   have:=hh.nodup
   simp only[acG,acI,acK,acH,List.nodup_cons,List.mem_cons]at this
   exact this.1 (.inl q.symm)
  ·have e1:s.flatMap bw=s.map fun x=>PL.sint 1 (x.toNat:Int):=xZ rfl
   rw[e1,ri (fun p hp=>by obtain⟨x,_,rfl⟩:=List.mem_map.1 hp;exact .sint _ _)]
   simp[bD,aH,u8,Function.comp_def]
theorem Oj {f:Nat} {Ts:List Nat} {BT:Nat→Prop} (hT:∀Ty∈Ts,BT Ty) (hW:∀(Ty b:Nat) (l:List UInt8) (c:aA) (t:List UInt8) (G:GS) (w:World) (F:List aA),BT Ty→Dy Ty b l c→l.length+t.length≤140737488355328→Holds G w (c::F)→
   Calls P f #[.pointer (some ⟨b,0,none⟩),S t] w (OZ G F fun _ v c1=>v= .tuple #[.int .i64 (t.length:Int),.nilIface]∧BuildS Ty b (l++t) c1)):bR P f 1 (yR Ts):=by
 intro us xs E ρ G F M nx w K R hE hs hd hk hr
 unfold yR at hk
 split at hk
 case h_2=>cases hk
 rename_i s
 split at hk
 case h_2=>cases hk
 rename_i Ty a0 b0 hM
 obtain⟨q1,hk⟩:=ai hk
 obtain⟨q2,hk⟩:=ai hk
 obtain⟨l,q3,hk⟩:=MM hk
 obtain⟨t,q4,hk⟩:=uL (E:=E) (ρ:=ρ) hk
 obtain⟨q5,hk⟩:=aa hk
 obtain⟨e,p,ao,cap,cr,r0,hp,hrow,_,hh⟩:=BK hs hM (Ey q2) q3
 obtain⟨x0,ys,d1,d2,rfl⟩:=bh hd
 obtain⟨x1,ys2,d3,d4,rfl⟩:=bh d2
 obtain rfl:ys2=[]:=by simpa[aJ] using d4.symm
 obtain rfl:x1=S t:=acY (d3.symm.trans q4)
 obtain rfl:x0= .pointer (some ⟨e.b,0,none⟩):=by simpa[den,r0] using d1.symm
 refine(hW Ty e.b l _ t {G with M:=E.M} w F (hT _ (zF q1)) ⟨p,ao,cap,cr,hp,hrow,rfl⟩ q5 hh).mono fun e' w' ⟨v,G',c',he,hG,hh',hv,hb⟩=> ?_
 subst he;subst hv
 obtain⟨ρ',r1,hs'⟩:=Rs hs hG hh' hb
 refine hr _ _ _ ⟨E.at_,G'.M⟩ ρ' w' _ hk ⟨hE.1,Tied.mono (fun b o h=>hG.mem b o h) hE.2⟩ (fun b o h=>hG.mem b o h) (fun i e2 hi he2=> ?_) hs' (by simp[den,aJ,bb,aH])
 obtain rfl:i=0:=by omega
 rw[r0]at he2;cases he2;exact r1
theorem Td {f:Nat} {Ts:List Nat} {BT:Nat→Prop} (hT:∀Ty∈Ts,BT Ty) (hW:∀(Ty b:Nat) (l:List UInt8) (c:aA) (G:GS) (w:World) (F:List aA),BT Ty→BuildC Ty b l c→Holds G w (c::F)→
   Calls P f #[.pointer (some ⟨b,0,none⟩)] w (Ret G F fun _ v=>v=S l)):bR P f 0 (GP Ts):=by
 intro us xs E ρ G F M nx w K R hE hs hd hk hr
 unfold GP at hk
 split at hk
 case h_2=>cases hk
 split at hk
 case h_2=>cases hk
 rename_i Ty a0 b0 hM
 obtain⟨q1,hk⟩:=ai hk
 obtain⟨q2,hk⟩:=ai hk
 obtain⟨x0,ys,d1,d2,rfl⟩:=bh hd
 obtain rfl:ys=[]:=by simpa[aJ] using d2.symm
 split at hk
 ·obtain⟨e,p,ao,cap,cr,r0,hp,hrow,hn,hh⟩:=BK (s:=[]) hs hM (Ey q2) (.inl ⟨rfl,rfl⟩)
  obtain rfl:x0= .pointer (some ⟨e.b,0,none⟩):=by simpa[den,r0] using d1.symm
  exact De hE hs (hW Ty e.b [] _ {G with M:=E.M} w F (hT _ (zF q1)) ⟨p,ao,cap,cr,hp,hrow,fun _=>hn rfl,rfl⟩ hh) hk hr
 ·obtain⟨l,q3,hk⟩:=MM hk
  obtain⟨q5,hk⟩:=aa hk
  obtain⟨e,p,ao,cap,cr,r0,hp,hrow,hn,hh⟩:=BK hs hM (Ey q2) q3
  obtain rfl:x0= .pointer (some ⟨e.b,0,none⟩):=by simpa[den,r0] using d1.symm
  exact De hE hs (hW Ty e.b l _ {G with M:=E.M} w F (hT _ (zF q1)) ⟨p,ao,cap,cr,hp,hrow,fun q=>absurd q q5,rfl⟩ hh) hk hr
 ·cases hk
end
end Go.Sy
namespace Go.Proofs
open Go.Shelf
def Tryz.lays156_ren:Go.Shelf.Ren:=⟨fun|156=>65|165=>93|166=>31|169=>35|240=>59|241=>111|276=>88|277=>126|n=>n,fun|31=>56|9=>9|3=>3|4=>4|0=>0|20=>20|72=>91|76=>94|70=>88|37=>89|75=>93|127=>134|164=>152|5=>5|80=>99|n=>n,fun|n=>n⟩
theorem Tryz.lays156:Go.Proofs.Lays.n156 Tryz.prog Tryz.lays156_ren:={
 mixed:=by kernel_rfl
 f156:=Tryz.func65.trans (congrArg some (by kernel_rfl))
 f165:=Tryz.func93.trans (congrArg some (by kernel_rfl))
 f166:=Tryz.func31.trans (congrArg some (by kernel_rfl))
 f169:=Tryz.func35.trans (congrArg some (by kernel_rfl))
 f240:=Tryz.func59.trans (congrArg some (by kernel_rfl))
 f241:=Tryz.func111.trans (congrArg some (by kernel_rfl))
 f276:=Tryz.func88.trans (congrArg some (by kernel_rfl))
 f277:=Tryz.func126.trans (congrArg some (by kernel_rfl))
 t0:=Tryz.underlying0
 a0:=Tryz.isAgg0
 z0:=Tryz.sizeOf0
 v0:=Tryz.zeroValue0
 t3:=Tryz.underlying3
 a3:=Tryz.isAgg3
 z3:=Tryz.sizeOf3
 v3:=Tryz.zeroValue3
 t4:=Tryz.underlying4
 a4:=Tryz.isAgg4
 z4:=Tryz.sizeOf4
 v4:=Tryz.zeroValue4
 t9:=Tryz.underlying9
 a9:=Tryz.isAgg9
 z9:=Tryz.sizeOf9
 v9:=Tryz.zeroValue9
 t20:=Tryz.underlying20
 a20:=Tryz.isAgg20
 z20:=Tryz.sizeOf20
 v20:=Tryz.zeroValue20
 t31:=Tryz.underlying56
 a31:=Tryz.isAgg56
 z31:=Tryz.sizeOf56
 v31:=Tryz.zeroValue56
 t37:=Tryz.underlying89
 a37:=Tryz.isAgg89
 z37:=Tryz.sizeOf89
 v37:=Tryz.zeroValue89
 t70:=Tryz.underlying88
 a70:=Tryz.isAgg88
 z70:=Tryz.sizeOf88
 v70:=Tryz.zeroValue88
 t72:=Tryz.underlying91
 a72:=Tryz.isAgg91
 z72:=Tryz.sizeOf91
 v72:=Tryz.zeroValue91
 t75:=Tryz.underlying93
 a75:=Tryz.isAgg93
 z75:=Tryz.sizeOf93
 v75:=Tryz.zeroValue93
 t76:=Tryz.underlying94
 a76:=Tryz.isAgg94
 z76:=Tryz.sizeOf94
 v76:=Tryz.zeroValue94
 t127:=Tryz.underlying134
 a127:=Tryz.isAgg134
 z127:=Tryz.sizeOf134
 v127:=Tryz.zeroValue134
 t164:=Tryz.underlying152
 a164:=Tryz.isAgg152
 z164:=Tryz.sizeOf152
 v164:=Tryz.zeroValue152}
theorem Tryz.Builder_Extra_156:Builder.Extra Tryz.prog Tryz.lays156_ren:={
 sizeBuilder:=by kernel_rfl
 liesBuilder:=by kernel_rfl
 t5:=Tryz.underlying5
 a5:=Tryz.isAgg5
 z5:=Tryz.sizeOf5
 v5:=Tryz.zeroValue5
 infoByte:=by kernel_rfl
 cellsByte:=by kernel_rfl
 sizeByte:=by kernel_rfl
 neB5:=by decide}
open Go.RowKit in
theorem Tryz.strings_Join_none (a:Option Addr) (c:Nat) (sep:ByteArray) (w:World):
  Calls Tryz.prog 65 #[.slice a 0 c,.string sep] w fun e w'=>e= .returned (.string ⟨#[]⟩)∧w'=w:=Any.strings_Join_none Tryz.lays156 Tryz.Builder_Extra_156 a c sep w
open Go.RowKit in
theorem Tryz.strings_Join (bk o c:Nat) (xs:List ByteArray) (sep:ByteArray) (w:World) (hcells:∀(j:Nat) x,xs[j]?=some x→w.cell? ⟨bk,o+j,none⟩=some (.string x)) (hbk:bk<w.heap.size) (hN:xs.length≤140737488355328) (hcap:xs.length≤c) (hlen:(Lib.join (xs.map (·.data.toList)) sep.data.toList).length≤140737488355328):
  Calls Tryz.prog 65 #[.slice (some ⟨bk,o,none⟩) xs.length c,.string sep] w fun e w'=>e= .returned (.string ⟨(Lib.join (xs.map (·.data.toList)) sep.data.toList).toArray⟩)∧Below w.heap.size w w':=Any.strings_Join Tryz.lays156 Tryz.Builder_Extra_156 bk o c xs sep w hcells hbk hN hcap hlen
def Tryz.lays137_ren:Go.Shelf.Ren:=⟨fun|137=>45|217=>74|266=>99|n=>n,fun|9=>9|5=>5|3=>3|n=>n,fun|n=>n⟩
theorem Tryz.lays137:Go.Proofs.Lays.n137 Tryz.prog Tryz.lays137_ren:={
 mixed:=by kernel_rfl
 f137:=Tryz.func45.trans (congrArg some (by kernel_rfl))
 f217:=Tryz.func74.trans (congrArg some (by kernel_rfl))
 f266:=Tryz.func99.trans (congrArg some (by kernel_rfl))
 t3:=Tryz.underlying3
 a3:=Tryz.isAgg3
 z3:=Tryz.sizeOf3
 v3:=Tryz.zeroValue3
 t5:=Tryz.underlying5
 a5:=Tryz.isAgg5
 z5:=Tryz.sizeOf5
 v5:=Tryz.zeroValue5
 t9:=Tryz.underlying9
 a9:=Tryz.isAgg9
 z9:=Tryz.sizeOf9
 v9:=Tryz.zeroValue9}
open Go.RowKit in
theorem Tryz.strings_IndexByte (s:ByteArray) (c:Int) (w:World):
  Calls Tryz.prog 45 #[.string s,.int .u8 c] w fun e w'=>e= .returned (.int .i64 (Lib.indexByte s.data.toList c.toNat.toUInt8))∧w'=w:=Any.strings_IndexByte Tryz.lays137 s c w
def Tryz.lays104_ren:Go.Shelf.Ren:=⟨fun|104=>17|211=>46|207=>75|n=>n,fun|9=>9|4=>4|24=>64|3=>3|n=>n,fun|n=>n⟩
theorem Tryz.lays104:Go.Proofs.Lays.n104 Tryz.prog Tryz.lays104_ren:={
 mixed:=by kernel_rfl
 f104:=Tryz.func17.trans (congrArg some (by kernel_rfl))
 f207:=Tryz.func75.trans (congrArg some (by kernel_rfl))
 f211:=Tryz.func46.trans (congrArg some (by kernel_rfl))
 t3:=Tryz.underlying3
 a3:=Tryz.isAgg3
 z3:=Tryz.sizeOf3
 v3:=Tryz.zeroValue3
 t4:=Tryz.underlying4
 a4:=Tryz.isAgg4
 z4:=Tryz.sizeOf4
 v4:=Tryz.zeroValue4
 t9:=Tryz.underlying9
 a9:=Tryz.isAgg9
 z9:=Tryz.sizeOf9
 v9:=Tryz.zeroValue9
 t24:=Tryz.underlying64
 a24:=Tryz.isAgg64
 z24:=Tryz.sizeOf64
 v24:=Tryz.zeroValue64}
open Go.RowKit in
theorem Tryz.strings_CutSuffix (s p:ByteArray) (w:World) (hs:s.size≤9223372036854775807):
  Calls Tryz.prog 17 #[.string s,.string p] w fun e w'=>e= .returned (.tuple #[.string ⟨(Lib.trimSuffix s.data.toList p.data.toList).toArray⟩,.bool (Lib.hasSuffix s.data.toList p.data.toList)])∧w'=w:=Any.strings_CutSuffix Tryz.lays104 s p w hs
def Tryz.lays283_ren:Go.Shelf.Ren:=⟨fun|283=>107|n=>n,fun|3=>3|9=>9|4=>4|n=>n,fun|n=>n⟩
theorem Tryz.lays283:Go.Proofs.Lays.n283 Tryz.prog Tryz.lays283_ren:={
 mixed:=by kernel_rfl
 f283:=Tryz.func107.trans (congrArg some (by kernel_rfl))
 t3:=Tryz.underlying3
 a3:=Tryz.isAgg3
 z3:=Tryz.sizeOf3
 v3:=Tryz.zeroValue3
 t4:=Tryz.underlying4
 a4:=Tryz.isAgg4
 z4:=Tryz.sizeOf4
 v4:=Tryz.zeroValue4
 t9:=Tryz.underlying9
 a9:=Tryz.isAgg9
 z9:=Tryz.sizeOf9
 v9:=Tryz.zeroValue9}
open Go.Lib in
theorem Tryz.internal_strconv_small (i:Nat) (h:i<100) (w:World):
  Calls Tryz.prog 107 #[.int .i64 i] w fun e w'=>e= .returned (.string ⟨(Lib.decDigits i).toArray⟩)∧w'=w:=Any.internal_strconv_small Tryz.lays283 i h w
def Tryz.laysM284_ren:Go.Shelf.Ren:=⟨fun|284=>108|129=>122|317=>121|318=>123|n=>n,fun|53=>24|3=>3|212=>177|0=>0|4=>4|46=>179|5=>5|9=>9|n=>n,fun|17=>1|n=>n⟩
theorem Tryz.laysM284:Go.Proofs.LaysM.n284 Tryz.prog Tryz.laysM284_ren:={
 mixed:=by kernel_rfl
 f129:=Tryz.func122.trans (congrArg some (by kernel_rfl))
 f284:=Tryz.func108.trans (congrArg some (by kernel_rfl))
 f317:=Tryz.func121.trans (congrArg some (by kernel_rfl))
 f318:=Tryz.func123.trans (congrArg some (by kernel_rfl))
 t0:=Tryz.underlying0
 a0:=Tryz.isAgg0
 z0:=Tryz.sizeOf0
 v0:=Tryz.zeroValue0
 t3:=Tryz.underlying3
 a3:=Tryz.isAgg3
 z3:=Tryz.sizeOf3
 v3:=Tryz.zeroValue3
 t4:=Tryz.underlying4
 a4:=Tryz.isAgg4
 z4:=Tryz.sizeOf4
 v4:=Tryz.zeroValue4
 t5:=Tryz.underlying5
 a5:=Tryz.isAgg5
 z5:=Tryz.sizeOf5
 v5:=Tryz.zeroValue5
 t9:=Tryz.underlying9
 a9:=Tryz.isAgg9
 z9:=Tryz.sizeOf9
 v9:=Tryz.zeroValue9
 t46:=Tryz.underlying179
 a46:=Tryz.isAgg179
 z46:=Tryz.sizeOf179
 v46:=Tryz.zeroValue179
 t53:=Tryz.underlying24
 a53:=Tryz.isAgg24
 z53:=Tryz.sizeOf24
 v53:=Tryz.zeroValue24
 t212:=Tryz.underlying177
 a212:=Tryz.isAgg177
 z212:=Tryz.sizeOf177
 v212:=Tryz.zeroValue177
 g17:=by kernel_rfl
 i0:=by kernel_rfl
 i3:=by kernel_rfl
 i4:=by kernel_rfl
 i5:=by kernel_rfl
 i9:=by kernel_rfl
 i46:=by kernel_rfl
 i53:=by kernel_rfl
 i212:=by kernel_rfl
 m17:=by kernel_rfl}
open Go.Lib in
theorem Tryz.internal_strconv_numDigits (u:Nat) (h1:1≤u) (h2:u<18446744073709551616) (w:World) (htab:Lib.TabIs Tryz.prog w "internal/strconv.uint64pow10" .u64 Lib.pow10Tab):
  Calls Tryz.prog 108 #[.int .u64 u] w fun e w'=>e= .returned (.int .i64 (Lib.nDigits u))∧w'=w:=Any.internal_strconv_numDigits Tryz.laysM284 u h1 h2 w htab
def Tryz.lays285_ren:Go.Shelf.Ren:=⟨fun|285=>109|n=>n,fun|37=>89|53=>24|3=>3|4=>4|51=>51|9=>9|5=>5|0=>0|n=>n,fun|n=>n⟩
theorem Tryz.lays285:Go.Proofs.Lays.n285 Tryz.prog Tryz.lays285_ren:={
 mixed:=by kernel_rfl
 f285:=Tryz.func109.trans (congrArg some (by kernel_rfl))
 t0:=Tryz.underlying0
 a0:=Tryz.isAgg0
 z0:=Tryz.sizeOf0
 v0:=Tryz.zeroValue0
 t3:=Tryz.underlying3
 a3:=Tryz.isAgg3
 z3:=Tryz.sizeOf3
 v3:=Tryz.zeroValue3
 t4:=Tryz.underlying4
 a4:=Tryz.isAgg4
 z4:=Tryz.sizeOf4
 v4:=Tryz.zeroValue4
 t5:=Tryz.underlying5
 a5:=Tryz.isAgg5
 z5:=Tryz.sizeOf5
 v5:=Tryz.zeroValue5
 t9:=Tryz.underlying9
 a9:=Tryz.isAgg9
 z9:=Tryz.sizeOf9
 v9:=Tryz.zeroValue9
 t37:=Tryz.underlying89
 a37:=Tryz.isAgg89
 z37:=Tryz.sizeOf89
 v37:=Tryz.zeroValue89
 t51:=Tryz.underlying51
 a51:=Tryz.isAgg51
 z51:=Tryz.sizeOf51
 v51:=Tryz.zeroValue51
 t53:=Tryz.underlying24
 a53:=Tryz.isAgg24
 z53:=Tryz.sizeOf24
 v53:=Tryz.zeroValue24}
open Go.RowKit Go.Sort Go.Lib in
theorem Tryz.internal_strconv_formatBase10 (blk off cap:Nat) (u:Nat) (d:Array UInt8) (w:World) (hH:Holds (fun(b:UInt8)=>Value.int .u8 (b.toNat:Int)) w blk off d) (hu:u<10 ^ d.size) (hu64:u<18446744073709551616) (hsz:d.size<4611686018427387904):
  Calls Tryz.prog 109 #[.slice (some ⟨blk,off,none⟩) d.size cap,.int .u64 u] w fun e w'=>
   e= .returned (.tuple #[])∧∃(n v':Nat) (dk:Array UInt8),w'=(putRow (fun(b:UInt8)=>Value.int .u8 (b.toNat:Int)) w blk off dk).drewN n∧FmtInv d.size u 0 v' dk:=Any.internal_strconv_formatBase10 Tryz.lays285 blk off cap u d w hH hu hu64 hsz
def Tryz.laysM246_ren:Go.Shelf.Ren:=⟨fun|246=>106|283=>107|284=>108|285=>109|286=>110|129=>122|317=>121|318=>123|319=>124|320=>125|337=>138|338=>139|n=>n,fun|2=>2|3=>3|9=>9|4=>4|171=>164|0=>0|53=>24|37=>89|5=>5|173=>167|212=>177|51=>51|20=>20|213=>178|46=>179|232=>199|233=>200|n=>n,fun|17=>1|18=>6|19=>7|n=>n⟩
def Tryz.laysM243_ren:Go.Shelf.Ren:=⟨fun|243=>89|246=>106|283=>107|284=>108|285=>109|286=>110|129=>122|317=>121|318=>123|319=>124|320=>125|337=>138|338=>139|n=>n,fun|3=>3|9=>9|2=>2|4=>4|171=>164|0=>0|53=>24|37=>89|5=>5|173=>167|212=>177|51=>51|20=>20|213=>178|46=>179|232=>199|233=>200|n=>n,fun|17=>1|18=>6|19=>7|n=>n⟩
def Tryz.laysM171_ren:Go.Shelf.Ren:=⟨fun|171=>60|243=>89|246=>106|283=>107|284=>108|285=>109|286=>110|129=>122|317=>121|318=>123|319=>124|320=>125|337=>138|338=>139|n=>n,fun|3=>3|9=>9|2=>2|4=>4|171=>164|0=>0|53=>24|37=>89|5=>5|173=>167|212=>177|51=>51|20=>20|213=>178|46=>179|232=>199|233=>200|n=>n,fun|17=>1|18=>6|19=>7|n=>n⟩
theorem Tryz.laysM171:Go.Proofs.LaysM.n171 Tryz.prog Tryz.laysM171_ren:={
 mixed:=by kernel_rfl
 f129:=Tryz.func122.trans (congrArg some (by kernel_rfl))
 f171:=Tryz.func60.trans (congrArg some (by kernel_rfl))
 f243:=Tryz.func89.trans (congrArg some (by kernel_rfl))
 f246:=Tryz.func106.trans (congrArg some (by kernel_rfl))
 f283:=Tryz.func107.trans (congrArg some (by kernel_rfl))
 f284:=Tryz.func108.trans (congrArg some (by kernel_rfl))
 f285:=Tryz.func109.trans (congrArg some (by kernel_rfl))
 f286:=Tryz.func110.trans (congrArg some (by kernel_rfl))
 f317:=Tryz.func121.trans (congrArg some (by kernel_rfl))
 f318:=Tryz.func123.trans (congrArg some (by kernel_rfl))
 f319:=Tryz.func124.trans (congrArg some (by kernel_rfl))
 f320:=Tryz.func125.trans (congrArg some (by kernel_rfl))
 f337:=Tryz.func138.trans (congrArg some (by kernel_rfl))
 f338:=Tryz.func139.trans (congrArg some (by kernel_rfl))
 t0:=Tryz.underlying0
 a0:=Tryz.isAgg0
 z0:=Tryz.sizeOf0
 v0:=Tryz.zeroValue0
 t2:=Tryz.underlying2
 a2:=Tryz.isAgg2
 z2:=Tryz.sizeOf2
 v2:=Tryz.zeroValue2
 t3:=Tryz.underlying3
 a3:=Tryz.isAgg3
 z3:=Tryz.sizeOf3
 v3:=Tryz.zeroValue3
 t4:=Tryz.underlying4
 a4:=Tryz.isAgg4
 z4:=Tryz.sizeOf4
 v4:=Tryz.zeroValue4
 t5:=Tryz.underlying5
 a5:=Tryz.isAgg5
 z5:=Tryz.sizeOf5
 v5:=Tryz.zeroValue5
 t9:=Tryz.underlying9
 a9:=Tryz.isAgg9
 z9:=Tryz.sizeOf9
 v9:=Tryz.zeroValue9
 t20:=Tryz.underlying20
 a20:=Tryz.isAgg20
 z20:=Tryz.sizeOf20
 v20:=Tryz.zeroValue20
 t37:=Tryz.underlying89
 a37:=Tryz.isAgg89
 z37:=Tryz.sizeOf89
 v37:=Tryz.zeroValue89
 t46:=Tryz.underlying179
 a46:=Tryz.isAgg179
 z46:=Tryz.sizeOf179
 v46:=Tryz.zeroValue179
 t51:=Tryz.underlying51
 a51:=Tryz.isAgg51
 z51:=Tryz.sizeOf51
 v51:=Tryz.zeroValue51
 t53:=Tryz.underlying24
 a53:=Tryz.isAgg24
 z53:=Tryz.sizeOf24
 v53:=Tryz.zeroValue24
 t171:=Tryz.underlying164
 a171:=Tryz.isAgg164
 z171:=Tryz.sizeOf164
 v171:=Tryz.zeroValue164
 t173:=Tryz.underlying167
 a173:=Tryz.isAgg167
 z173:=Tryz.sizeOf167
 v173:=Tryz.zeroValue167
 t212:=Tryz.underlying177
 a212:=Tryz.isAgg177
 z212:=Tryz.sizeOf177
 v212:=Tryz.zeroValue177
 t213:=Tryz.underlying178
 a213:=Tryz.isAgg178
 z213:=Tryz.sizeOf178
 t232:=Tryz.underlying199
 a232:=Tryz.isAgg199
 z232:=Tryz.sizeOf199
 v232:=Tryz.zeroValue199
 t233:=Tryz.underlying200
 a233:=Tryz.isAgg200
 z233:=Tryz.sizeOf200
 v233:=Tryz.zeroValue200
 g17:=by kernel_rfl
 g18:=by kernel_rfl
 g19:=by kernel_rfl
 i0:=by kernel_rfl
 i2:=by kernel_rfl
 i3:=by kernel_rfl
 i4:=by kernel_rfl
 i5:=by kernel_rfl
 i9:=by kernel_rfl
 i20:=by kernel_rfl
 i37:=by kernel_rfl
 i46:=by kernel_rfl
 i51:=by kernel_rfl
 i53:=by kernel_rfl
 i171:=by kernel_rfl
 i173:=by kernel_rfl
 i212:=by kernel_rfl
 i232:=by kernel_rfl
 i233:=by kernel_rfl
 m17:=by kernel_rfl
 m18:=by kernel_rfl
 m19:=by kernel_rfl}
open Go.RowKit Go.Sort Go.Lib in
theorem Tryz.strconv_Itoa (n:Int) (h0: -9223372036854775808≤n) (h1:n≤9223372036854775807) (w:World) (htab:Lib.TabIs Tryz.prog w "internal/strconv.uint64pow10" .u64 Lib.pow10Tab):
  Calls Tryz.prog 60 #[.int .i64 n] w fun e w'=>e= .returned (.string ⟨(Lib.itoa n).toArray⟩)∧∃k os,w'=grow (w.drewN k) os:=Any.strconv_Itoa Tryz.laysM171 n h0 h1 w htab
def Tryz.laysM173_ren:Go.Shelf.Ren:=⟨fun|173=>92|246=>106|283=>107|284=>108|285=>109|286=>110|129=>122|317=>121|318=>123|319=>124|320=>125|337=>138|338=>139|n=>n,fun|2=>2|3=>3|9=>9|4=>4|171=>164|0=>0|53=>24|37=>89|5=>5|173=>167|212=>177|51=>51|20=>20|213=>178|46=>179|232=>199|233=>200|n=>n,fun|17=>1|18=>6|19=>7|n=>n⟩
theorem Tryz.laysM173:Go.Proofs.LaysM.n173 Tryz.prog Tryz.laysM173_ren:={
 mixed:=by kernel_rfl
 f129:=Tryz.func122.trans (congrArg some (by kernel_rfl))
 f173:=Tryz.func92.trans (congrArg some (by kernel_rfl))
 f246:=Tryz.func106.trans (congrArg some (by kernel_rfl))
 f283:=Tryz.func107.trans (congrArg some (by kernel_rfl))
 f284:=Tryz.func108.trans (congrArg some (by kernel_rfl))
 f285:=Tryz.func109.trans (congrArg some (by kernel_rfl))
 f286:=Tryz.func110.trans (congrArg some (by kernel_rfl))
 f317:=Tryz.func121.trans (congrArg some (by kernel_rfl))
 f318:=Tryz.func123.trans (congrArg some (by kernel_rfl))
 f319:=Tryz.func124.trans (congrArg some (by kernel_rfl))
 f320:=Tryz.func125.trans (congrArg some (by kernel_rfl))
 f337:=Tryz.func138.trans (congrArg some (by kernel_rfl))
 f338:=Tryz.func139.trans (congrArg some (by kernel_rfl))
 t0:=Tryz.underlying0
 a0:=Tryz.isAgg0
 z0:=Tryz.sizeOf0
 v0:=Tryz.zeroValue0
 t2:=Tryz.underlying2
 a2:=Tryz.isAgg2
 z2:=Tryz.sizeOf2
 v2:=Tryz.zeroValue2
 t3:=Tryz.underlying3
 a3:=Tryz.isAgg3
 z3:=Tryz.sizeOf3
 v3:=Tryz.zeroValue3
 t4:=Tryz.underlying4
 a4:=Tryz.isAgg4
 z4:=Tryz.sizeOf4
 v4:=Tryz.zeroValue4
 t5:=Tryz.underlying5
 a5:=Tryz.isAgg5
 z5:=Tryz.sizeOf5
 v5:=Tryz.zeroValue5
 t9:=Tryz.underlying9
 a9:=Tryz.isAgg9
 z9:=Tryz.sizeOf9
 v9:=Tryz.zeroValue9
 t20:=Tryz.underlying20
 a20:=Tryz.isAgg20
 z20:=Tryz.sizeOf20
 v20:=Tryz.zeroValue20
 t37:=Tryz.underlying89
 a37:=Tryz.isAgg89
 z37:=Tryz.sizeOf89
 v37:=Tryz.zeroValue89
 t46:=Tryz.underlying179
 a46:=Tryz.isAgg179
 z46:=Tryz.sizeOf179
 v46:=Tryz.zeroValue179
 t51:=Tryz.underlying51
 a51:=Tryz.isAgg51
 z51:=Tryz.sizeOf51
 v51:=Tryz.zeroValue51
 t53:=Tryz.underlying24
 a53:=Tryz.isAgg24
 z53:=Tryz.sizeOf24
 v53:=Tryz.zeroValue24
 t171:=Tryz.underlying164
 a171:=Tryz.isAgg164
 z171:=Tryz.sizeOf164
 v171:=Tryz.zeroValue164
 t173:=Tryz.underlying167
 a173:=Tryz.isAgg167
 z173:=Tryz.sizeOf167
 v173:=Tryz.zeroValue167
 t212:=Tryz.underlying177
 a212:=Tryz.isAgg177
 z212:=Tryz.sizeOf177
 v212:=Tryz.zeroValue177
 t213:=Tryz.underlying178
 a213:=Tryz.isAgg178
 z213:=Tryz.sizeOf178
 t232:=Tryz.underlying199
 a232:=Tryz.isAgg199
 z232:=Tryz.sizeOf199
 v232:=Tryz.zeroValue199
 t233:=Tryz.underlying200
 a233:=Tryz.isAgg200
 z233:=Tryz.sizeOf200
 v233:=Tryz.zeroValue200
 g17:=by kernel_rfl
 g18:=by kernel_rfl
 g19:=by kernel_rfl
 i0:=by kernel_rfl
 i2:=by kernel_rfl
 i3:=by kernel_rfl
 i4:=by kernel_rfl
 i5:=by kernel_rfl
 i9:=by kernel_rfl
 i20:=by kernel_rfl
 i37:=by kernel_rfl
 i46:=by kernel_rfl
 i51:=by kernel_rfl
 i53:=by kernel_rfl
 i171:=by kernel_rfl
 i173:=by kernel_rfl
 i212:=by kernel_rfl
 i232:=by kernel_rfl
 i233:=by kernel_rfl
 m17:=by kernel_rfl
 m18:=by kernel_rfl
 m19:=by kernel_rfl}
open Go.RowKit Go.Sort Go.Lib in
theorem Tryz.strconv_FormatInt_10 (n:Int) (h0: -9223372036854775808≤n) (h1:n≤9223372036854775807) (w:World) (htab:Lib.TabIs Tryz.prog w "internal/strconv.uint64pow10" .u64 Lib.pow10Tab):
  Calls Tryz.prog 92 #[.int .i64 n,.int .i64 10] w fun e w'=>e= .returned (.string ⟨(Lib.itoa n).toArray⟩)∧∃k os,w'=grow (w.drewN k) os:=Any.strconv_FormatInt_10 Tryz.laysM173 n h0 h1 w htab
def Tryz.laysPu14_ren:Go.Shelf.Ren:=⟨fun|14=>103|16=>119|17=>120|19=>132|20=>133|21=>134|22=>135|23=>136|24=>137|25=>141|27=>60|26=>142|28=>89|29=>106|30=>107|31=>108|32=>109|33=>110|35=>122|34=>121|36=>123|37=>124|38=>125|39=>138|40=>139|n=>n,fun|9=>9|3=>3|22=>24|24=>93|25=>162|4=>4|34=>183|5=>5|36=>179|37=>89|0=>0|39=>185|21=>21|44=>197|47=>134|50=>203|48=>201|2=>2|52=>164|55=>167|59=>177|60=>51|20=>20|61=>178|65=>199|66=>200|67=>99|n=>n,fun|0=>4|1=>5|2=>1|3=>6|4=>7|n=>n⟩
theorem Tryz.laysPu14:Go.Proofs.LaysPu.n14 Tryz.prog Tryz.laysPu14_ren:={
 mixed:=by kernel_rfl
 f14:=Tryz.func103.trans (congrArg some (by kernel_rfl))
 f16:=Tryz.func119.trans (congrArg some (by kernel_rfl))
 f17:=Tryz.func120.trans (congrArg some (by kernel_rfl))
 f19:=Tryz.func132.trans (congrArg some (by kernel_rfl))
 f20:=Tryz.func133.trans (congrArg some (by kernel_rfl))
 f21:=Tryz.func134.trans (congrArg some (by kernel_rfl))
 f22:=Tryz.func135.trans (congrArg some (by kernel_rfl))
 f23:=Tryz.func136.trans (congrArg some (by kernel_rfl))
 f24:=Tryz.func137.trans (congrArg some (by kernel_rfl))
 f25:=Tryz.func141.trans (congrArg some (by kernel_rfl))
 f26:=Tryz.func142.trans (congrArg some (by kernel_rfl))
 f27:=Tryz.func60.trans (congrArg some (by kernel_rfl))
 f28:=Tryz.func89.trans (congrArg some (by kernel_rfl))
 f29:=Tryz.func106.trans (congrArg some (by kernel_rfl))
 f30:=Tryz.func107.trans (congrArg some (by kernel_rfl))
 f31:=Tryz.func108.trans (congrArg some (by kernel_rfl))
 f32:=Tryz.func109.trans (congrArg some (by kernel_rfl))
 f33:=Tryz.func110.trans (congrArg some (by kernel_rfl))
 f34:=Tryz.func121.trans (congrArg some (by kernel_rfl))
 f35:=Tryz.func122.trans (congrArg some (by kernel_rfl))
 f36:=Tryz.func123.trans (congrArg some (by kernel_rfl))
 f37:=Tryz.func124.trans (congrArg some (by kernel_rfl))
 f38:=Tryz.func125.trans (congrArg some (by kernel_rfl))
 f39:=Tryz.func138.trans (congrArg some (by kernel_rfl))
 f40:=Tryz.func139.trans (congrArg some (by kernel_rfl))
 t0:=Tryz.underlying0
 a0:=Tryz.isAgg0
 z0:=Tryz.sizeOf0
 v0:=Tryz.zeroValue0
 i0:=by kernel_rfl
 t2:=Tryz.underlying2
 a2:=Tryz.isAgg2
 z2:=Tryz.sizeOf2
 v2:=Tryz.zeroValue2
 i2:=by kernel_rfl
 t3:=Tryz.underlying3
 a3:=Tryz.isAgg3
 z3:=Tryz.sizeOf3
 v3:=Tryz.zeroValue3
 i3:=by kernel_rfl
 t4:=Tryz.underlying4
 a4:=Tryz.isAgg4
 z4:=Tryz.sizeOf4
 v4:=Tryz.zeroValue4
 i4:=by kernel_rfl
 t5:=Tryz.underlying5
 a5:=Tryz.isAgg5
 z5:=Tryz.sizeOf5
 v5:=Tryz.zeroValue5
 i5:=by kernel_rfl
 t9:=Tryz.underlying9
 a9:=Tryz.isAgg9
 z9:=Tryz.sizeOf9
 v9:=Tryz.zeroValue9
 i9:=by kernel_rfl
 t20:=Tryz.underlying20
 a20:=Tryz.isAgg20
 z20:=Tryz.sizeOf20
 v20:=Tryz.zeroValue20
 i20:=by kernel_rfl
 t21:=Tryz.underlying21
 a21:=Tryz.isAgg21
 z21:=Tryz.sizeOf21
 v21:=Tryz.zeroValue21
 i21:=by kernel_rfl
 t22:=Tryz.underlying24
 a22:=Tryz.isAgg24
 z22:=Tryz.sizeOf24
 v22:=Tryz.zeroValue24
 i22:=by kernel_rfl
 t24:=Tryz.underlying93
 a24:=Tryz.isAgg93
 z24:=Tryz.sizeOf93
 v24:=Tryz.zeroValue93
 i24:=by kernel_rfl
 t25:=Tryz.underlying162
 a25:=Tryz.isAgg162
 z25:=Tryz.sizeOf162
 v25:=Tryz.zeroValue162
 i25:=by kernel_rfl
 t34:=Tryz.underlying183
 a34:=Tryz.isAgg183
 z34:=Tryz.sizeOf183
 v34:=Tryz.zeroValue183
 i34:=by kernel_rfl
 c34:=by kernel_rfl
 t36:=Tryz.underlying179
 a36:=Tryz.isAgg179
 z36:=Tryz.sizeOf179
 v36:=Tryz.zeroValue179
 i36:=by kernel_rfl
 t37:=Tryz.underlying89
 a37:=Tryz.isAgg89
 z37:=Tryz.sizeOf89
 v37:=Tryz.zeroValue89
 i37:=by kernel_rfl
 t39:=Tryz.underlying185
 a39:=Tryz.isAgg185
 z39:=Tryz.sizeOf185
 v39:=Tryz.zeroValue185
 i39:=by kernel_rfl
 t44:=Tryz.underlying197
 a44:=Tryz.isAgg197
 z44:=Tryz.sizeOf197
 v44:=Tryz.zeroValue197
 i44:=by kernel_rfl
 t47:=Tryz.underlying134
 a47:=Tryz.isAgg134
 z47:=Tryz.sizeOf134
 v47:=Tryz.zeroValue134
 i47:=by kernel_rfl
 t48:=Tryz.underlying201
 a48:=Tryz.isAgg201
 z48:=Tryz.sizeOf201
 v48:=Tryz.zeroValue201
 i48:=by kernel_rfl
 t50:=Tryz.underlying203
 a50:=Tryz.isAgg203
 z50:=Tryz.sizeOf203
 v50:=Tryz.zeroValue203
 i50:=by kernel_rfl
 t52:=Tryz.underlying164
 a52:=Tryz.isAgg164
 z52:=Tryz.sizeOf164
 v52:=Tryz.zeroValue164
 i52:=by kernel_rfl
 t55:=Tryz.underlying167
 a55:=Tryz.isAgg167
 z55:=Tryz.sizeOf167
 v55:=Tryz.zeroValue167
 i55:=by kernel_rfl
 t59:=Tryz.underlying177
 a59:=Tryz.isAgg177
 z59:=Tryz.sizeOf177
 v59:=Tryz.zeroValue177
 i59:=by kernel_rfl
 t60:=Tryz.underlying51
 a60:=Tryz.isAgg51
 z60:=Tryz.sizeOf51
 v60:=Tryz.zeroValue51
 i60:=by kernel_rfl
 t61:=Tryz.underlying178
 a61:=Tryz.isAgg178
 z61:=Tryz.sizeOf178
 t65:=Tryz.underlying199
 a65:=Tryz.isAgg199
 z65:=Tryz.sizeOf199
 v65:=Tryz.zeroValue199
 i65:=by kernel_rfl
 t66:=Tryz.underlying200
 a66:=Tryz.isAgg200
 z66:=Tryz.sizeOf200
 v66:=Tryz.zeroValue200
 i66:=by kernel_rfl
 t67:=Tryz.underlying99
 a67:=Tryz.isAgg99
 z67:=Tryz.sizeOf99
 v67:=Tryz.zeroValue99
 i67:=by kernel_rfl
 g0:=by kernel_rfl
 m0:=by kernel_rfl
 g1:=by kernel_rfl
 m1:=by kernel_rfl
 g2:=by kernel_rfl
 m2:=by kernel_rfl
 g3:=by kernel_rfl
 m3:=by kernel_rfl
 g4:=by kernel_rfl
 m4:=by kernel_rfl}
open Go.RowKit in
theorem Tryz.strconv_ParseUint_10_at64_ok (s:ByteArray) (hmax:s.size≤9223372036854775806) (u:Nat) (h:Lib.parseUintB 64 s.data.toList= .ok u) (w:World):
  Calls Tryz.prog 103 #[.string s,.int .i64 10,.int .i64 64] w fun e w'=>e= .returned (.tuple #[.int .u64 u,.nilIface])∧(w'=w∨w'=Lib.bytesWorld w 5 s):=Any.strconv_ParseUint_10_at64_ok Tryz.laysPu14 s hmax u h w
open Go.RowKit in
theorem Tryz.strconv_ParseUint_10_at64_syntax (s:ByteArray) (hlim:s.size≤281474976710656) (h:Lib.parseUintB 64 s.data.toList=Go.Lib.NumEnd.syntax) (ev:Value) (w:World) (hv:w.cell? ⟨4,0,none⟩=some ev) (hev:ev= .nilIface∨∃te pe,ev= .iface te pe):
  Calls Tryz.prog 103 #[.string s,.int .i64 10,.int .i64 64] w fun e w'=>∃N,e= .returned (.tuple #[.int .u64 0,.iface 185 (.pointer (some ⟨N,0,none⟩))])∧w.heap.size≤N∧w'.heap[N]?=some (.cells #[.string ⟨#[80,97,114,115,101,85,105,110,116]⟩,.string s,ev] 197 (0,0))∧Below w.heap.size w w':=Any.strconv_ParseUint_10_at64_syntax Tryz.laysPu14 s hlim h ev w hv hev
open Go.RowKit in
theorem Tryz.strconv_ParseUint_10_at64_range (s:ByteArray) (hlim:s.size≤281474976710656) (h:Lib.parseUintB 64 s.data.toList= .range) (ev:Value) (w:World) (hv:w.cell? ⟨5,0,none⟩=some ev) (hev:ev= .nilIface∨∃te pe,ev= .iface te pe):
  Calls Tryz.prog 103 #[.string s,.int .i64 10,.int .i64 64] w fun e w'=>∃N,e= .returned (.tuple #[.int .u64 18446744073709551615,.iface 185 (.pointer (some ⟨N,0,none⟩))])∧w.heap.size≤N∧w'.heap[N]?=some (.cells #[.string ⟨#[80,97,114,115,101,85,105,110,116]⟩,.string s,ev] 197 (0,0))∧Below w.heap.size w w':=Any.strconv_ParseUint_10_at64_range Tryz.laysPu14 s hlim h ev w hv hev
def Tryz.laysGw15_ren:Go.Shelf.Ren:=⟨fun|15=>114|20=>127|n=>n,fun|9=>9|23=>170|3=>3|4=>4|0=>0|21=>21|n=>n,fun|n=>n⟩
theorem Tryz.laysGw15:Go.Proofs.LaysGw.n15 Tryz.prog Tryz.laysGw15_ren:={
 mixed:=by kernel_rfl
 f15:=Tryz.func114.trans (congrArg some (by kernel_rfl))
 f20:=Tryz.func127.trans (congrArg some (by kernel_rfl))
 t0:=Tryz.underlying0
 a0:=Tryz.isAgg0
 z0:=Tryz.sizeOf0
 v0:=Tryz.zeroValue0
 i0:=by kernel_rfl
 t3:=Tryz.underlying3
 a3:=Tryz.isAgg3
 z3:=Tryz.sizeOf3
 v3:=Tryz.zeroValue3
 i3:=by kernel_rfl
 t4:=Tryz.underlying4
 a4:=Tryz.isAgg4
 z4:=Tryz.sizeOf4
 v4:=Tryz.zeroValue4
 i4:=by kernel_rfl
 t9:=Tryz.underlying9
 a9:=Tryz.isAgg9
 z9:=Tryz.sizeOf9
 v9:=Tryz.zeroValue9
 i9:=by kernel_rfl
 t21:=Tryz.underlying21
 a21:=Tryz.isAgg21
 z21:=Tryz.sizeOf21
 v21:=Tryz.zeroValue21
 i21:=by kernel_rfl
 t23:=Tryz.underlying170
 a23:=Tryz.isAgg170
 z23:=Tryz.sizeOf170
 v23:=Tryz.zeroValue170
 i23:=by kernel_rfl}
open Go.RowKit Go.Lib in
theorem Tryz.strings_IndexFunc (g:Nat) (lb:Array Value) (eg:∀args w,(callFunc g args).run Tryz.prog w= .ok (.enter g args) w) (p:Nat→Bool) (s:ByteArray) (w:World) (hp:PredAt Tryz.prog g lb encR p w):
  Calls Tryz.prog 114 #[.string s,.func (.func g) #[] lb] w fun e w'=>e= .returned (.int .i64 (Lib.idxFunc p true s))∧Below w.heap.size w w':=Any.strings_IndexFunc Tryz.laysGw15 g lb eg p s w hp
def Tryz.lays221_ren:Go.Shelf.Ren:=⟨fun|221=>76|268=>100|138=>101|143=>102|195=>115|197=>116|218=>117|219=>118|260=>128|217=>74|225=>129|224=>130|267=>131|266=>99|314=>140|n=>n,fun|9=>9|3=>3|31=>56|4=>4|0=>0|105=>172|21=>21|5=>5|46=>179|119=>189|139=>192|138=>191|146=>193|51=>51|n=>n,fun|1=>0|3=>2|4=>3|n=>n⟩
def Tryz.lays146_ren:Go.Shelf.Ren:=⟨fun|146=>47|221=>76|268=>100|138=>101|143=>102|195=>115|197=>116|218=>117|219=>118|260=>128|217=>74|225=>129|224=>130|267=>131|266=>99|314=>140|n=>n,fun|9=>9|31=>56|3=>3|4=>4|0=>0|105=>172|21=>21|5=>5|46=>179|119=>189|139=>192|138=>191|146=>193|51=>51|n=>n,fun|1=>0|3=>2|4=>3|n=>n⟩
theorem Tryz.lays146:Go.Proofs.Lays.n146 Tryz.prog Tryz.lays146_ren:={
 mixed:=by kernel_rfl
 f138:=Tryz.func101.trans (congrArg some (by kernel_rfl))
 f143:=Tryz.func102.trans (congrArg some (by kernel_rfl))
 f146:=Tryz.func47.trans (congrArg some (by kernel_rfl))
 f195:=Tryz.func115.trans (congrArg some (by kernel_rfl))
 f197:=Tryz.func116.trans (congrArg some (by kernel_rfl))
 f217:=Tryz.func74.trans (congrArg some (by kernel_rfl))
 f218:=Tryz.func117.trans (congrArg some (by kernel_rfl))
 f219:=Tryz.func118.trans (congrArg some (by kernel_rfl))
 f221:=Tryz.func76.trans (congrArg some (by kernel_rfl))
 f224:=Tryz.func130.trans (congrArg some (by kernel_rfl))
 f225:=Tryz.func129.trans (congrArg some (by kernel_rfl))
 f260:=Tryz.func128.trans (congrArg some (by kernel_rfl))
 f266:=Tryz.func99.trans (congrArg some (by kernel_rfl))
 f267:=Tryz.func131.trans (congrArg some (by kernel_rfl))
 f268:=Tryz.func100.trans (congrArg some (by kernel_rfl))
 f314:=Tryz.func140.trans (congrArg some (by kernel_rfl))
 t0:=Tryz.underlying0
 a0:=Tryz.isAgg0
 z0:=Tryz.sizeOf0
 v0:=Tryz.zeroValue0
 t3:=Tryz.underlying3
 a3:=Tryz.isAgg3
 z3:=Tryz.sizeOf3
 v3:=Tryz.zeroValue3
 t4:=Tryz.underlying4
 a4:=Tryz.isAgg4
 z4:=Tryz.sizeOf4
 v4:=Tryz.zeroValue4
 t5:=Tryz.underlying5
 a5:=Tryz.isAgg5
 z5:=Tryz.sizeOf5
 v5:=Tryz.zeroValue5
 t9:=Tryz.underlying9
 a9:=Tryz.isAgg9
 z9:=Tryz.sizeOf9
 v9:=Tryz.zeroValue9
 t21:=Tryz.underlying21
 a21:=Tryz.isAgg21
 z21:=Tryz.sizeOf21
 v21:=Tryz.zeroValue21
 t31:=Tryz.underlying56
 a31:=Tryz.isAgg56
 z31:=Tryz.sizeOf56
 v31:=Tryz.zeroValue56
 t46:=Tryz.underlying179
 a46:=Tryz.isAgg179
 z46:=Tryz.sizeOf179
 v46:=Tryz.zeroValue179
 t51:=Tryz.underlying51
 a51:=Tryz.isAgg51
 z51:=Tryz.sizeOf51
 v51:=Tryz.zeroValue51
 t105:=Tryz.underlying172
 a105:=Tryz.isAgg172
 z105:=Tryz.sizeOf172
 v105:=Tryz.zeroValue172
 t119:=Tryz.underlying189
 a119:=Tryz.isAgg189
 z119:=Tryz.sizeOf189
 t138:=Tryz.underlying191
 a138:=Tryz.isAgg191
 z138:=Tryz.sizeOf191
 v138:=Tryz.zeroValue191
 t139:=Tryz.underlying192
 a139:=Tryz.isAgg192
 z139:=Tryz.sizeOf192
 v139:=Tryz.zeroValue192
 t146:=Tryz.underlying193
 a146:=Tryz.isAgg193
 z146:=Tryz.sizeOf193
 v146:=Tryz.zeroValue193
 g1:=by kernel_rfl
 g3:=by kernel_rfl
 g4:=by kernel_rfl}
open Go.RowKit Go.Lib in
theorem Tryz.strings_Split (s sep:ByteArray) (m:Int) (w:World) (hs:s.size<4294967281) (hm:w.cell? ⟨0,0,none⟩=some (.int .i64 m)) (h1:1≤sep.size):
  Calls Tryz.prog 47 #[.string s,.string sep] w fun e w'=>
   e= .returned (.slice (some ⟨w.heap.size,0,none⟩) (Lib.countB s sep+1) (Lib.countB s sep+1))∧w'=w.alloc (.cells ((Lib.splitB sep 0 (Lib.countB s sep) s).map Value.string).toArray 9):=Any.strings_Split Tryz.lays146 (by kernel_rfl) s sep m w hs hm h1
end Go.Proofs
namespace Go.Txt
open Go
def wds (b:UInt8):List UInt8→List (List UInt8)
 |[]=>[[]]
 |x::r=>if x=b then []::wds b r else match wds b r with
  |w::ws=>(x::w)::ws
  |[]=>[[x]]
theorem wds_ne (b:UInt8):∀s,wds b s≠[]
 |[]=>by simp[wds]
 |x::r=>by
  unfold wds
  split
  ·simp
  ·split<;>simp
theorem uA {b:UInt8}:∀{s:List UInt8},b∉s→wds b s=[s]
 |[],_=>rfl
 |x::r,h=>by
  have h1:x≠b:=fun e=>h (by rw[e];simp)
  rw[wds,if_neg h1,uA (s:=r) (fun e=>h (List.mem_cons_of_mem _ e))]
theorem yL {b:UInt8}:∀{u v:List UInt8},b∉u→wds b (u++b::v)=u::wds b v
 |[],v,_=>by rw[acK,wds,if_pos rfl]
 |x::u,v,h=>by
  have h1:x≠b:=fun e=>h (by rw[e];simp)
  rw[acI,wds,if_neg h1,yL (fun e=>h (List.mem_cons_of_mem _ e))]
theorem split_eq (b:UInt8):∀(n:Nat) (s:List UInt8),s.length≤n→Lib.split s [b]=wds b s
 |0,s,h=>by
  obtain rfl:s=[]:=acW (by omega)
  rfl
 |n+1,s,h=>by
  rcases Lib.index_spec s [b] with⟨h1,h2⟩|⟨i,h1,h2,h3,h4⟩
  ·have hb:b∉s:=fun hm=>by
    obtain⟨k,hk⟩:=List.mem_iff_getElem?.1 hm
    rw[Lib.index_one]at h1
    exact Lib.indexByte_none h1 k hk
   rw[uA hb,Lib.split,Lib.count_miss h1]
   rfl
  ·rw[Lib.index_one]at h1
   obtain⟨h5,h6⟩:=Lib.indexByte_some h1
   have hs:s=s.take i++b::s.drop (i+1):=by
    have hi:=(List.getElem?_eq_some_iff.1 h5).1
    have e:s.drop i=b::s.drop (i+1):=by rw[List.drop_eq_getElem_cons hi,(List.getElem?_eq_some_iff.1 h5).2]
    rw[←e,List.take_append_drop]
   have hb:b∉s.take i:=fun hm=>by
    obtain⟨k,hk⟩:=List.mem_iff_getElem?.1 hm
    have hlt:k<i:=by
     have:=(List.getElem?_eq_some_iff.1 hk).1
     simp at this;omega
    rw[acS hlt]at hk
    exact h6 k hlt hk
   have h1':Lib.index s [b]=(i:Int):=by rw[Lib.index_one];exact h1
   have hc:=Lib.count_hit (s:=s) (sub:=[b]) (i:=i) (by simp) h1'
   have e2:wds b s=s.take i::wds b (s.drop (i+1)):=by
    conv=>lhs;rw[hs]
    exact yL hb
   rw[e2,Lib.split,hc,Nat.add_comm 1,Lib.splitK,if_neg (by rw[h1'];simp),h1']
   have e3:=split_eq b n (s.drop (i+1)) (by
    have hi:=(List.getElem?_eq_some_iff.1 h5).1
    simp;omega)
   rw[Lib.split]at e3
   simp only[List.length_singleton,Int.toNat_natCast,Nat.add_zero]
   rw[e3]
theorem DW:∀(l:List UInt8) (acc v:Nat) (c:UInt8),Lib.parseUint10 acc l= .ok v→48≤c.toNat→c.toNat≤57→v*10+(c.toNat - 48)<18446744073709551616→Lib.parseUint10 acc (l++[c])= .ok (v*10+(c.toNat - 48))
 |[],acc,v,c,h,h1,h2,h3=>by
  simp only[Lib.parseUint10]at h
  injection h with h
  subst h
  rw[acK,Lib.parseUint10,if_pos ⟨h1,h2⟩,if_neg (by omega),if_neg (by omega),Lib.parseUint10]
 |d::r,acc,v,c,h,h1,h2,h3=>by
  rw[acI]
  simp only[Lib.parseUint10]at h ⊢
  split at h
  ·rename_i hc
   rw[if_pos hc]
   split at h
   ·cases h
   ·rename_i hn
    rw[if_neg hn]
    split at h
    ·cases h
    ·rename_i hm
     rw[if_neg hm]
     exact DW r _ v c h h1 h2 h3
  ·cases h
theorem nJ {d:Nat} (h:d<10):(acX (48+d)).toNat=48+d:=by
 simp;omega
theorem PZ (u:Nat) (h:u<18446744073709551616):Lib.parseUint10 0 (Lib.decDigits u)= .ok u:=by
 by_cases h1:u<10
 ·rw[Lib.decDigits_one h1]
  have:=DW [] 0 0 (acX (48+u)) rfl (by rw[nJ h1];omega) (by rw[nJ h1];omega) (by rw[nJ h1];omega)
  rw[acK]at this
  rw[this,nJ h1]
  congr 1;omega
 ·have ih:=PZ (u / 10) (by omega)
  rw[Lib.decDigits,dif_neg h1]
  have e:=nJ (d:=u % 10) (by omega)
  rw[DW _ _ _ _ ih (by rw[e];omega) (by rw[e];omega) (by rw[e];omega),e]
  congr 1;omega
 termination_by u
 decreasing_by omega
theorem Rq (u:Nat):Lib.decDigits u≠[]:=by
 rw[Lib.decDigits]
 split<;>simp
theorem MJ (u:Nat):∀c∈Lib.decDigits u,48≤c.toNat∧c.toNat≤57:=by
 intro c hc
 by_cases h1:u<10
 ·rw[Lib.decDigits_one h1,List.mem_singleton]at hc
  rw[hc,nJ h1];omega
 ·rw[Lib.decDigits,dif_neg h1]at hc
  rcases List.mem_append.1 hc with hc|hc
  ·exact MJ (u / 10) c hc
  ·rw[List.mem_singleton]at hc
   rw[hc,nJ (d:=u % 10) (by omega)];omega
 termination_by u
 decreasing_by omega
theorem Be {z:Int} (h0:0≤z) (h1:z≤18446744073709551615):Lib.parseMag (Lib.itoa z)= .ok z.toNat:=by
 obtain⟨u,rfl⟩:∃u:Nat,z=u:=⟨z.toNat,by omega⟩
 rw[Lib.itoa_nonneg,Lib.parseMag,if_neg (Rq u),PZ u (by omega)]
 rfl
def cE (m:Int) (s:List UInt8) (z:Int):Prop:=0≤z∧z≤m∧s=Lib.itoa z
theorem Mf {m z:Int} {s:List UInt8} (hm:m≤18446744073709551615) (h:cE m s z):Lib.parseMag s= .ok z.toNat:=by
 obtain⟨h0,h1,rfl⟩:=h
 exact Be h0 (by omega)
theorem Qo {m:Int} {s:List UInt8} {u:Nat} (hm:m≤18446744073709551615) (h:Lib.parseMag s= .ok u):(cE m s u↔(u:Int)≤m∧Lib.itoa u=s)∧((∃z,cE m s z)→cE m s u):=by
 refine⟨⟨fun q=>⟨q.2.1,q.2.2.symm⟩,fun q=>⟨by omega,q.1,q.2.symm⟩⟩,?_⟩
 rintro⟨z,hz⟩
 have e:=Mf hm hz
 rw[h]at e
 injection e with e
 have e2:z=(u:Int):=by have:=hz.1;omega
 rw[←e2];exact hz
theorem SU {m z:Int} {s:List UInt8} (hm:m≤18446744073709551615) (h:∀u,¬Lib.parseMag s= .ok u):¬cE m s z:=fun q=>h _ (Mf hm q)
theorem Me {m z:Int}:¬cE m [] z:=fun q=>by
 obtain⟨h0,h1,h⟩:=q
 obtain⟨u,rfl⟩:∃u:Nat,z=u:=⟨z.toNat,by omega⟩
 rw[Lib.itoa_nonneg]at h
 exact Rq u h.symm
theorem Bi {a b:Int} (ha:0≤a) (hb:0≤b) (ha1:a≤18446744073709551615) (hb1:b≤18446744073709551615) (h:Lib.itoa a=Lib.itoa b):a=b:=by
 have e:=Be ha ha1
 rw[h,Be hb hb1]at e
 injection e with e
 omega
theorem tU {m m' a b:Int} {s:List UInt8} (hm:m≤18446744073709551615) (hm':m'≤18446744073709551615) (h:cE m s a) (k:cE m' s b):a=b:=by
 obtain⟨h0,h1,h2⟩:=h
 obtain⟨k0,k1,k2⟩:=k
 exact Bi h0 k0 (by omega) (by omega) (h2.symm.trans k2)
theorem me {z:Int} (h:0≤z) {b:UInt8} (hb:b=32∨b=58∨b=10):b∉Lib.itoa z:=by
 obtain⟨u,rfl⟩:∃u:Nat,z=u:=⟨z.toNat,by omega⟩
 rw[Lib.itoa_nonneg]
 intro q
 have e:=MJ u b q
 rcases hb with rfl|rfl|rfl
 ·exact absurd e (by decide)
 ·exact absurd e (by decide)
 ·exact absurd e (by decide)
theorem Hq {b:UInt8}:∀(ws:List (List UInt8)) (w:List UInt8),b∉w→(∀x∈ws,b∉x)→wds b (w++Lib.joinTail [b] ws)=w::ws
 |[],w,h,_=>by
  have e:w++Lib.joinTail [b] []=w:=by simp[Lib.joinTail]
  rw[e];exact uA h
 |x::ws,w,h,h2=>by
  have e:w++Lib.joinTail [b] (x::ws)=w++b::(x++Lib.joinTail [b] ws):=by simp[Lib.joinTail]
  rw[e,yL h,Hq ws x (h2 x List.mem_cons_self) fun y hy=>h2 y (List.mem_cons_of_mem _ hy)]
theorem Hr {b:UInt8} {ws:List (List UInt8)} (hn:ws≠[]) (h:∀x∈ws,b∉x):wds b (Lib.join ws [b])=ws:=by
 cases ws with
 |nil=>exact absurd rfl hn
 |cons w ws=>
  rw[Lib.join_cons]
  exact Hq ws w (h w List.mem_cons_self) fun y hy=>h y (List.mem_cons_of_mem _ hy)
theorem Bh {b:UInt8}:∀s:List UInt8,Lib.join (wds b s) [b]=s
 |[]=>by simp[wds,Lib.join,List.intercalate]
 |x::r=>by
  have ih:=Bh (b:=b) r
  unfold wds
  split
  ·rename_i hx
   rw[Lib.join_cons,acK]
   cases e:wds b r with
   |nil=>exact absurd e (wds_ne b r)
   |cons w ws=>
    rw[e,Lib.join_cons]at ih
    rw[show Lib.joinTail [b] (w::ws)=b::(w++Lib.joinTail [b] ws) by simp[Lib.joinTail],ih,hx]
  ·split
   ·rename_i w ws e
    rw[e,Lib.join_cons]at ih
    rw[Lib.join_cons,acI,ih]
   ·rename_i e
    exact absurd e (wds_ne b r)
end Go.Txt
namespace Go.Proofs.YtacomabmhnodlaaGreatDoor
open Go Go.RowKit Go.Eng Go.Sy
set_option linter.unusedVariables false
set_option linter.unnecessarySimpa false
set_option maxHeartbeats 4000000
set_option maxRecDepth 100000
theorem Ug:isAg Tryz.prog 88=some false:=by kernel_rfl
theorem KA:isAg Tryz.prog 89=some false:=by kernel_rfl
theorem ab3:lw Tryz.prog 5 1 1=true:=by kernel_rfl
theorem mixed:Tryz.prog.follows .mixedOrders=true:=by kernel_rfl
theorem yY:pb Tryz.prog 91 0=some 0:=by kernel_rfl
theorem pS:pb Tryz.prog 91 1=some 1:=by kernel_rfl
theorem acd:xz Tryz.prog 59=some (false,false):=by kernel_rfl
theorem ZE:(Tryz.prog.info? 91).isSome=true:=by kernel_rfl
theorem ab7:szOf Tryz.prog 88=some 1:=by kernel_rfl
theorem ab6:szOf Tryz.prog 89=some 1:=by kernel_rfl
theorem Zz:szOf Tryz.prog 91=some 2:=by kernel_rfl
theorem Xn:Tryz.prog.underlying 134=some (.pointer 5):=by kernel_rfl
theorem PJ:Tryz.prog.underlying 152=some .unsafePointer:=by kernel_rfl
theorem No:Tryz.prog.underlying 88=some (.pointer 91):=by kernel_rfl
theorem Nn:Tryz.prog.underlying 89=some (.slice 5):=by kernel_rfl
theorem Xm:Tryz.prog.underlying 9=some .string:=by kernel_rfl
theorem zv5:(Tryz.prog.info? 5).bind (fun i=>i.zero)=some (.int .u8 0):=by kernel_rfl
abbrev KL (T:Nat):Prop:=liesAt Tryz.prog Tryz.prog.depth T (2 / Tryz.prog.cellsOf T) 0 91 1=true
theorem abB (l:List UInt8) {ao:Option Addr} {cap:Nat} {c:aA} (r:Row 5 1 ao l.length cap (l.map u8) c) (h:l=[]→ao=none):(l=[]∧ao=none∧cap=0)∨∃g,ao=some ⟨g,0,none⟩∧cap≠0∧l≠[]:=by
 rcases r.form with⟨h1,h2,h3,_⟩|⟨g,cur,h1,_,h2,_⟩
 ·exact .inl ⟨acW h2,h1,h3⟩
 ·have hne:l≠[]:=fun e=>by rw[h e]at h1;cases h1
  have:0<l.length:=List.length_pos_iff.2 hne
  exact .inr ⟨g,h1,by omega,hne⟩
theorem OU {b_T b:Nat} {b_l:List UInt8} {b_k:aA} {G:GS} {w:World} {F:List aA} (h_b_T:KL b_T) (h_b:Dy b_T b b_l b_k) (h:Holds G w (b_k::F)):
  Calls Tryz.prog 59 #[.pointer (some ⟨b,0,none⟩)] w (OZ G F fun G v c1=>v= .tuple #[]∧BuildS b_T b (b_l) c1):=by
 obtain⟨p,ao,cap,cr,hp,r,rfl⟩:=h_b
 refine enter (N:=20) (L:=[(0,.pointer (some ⟨b,0,none⟩))]) rfl Tryz.func59 rfl rfl rfl (fun a0 s0=> ?_)
 rcases hp with rfl|rfl
 ·
  have h:Holds _ _ ([(b,.cells #[.pointer none,.slice ao b_l.length cap] b_T (0,0))]::cr::F):=h.split
  refine wp_seq ?_
  refine wp_region_lit ?_
  refine de s0 rfl (fun _ k=>gN (s0.ev rfl) k) (fun a1 s2=> ?_)
  refine de s2 rfl (fun _ k=>ot (s2.ev rfl) rfl k) (fun a3 s4=> ?_)
  refine de s4 rfl (fun _ k=>eD (s4.ev rfl) yY k) (fun a5 s6=> ?_)
  refine de s6 rfl (fun _ k=>ja (s6.ev rfl) Ug ((h.rowI 0 0 (cs:=[.pointer none]) (o:=0) rfl rfl rfl) 0 _ rfl) k) (fun a7 s8=> ?_)
  refine de s8 rfl (fun _ k=>Uz (s8.ev rfl) (s8.ev rfl) (z:=.bool true) (by kernel_rfl) k) (fun a9 s10=> ?_)
  refine wpList_nil ?_
  refine gG ?_
  refine abL s10 rfl rfl ?_
  refine wp_region_lit ?_
  refine de s10 rfl (fun _ k=>gN (s10.ev rfl) k) (fun a12 s13=> ?_)
  refine de s13 rfl (fun _ k=>gN (s13.ev rfl) k) (fun a14 s15=> ?_)
  refine de s15 rfl (fun _ k=>Od (s15.ev rfl) No PJ Zz rfl (h.shapeI 0 0 rfl rfl) rfl k) (fun a16 s17=> ?_)
  refine de s17 rfl (fun _ k=>Of (s17.ev rfl) Tryz.func88 (by kernel_rfl) (by kernel_rfl) (by kernel_rfl) (by kernel_rfl) k) (fun a18 s19=> ?_)
  refine de s19 rfl (fun _ k=>Ib (s19.ev rfl) PJ No ZE (h.shapeI 0 0 rfl rfl) h_b_T k) (fun a20 s21=> ?_)
  refine de s21 rfl (fun _ k=>ot (s21.ev rfl) rfl k) (fun a22 s23=> ?_)
  refine de s23 rfl (fun _ k=>eD (s23.ev rfl) yY k) (fun a24 s25=> ?_)
  refine LS s25 rfl rfl ab7 rfl h (j:=0) rfl rfl rfl (cl:=[.pointer (some ⟨b,0,none⟩),.slice ao b_l.length cap]) (by kernel_rfl) (fun a26 w28 s27 h29=> ?_)
  have h29:Holds _ _ ([(b,.cells #[.pointer (some ⟨b,0,none⟩),.slice ao b_l.length cap] b_T (0,0))]::cr::F):=h29
  refine wpList_nil ?_
  have h30:Holds _ _ (cr::[(b,.cells #[.pointer (some ⟨b,0,none⟩),.slice ao b_l.length cap] b_T (0,0))]::F):=h29.front 1 rfl
  have h31:Holds _ _ ([(b,.cells #[.pointer (some ⟨b,0,none⟩),.slice ao b_l.length cap] b_T (0,0))]::cr::F):=h30.front 1 rfl
  exact UL s27 rfl ⟨_,_,_,rfl,(GS.Le.refl _),h31.join,rfl,⟨_,_,_,_,rfl,r,rfl⟩⟩
 ·
  have h:Holds _ _ ([(b,.cells #[.pointer (some ⟨b,0,none⟩),.slice ao b_l.length cap] b_T (0,0))]::cr::F):=h.split
  refine wp_seq ?_
  refine wp_region_lit ?_
  refine de s0 rfl (fun _ k=>gN (s0.ev rfl) k) (fun a32 s33=> ?_)
  refine de s33 rfl (fun _ k=>ot (s33.ev rfl) rfl k) (fun a34 s35=> ?_)
  refine de s35 rfl (fun _ k=>eD (s35.ev rfl) yY k) (fun a36 s37=> ?_)
  refine de s37 rfl (fun _ k=>ja (s37.ev rfl) Ug ((h.rowI 0 0 (cs:=[.pointer (some ⟨b,0,none⟩)]) (o:=0) rfl rfl rfl) 0 _ rfl) k) (fun a38 s39=> ?_)
  refine de s39 rfl (fun _ k=>Uz (s39.ev rfl) (s39.ev rfl) (z:=.bool false) (by kernel_rfl) k) (fun a40 s41=> ?_)
  refine wpList_nil ?_
  refine gG ?_
  refine Uu s41 rfl rfl ?_
  refine wp_seq ?_
  refine wp_region_lit ?_
  refine de s41 rfl (fun _ k=>gN (s41.ev rfl) k) (fun a43 s44=> ?_)
  refine de s44 rfl (fun _ k=>ot (s44.ev rfl) rfl k) (fun a45 s46=> ?_)
  refine de s46 rfl (fun _ k=>eD (s46.ev rfl) yY k) (fun a47 s48=> ?_)
  refine de s48 rfl (fun _ k=>ja (s48.ev rfl) Ug ((h.rowI 0 0 (cs:=[.pointer (some ⟨b,0,none⟩)]) (o:=0) rfl rfl rfl) 0 _ rfl) k) (fun a49 s50=> ?_)
  refine de s50 rfl (fun _ k=>gN (s50.ev rfl) k) (fun a51 s52=> ?_)
  refine de s52 rfl (fun _ k=>Oe (s52.ev rfl) (s52.ev rfl) No Zz rfl k) (fun a53 s54=> ?_)
  refine wpList_nil ?_
  refine gG ?_
  refine Uu s54 rfl rfl ?_
  refine wp_skip ?_
  have h56:Holds _ _ (cr::[(b,.cells #[.pointer (some ⟨b,0,none⟩),.slice ao b_l.length cap] b_T (0,0))]::F):=h.front 1 rfl
  have h57:Holds _ _ ([(b,.cells #[.pointer (some ⟨b,0,none⟩),.slice ao b_l.length cap] b_T (0,0))]::cr::F):=h56.front 1 rfl
  exact UL s54 rfl ⟨_,_,_,rfl,(GS.Le.refl _),h57.join,rfl,⟨_,_,_,_,rfl,r,rfl⟩⟩
theorem RB {b_T b:Nat} {b_l:List UInt8} {b_k:aA} (t:List UInt8) {G:GS} {w:World} {F:List aA} (h_b_T:KL b_T) (h_b:Dy b_T b b_l b_k) (hl:b_l.length+t.length≤140737488355328) (h:Holds G w (b_k::F)):
  Calls Tryz.prog 31 #[.pointer (some ⟨b,0,none⟩),S t] w (OZ G F fun G v c1=>v= .tuple #[.int .i64 (t.length:Int),.nilIface]∧BuildS b_T b (b_l++t) c1):=by
 refine enter (N:=19) (L:=[(0,.pointer (some ⟨b,0,none⟩)),(1,S t)]) rfl Tryz.func31 rfl rfl rfl (fun a0 s0=> ?_)
 refine wp_seq ?_
 refine wp_region_lit ?_
 refine de s0 rfl (fun _ k=>ku (s0.ev rfl) k) (fun a1 s2=> ?_)
 refine de s2 rfl (fun _ k=>ku (s2.ev rfl) k) (fun a3 s4=> ?_)
 refine wpList_nil ?_
 refine gG ?_
 refine wp_seq ?_
 refine wp_region_lit ?_
 refine de s4 rfl (fun _ k=>gN (s4.ev rfl) k) (fun a5 s6=> ?_)
 refine VA s6 rfl acd rfl (OU h_b_T h_b h) (fun a7 w9 v14 G11 c16 hs15 h10 hv13 s8=> ?_)
 obtain⟨v14e,hb17⟩:=hv13
 subst v14e
 have hG12:=(GS.Le.refl _).trans hs15
 refine wpList_nil ?_
 refine gG ?_
 refine wp_seq ?_
 refine wp_region_lit ?_
 obtain⟨p18,ao19,cap20,cr21,hp22,r23,rfl⟩:=hb17
 have h25:Holds _ _ ([(b,.cells #[p18,.slice ao19 b_l.length cap20] b_T (0,0))]::cr21::F):=h10.split
 refine de s8 rfl (fun _ k=>gN (s8.ev rfl) k) (fun a26 s27=> ?_)
 refine de s27 rfl (fun _ k=>gN (s27.ev rfl) k) (fun a28 s29=> ?_)
 refine de s29 rfl (fun _ k=>ot (s29.ev rfl) rfl k) (fun a30 s31=> ?_)
 refine de s31 rfl (fun _ k=>eD (s31.ev rfl) pS k) (fun a32 s33=> ?_)
 refine de s33 rfl (fun _ k=>ja (s33.ev rfl) KA ((h25.rowI 0 0 (cs:=[.slice ao19 b_l.length cap20]) (o:=1) rfl rfl rfl) 0 _ rfl) k) (fun a34 s35=> ?_)
 refine de s35 rfl (fun _ k=>gN (s35.ev rfl) k) (fun a36 s37=> ?_)
 have h38:Holds _ _ (cr21::[(b,.cells #[p18,.slice ao19 b_l.length cap20] b_T (0,0))]::F):=h25.front 1 rfl
 refine PX s37 rfl r23 h38 rfl rfl Nn Xm ab3 zv5 (by omega) (fun a39 w41 ao43 cap44 c45 s40 r46 h42 hn47=> ?_)
 refine de s40 rfl (fun _ k=>ot (s40.ev rfl) rfl k) (fun a48 s49=> ?_)
 refine de s49 rfl (fun _ k=>eD (s49.ev rfl) pS k) (fun a50 s51=> ?_)
 have h52:Holds _ _ ([(b,.cells #[p18,.slice ao19 b_l.length cap20] b_T (0,0))]::c45::F):=h42.front 1 rfl
 refine LS s51 rfl rfl ab6 rfl h52 (j:=0) rfl rfl rfl (cl:=[p18,.slice ao43 (b_l.length+t.length) cap44]) (by kernel_rfl) (fun a53 w55 s54 h56=> ?_)
 have h56:Holds _ _ ([(b,.cells #[p18,.slice ao43 (b_l.length+t.length) cap44] b_T (0,0))]::c45::F):=h56
 refine wpList_nil ?_
 refine gG ?_
 refine wp_seq ?_
 refine wp_region_lit ?_
 refine de s54 rfl (fun _ k=>gN (s54.ev rfl) k) (fun a57 s58=> ?_)
 refine de s58 rfl (fun _ k=>aax (s58.ev rfl) Xm k) (fun a59 s60=> ?_)
 refine de s60 rfl (fun _ k=>ku (s60.ev rfl) k) (fun a61 s62=> ?_)
 refine de s62 rfl (fun _ k=>ku (s62.ev rfl) k) (fun a63 s64=> ?_)
 refine wpList_nil ?_
 refine gG ?_
 refine wp_ret ?_
 have h65:Holds _ _ (c45::[(b,.cells #[p18,.slice ao43 (b_l.length+t.length) cap44] b_T (0,0))]::F):=h56.front 1 rfl
 have h66:Holds _ _ ([(b,.cells #[p18,.slice ao43 (b_l.length+t.length) cap44] b_T (0,0))]::c45::F):=h65.front 1 rfl
 rw[show b_l.length+t.length=(b_l++t).length from(acA ..).symm]at h66 r46
 rw[←List.map_append]at r46
 exact acr s64 rfl rfl rfl ⟨_,_,_,rfl,hG12,h66.join,rfl,⟨_,_,_,_,hp22,r46,rfl⟩⟩
theorem RC {b_T b:Nat} {b_l:List UInt8} {b_k:aA} {G:GS} {w:World} {F:List aA} (h_b_T:KL b_T) (h_b:BuildC b_T b b_l b_k) (h:Holds G w (b_k::F)):
  Calls Tryz.prog 35 #[.pointer (some ⟨b,0,none⟩)] w (Ret G F fun G v=>v=S b_l):=by
 obtain⟨p,ao,cap,cr,hp,r,hao,rfl⟩:=h_b
 refine enter (N:=14) (L:=[(0,.pointer (some ⟨b,0,none⟩))]) rfl Tryz.func35 rfl rfl rfl (fun a0 s0=> ?_)
 rcases abB b_l r hao with⟨rfl,rfl,rfl⟩|⟨g0,rfl,hc,hne⟩
 ·
  have h:Holds _ _ ([(b,.cells #[p,.slice none 0 0] b_T (0,0))]::cr::F):=h.split
  refine wp_seq ?_
  refine wp_region_lit ?_
  refine de s0 rfl (fun _ k=>ku (s0.ev rfl) k) (fun a1 s2=> ?_)
  refine wpList_nil ?_
  refine gG ?_
  refine wp_seq ?_
  have hok:Mc 14 [(0,.pointer (some ⟨b,0,none⟩))] [(some 3,Fact.eq (.pointer (some ⟨b,0,none⟩))),(some 4,Fact.eq (.pointer (some ⟨b,0,none⟩))),(some 5,Fact.eq (.pointer (some ⟨b,1,none⟩))),(some 6,Fact.eq (.slice none 0 0)),(some 7,Fact.eq (.pointer none)),(some 8,Fact.eq (.pointer (some ⟨b,0,none⟩))),(some 9,Fact.eq (.pointer (some ⟨b,0,none⟩))),(some 10,Fact.eq (.pointer (some ⟨b,1,none⟩))),(some 11,Fact.eq (.slice none 0 0)),(some 12,Fact.eq (.int .i64 0)),(some 13,Fact.eq (S [])),(some 2,Fact.eq (S []))] []=true:=rfl
  refine zR (N:=14) (L0:=[(0,.pointer (some ⟨b,0,none⟩))]) (X:=[(some 3,Fact.eq (.pointer (some ⟨b,0,none⟩))),(some 4,Fact.eq (.pointer (some ⟨b,0,none⟩))),(some 5,Fact.eq (.pointer (some ⟨b,1,none⟩))),(some 6,Fact.eq (.slice none 0 0)),(some 7,Fact.eq (.pointer none)),(some 8,Fact.eq (.pointer (some ⟨b,0,none⟩))),(some 9,Fact.eq (.pointer (some ⟨b,0,none⟩))),(some 10,Fact.eq (.pointer (some ⟨b,1,none⟩))),(some 11,Fact.eq (.slice none 0 0)),(some 12,Fact.eq (.int .i64 0)),(some 13,Fact.eq (S [])),(some 2,Fact.eq (S []))]) (O:=[]) (HR:=fun D a _ H=>H=([(b,.cells #[p,.slice none 0 0] b_T (0,0))]::cr::F)) mixed rfl h rfl (s2.sub (all_cons rfl (MT))) (fun i k t v hi=>by simp at hi) ⟨?_,?_,?_,?_,?_,?_,?_,?_,?_,?_,?_,?_,trivial⟩ (fun D a w G H hall j=> ?_)
  ·exact cN rfl (fun D a w G H hR j=>by(have s:=j.sf;exact gN (s.ev rfl) (j.did hok rfl (GS.Le.refl _) j.holds j.hr rfl)))
  ·exact cN rfl (fun D a w G H hR j=>by(have s:=(j.sf.know _ _ (j.gotE 0 rfl (hR.was rfl 0 rfl)));exact ot (s.ev rfl) rfl (j.did hok rfl (GS.Le.refl _) j.holds j.hr rfl)))
  ·exact cN rfl (fun D a w G H hR j=>by(have s:=(j.sf.know _ _ (j.gotE 1 rfl (hR.was rfl 1 rfl)));exact eD (s.ev rfl) pS (j.did hok rfl (GS.Le.refl _) j.holds j.hr rfl)))
  ·exact cN rfl (fun D a w G H hR j=>by(have hH:=j.hr;subst H;have s:=(j.sf.know _ _ (j.gotE 2 rfl (hR.was rfl 2 rfl)));exact ja (s.ev rfl) KA ((j.holds.rowI 0 0 (cs:=[.slice none 0 0]) (o:=1) rfl rfl rfl) 0 _ rfl) (j.did hok rfl (GS.Le.refl _) j.holds j.hr rfl)))
  ·exact cN rfl (fun D a w G H hR j=>by(have s:=(j.sf.know _ _ (j.gotE 3 rfl (hR.was rfl 3 rfl)));exact Ia (s.ev rfl) (j.did hok rfl (GS.Le.refl _) j.holds j.hr rfl)))
  ·exact cN rfl (fun D a w G H hR j=>by(have s:=j.sf;exact gN (s.ev rfl) (j.did hok rfl (GS.Le.refl _) j.holds j.hr rfl)))
  ·exact cN rfl (fun D a w G H hR j=>by(have s:=(j.sf.know _ _ (j.gotE 5 rfl (hR.was rfl 5 rfl)));exact ot (s.ev rfl) rfl (j.did hok rfl (GS.Le.refl _) j.holds j.hr rfl)))
  ·exact cN rfl (fun D a w G H hR j=>by(have s:=(j.sf.know _ _ (j.gotE 6 rfl (hR.was rfl 6 rfl)));exact eD (s.ev rfl) pS (j.did hok rfl (GS.Le.refl _) j.holds j.hr rfl)))
  ·exact cN rfl (fun D a w G H hR j=>by(have hH:=j.hr;subst H;have s:=(j.sf.know _ _ (j.gotE 7 rfl (hR.was rfl 7 rfl)));exact ja (s.ev rfl) KA ((j.holds.rowI 0 0 (cs:=[.slice none 0 0]) (o:=1) rfl rfl rfl) 0 _ rfl) (j.did hok rfl (GS.Le.refl _) j.holds j.hr rfl)))
  ·exact cN rfl (fun D a w G H hR j=>by(have s:=(j.sf.know _ _ (j.gotE 8 rfl (hR.was rfl 8 rfl)));exact Uy (s.ev rfl) Nn (j.did hok rfl (GS.Le.refl _) j.holds j.hr rfl)))
  ·exact cN rfl (fun D a w G H hR j=>by(have s:=((j.sf.know _ _ (j.gotE 4 rfl (hR.was rfl 4 rfl))).know _ _ (j.gotE 9 rfl (hR.was rfl 9 rfl)));exact Cz (s.ev rfl) (s.ev rfl) (j.did hok rfl (GS.Le.refl _) j.holds j.hr rfl)))
  ·exact cN rfl (fun D a w G H hR j=>by(have s:=(j.sf.know _ _ (j.gotE 10 rfl (hR.was rfl 10 rfl)));exact ku (s.ev rfl) (j.did hok rfl (GS.Le.refl _) j.holds j.hr rfl)))
  have s4:=(j.sf.know _ _ (j.gotE 11 rfl (hall 11 (by decide))))
  have hH:=j.hr
  subst H
  have hle10:=j.le
  have hG8:=(GS.Le.refl _).trans hle10
  have h9:Holds _ _ ([(b,.cells #[p,.slice none 0 0] b_T (0,0))]::cr::F):=j.holds
  clear j hall hok
  refine gG ?_
  refine wp_ret ?_
  refine abc s4 rfl rfl ⟨_,_,rfl,hG8,h9.drop.drop,?_⟩
  rfl
 ·
  have h:Holds _ _ ([(b,.cells #[p,.slice (some ⟨g0,0,none⟩) b_l.length cap] b_T (0,0))]::cr::F):=h.split
  refine wp_seq ?_
  refine wp_region_lit ?_
  refine de s0 rfl (fun _ k=>ku (s0.ev rfl) k) (fun a11 s12=> ?_)
  refine wpList_nil ?_
  refine gG ?_
  refine wp_seq ?_
  have hok:Mc 14 [(0,.pointer (some ⟨b,0,none⟩))] [(some 3,Fact.eq (.pointer (some ⟨b,0,none⟩))),(some 4,Fact.eq (.pointer (some ⟨b,0,none⟩))),(some 5,Fact.eq (.pointer (some ⟨b,1,none⟩))),(some 6,Fact.eq (.slice (some ⟨g0,0,none⟩) b_l.length cap)),(some 7,Fact.eq (.pointer (some ⟨g0,0,none⟩))),(some 8,Fact.eq (.pointer (some ⟨b,0,none⟩))),(some 9,Fact.eq (.pointer (some ⟨b,0,none⟩))),(some 10,Fact.eq (.pointer (some ⟨b,1,none⟩))),(some 11,Fact.eq (.slice (some ⟨g0,0,none⟩) b_l.length cap)),(some 12,Fact.eq (.int .i64 (b_l.length:Int))),(some 13,Fact.eq (S b_l)),(some 2,Fact.eq (S b_l))] []=true:=rfl
  refine zR (N:=14) (L0:=[(0,.pointer (some ⟨b,0,none⟩))]) (X:=[(some 3,Fact.eq (.pointer (some ⟨b,0,none⟩))),(some 4,Fact.eq (.pointer (some ⟨b,0,none⟩))),(some 5,Fact.eq (.pointer (some ⟨b,1,none⟩))),(some 6,Fact.eq (.slice (some ⟨g0,0,none⟩) b_l.length cap)),(some 7,Fact.eq (.pointer (some ⟨g0,0,none⟩))),(some 8,Fact.eq (.pointer (some ⟨b,0,none⟩))),(some 9,Fact.eq (.pointer (some ⟨b,0,none⟩))),(some 10,Fact.eq (.pointer (some ⟨b,1,none⟩))),(some 11,Fact.eq (.slice (some ⟨g0,0,none⟩) b_l.length cap)),(some 12,Fact.eq (.int .i64 (b_l.length:Int))),(some 13,Fact.eq (S b_l)),(some 2,Fact.eq (S b_l))]) (O:=[]) (HR:=fun D a _ H=>H=((bif D 10 then F else ([(b,.cells #[p,.slice (some ⟨g0,0,none⟩) b_l.length cap] b_T (0,0))]::cr::F)))) mixed rfl h rfl (s12.sub (all_cons rfl (MT))) (fun i k t v hi=>by simp at hi) ⟨?_,?_,?_,?_,?_,?_,?_,?_,?_,?_,?_,?_,trivial⟩ (fun D a w G H hall j=> ?_)
  ·exact cN rfl (fun D a w G H hR j=>by(have s:=j.sf;exact gN (s.ev rfl) (j.did hok rfl (GS.Le.refl _) j.holds j.hr rfl)))
  ·exact cN rfl (fun D a w G H hR j=>by(have s:=(j.sf.know _ _ (j.gotE 0 rfl (hR.was rfl 0 rfl)));exact ot (s.ev rfl) rfl (j.did hok rfl (GS.Le.refl _) j.holds j.hr rfl)))
  ·exact cN rfl (fun D a w G H hR j=>by(have s:=(j.sf.know _ _ (j.gotE 1 rfl (hR.was rfl 1 rfl)));exact eD (s.ev rfl) pS (j.did hok rfl (GS.Le.refl _) j.holds j.hr rfl)))
  ·exact cN rfl (fun D a w G H hR j=>by(have he10:D 10=false:=(hR.not (k:=10) (j:=4) rfl rfl (hR.not (k:=4) (j:=3) rfl rfl hR.todo));have hH:=j.hr;simp only[he10,cond_true,cond_false]at hH;subst H;have s:=(j.sf.know _ _ (j.gotE 2 rfl (hR.was rfl 2 rfl)));exact ja (s.ev rfl) KA ((j.holds.rowI 0 0 (cs:=[.slice (some ⟨g0,0,none⟩) b_l.length cap]) (o:=1) rfl rfl rfl) 0 _ rfl) (j.did hok rfl (GS.Le.refl _) j.holds j.hr rfl)))
  ·exact cN rfl (fun D a w G H hR j=>by(have s:=(j.sf.know _ _ (j.gotE 3 rfl (hR.was rfl 3 rfl)));exact KU (s.ev rfl) (by omega) (j.did hok rfl (GS.Le.refl _) j.holds j.hr rfl)))
  ·exact cN rfl (fun D a w G H hR j=>by(have s:=j.sf;exact gN (s.ev rfl) (j.did hok rfl (GS.Le.refl _) j.holds j.hr rfl)))
  ·exact cN rfl (fun D a w G H hR j=>by(have s:=(j.sf.know _ _ (j.gotE 5 rfl (hR.was rfl 5 rfl)));exact ot (s.ev rfl) rfl (j.did hok rfl (GS.Le.refl _) j.holds j.hr rfl)))
  ·exact cN rfl (fun D a w G H hR j=>by(have s:=(j.sf.know _ _ (j.gotE 6 rfl (hR.was rfl 6 rfl)));exact eD (s.ev rfl) pS (j.did hok rfl (GS.Le.refl _) j.holds j.hr rfl)))
  ·exact cN rfl (fun D a w G H hR j=>by(have he10:D 10=false:=(hR.not (k:=10) (j:=9) rfl rfl (hR.not (k:=9) (j:=8) rfl rfl hR.todo));have hH:=j.hr;simp only[he10,cond_true,cond_false]at hH;subst H;have s:=(j.sf.know _ _ (j.gotE 7 rfl (hR.was rfl 7 rfl)));exact ja (s.ev rfl) KA ((j.holds.rowI 0 0 (cs:=[.slice (some ⟨g0,0,none⟩) b_l.length cap]) (o:=1) rfl rfl rfl) 0 _ rfl) (j.did hok rfl (GS.Le.refl _) j.holds j.hr rfl)))
  ·exact cN rfl (fun D a w G H hR j=>by(have s:=(j.sf.know _ _ (j.gotE 8 rfl (hR.was rfl 8 rfl)));exact Uy (s.ev rfl) Nn (j.did hok rfl (GS.Le.refl _) j.holds j.hr rfl)))
  ·exact cN rfl (fun D a w G H hR j=>by(have hH:=j.hr;simp only[cond_true,cond_false,hR.todo]at hH;subst H;have s:=((j.sf.know _ _ (j.gotE 4 rfl (hR.was rfl 4 rfl))).know _ _ (j.gotE 9 rfl (hR.was rfl 9 rfl)));exact Ek (j.holds.front 1 rfl).dropsnd r (s.ev rfl) (s.ev rfl) rfl Xn (by kernel_rfl) hne (fun w' hh=>j.did hok rfl (GS.Le.refl _) (show Holds _ _ F from hh) (by simp only[wM,cond_true,cond_false,RY,Ng,SB,wE (show 13<a.tmps.size by rw[j.sf.size];decide)]) rfl)))
  ·exact cN rfl (fun D a w G H hR j=>by(have s:=(j.sf.know _ _ (j.gotE 10 rfl (hR.was rfl 10 rfl)));exact ku (s.ev rfl) (j.did hok rfl (GS.Le.refl _) j.holds j.hr rfl)))
  have s14:=(j.sf.know _ _ (j.gotE 11 rfl (hall 11 (by decide))))
  have hH:=j.hr
  simp only[hall 10 (by decide),cond_true]at hH
  subst H
  have hle20:=j.le
  have hG18:=(GS.Le.refl _).trans hle20
  have h19:Holds _ _ (F):=j.holds
  clear j hall hok
  refine gG ?_
  refine wp_ret ?_
  refine abc s14 rfl rfl ⟨_,_,rfl,hG18,h19,?_⟩
  rfl
theorem Rt:∀Ty∈[91],KL Ty:=by
 intro Ty h
 simp only[List.mem_cons,List.not_mem_nil,or_false]at h
 rcases h with rfl<;>(unfold KL;kernel_rfl)
theorem IA:bR Tryz.prog 31 1 (yR [91]):=Oj Rt fun Ty b l c t G w F hT hb hl hh=>RB t hT hb hl hh
theorem Qu:bR Tryz.prog 35 0 (GP [91]):=Td Rt fun Ty b l c G w F hT hb hh=>RC hT hb hh
theorem Ns:Tryz.prog.globalNamed "internal/strconv.uint64pow10" =some 1:=by kernel_rfl
theorem IV (z:Int) (G:GS) (w:World) (F:List aA) (hz:bp 0 z) (t:Tied G.M) (h:Holds G w F):Calls Tryz.prog 60 #[.int .i64 z] w (Ret G F fun _ v=>v=S (Lib.itoa z)):=
 (Tryz.strconv_Itoa z hz.1 hz.2 w ((Tied.gvar Ns t).var h)).mono fun _ _ ⟨he,k,os,hw⟩=>⟨_,G,he,GS.Le.refl G,h.ext (hw▸tB w k os),rfl⟩
theorem Mm:bR Tryz.prog 60 0 (DO 0 Lib.itoa):=Mj fun z G w F hz t h=>IV z G w F hz t h
theorem IF:bR Tryz.prog 60 0 (DM 0 100000000000000000000 LG):=Mh (by decide) (ts:=[]) PO fun n G w F _ hz t h=>by
 rw[←Tv]
 exact IV n G w F hz t h
theorem IB:bR Tryz.prog 107 0 (DM 0 100 LG):=Mh (by decide) (ts:=[]) PO fun n G w F hn hz t h=>(Tryz.internal_strconv_small n hn w).mono fun _ _ ⟨he,hw⟩=>⟨_,G,he,GS.Le.refl G,hw▸h,rfl⟩
theorem Qv:bR Tryz.prog 92 0 (DN 0 10 Lib.itoa):=Mi fun z G w F hz t h=>
 (Tryz.strconv_FormatInt_10 z hz.1 hz.2 w ((Tied.gvar Ns t).var h)).mono fun _ _ ⟨he,k,os,hw⟩=>⟨_,G,he,GS.Le.refl G,h.ext (hw▸tB w k os),rfl⟩
theorem Mk:bR Tryz.prog 65 0 Ck:=Qr (fun bk o c ws sep w hc hb h1 h2 h3=>by
  have e1:(ws.map fun x=>(⟨x.toArray⟩:ByteArray)).map (fun b=>b.data.toList)=ws:=by simp[Function.comp_def]
  have hj:=Tryz.strings_Join bk o c (ws.map fun x=>(⟨x.toArray⟩:ByteArray)) ⟨sep.toArray⟩ w (fun j x hx=>by
   rw[List.getElem?_map,acL]at hx
   obtain⟨y,hy,rfl⟩:=hx
   exact hc j y hy) hb (by simpa using h1) (by simpa using h2) (by rw[e1];exact h3)
  rw[e1,acC]at hj
  exact hj.mono fun _ _ ⟨he,hw⟩=>⟨he,hw⟩) (fun a c sep w=>(Tryz.strings_Join_none a c ⟨sep.toArray⟩ w).mono fun _ _ ⟨he,hw⟩=>⟨he,hw▸Below.refl w.heap.size w⟩)
end Go.Proofs.YtacomabmhnodlaaGreatDoor
namespace Go.Proofs.YtacomabmhnodlaaGreatDoor
open Go Go.RowKit Go.Lib Go.Shelf Go.Proofs Go.Sort
set_option maxRecDepth 100000
theorem acq (u:Nat) (h0:100≤u) (hu64:u<18446744073709551616) (w:World) (htab:Lib.TabIs Tryz.prog w "internal/strconv.uint64pow10" .u64 Lib.pow10Tab):
  Calls Tryz.prog 90 #[.int .u64 u,.int .i64 10] w fun e w'=>e= .returned (.string ⟨(Lib.decDigits u).toArray⟩)∧∃k os,w'=grow (w.drewN k) os:=by
 have mixed:Tryz.prog.follows .mixedOrders=true:=by kernel_rfl
 have hu1:1≤u:=by omega
 have hnd20:Lib.nDigits u≤20:=by have:=Lib.numDigits_eq u hu1 hu64;split at this<;>omega
 have hb3:Lib.nDigits u≤24:=by omega
 have hal:Tryz.prog.arrayLen 164=24:=by simp[Program.arrayLen,Tryz.underlying164]
 have hsl1:∀W,(Instr.sliceAt 164 (.pointer (some ⟨w.heap.size,0,none⟩)) none (some (.int .i64 (Lib.nDigits u:Int))) none).run Tryz.prog W= .ok (.slice (some ⟨w.heap.size,0,none⟩) (Lib.nDigits u) 24) W:=fun W=>by
  rw[run_sliceAt_array_h W 164 ⟨w.heap.size,0,none⟩ (by simp[Program.arrayLen,Program.elem,Tryz.underlying164]) .i64 (Lib.nDigits u:Int) (by omega) (by rw[hal];omega)]
  go_simp
 have hH0:=Lib.holds_zero0 w 164 (Lib.nDigits u) (by omega)
 have hfmt:=Tryz.internal_strconv_formatBase10 w.heap.size 0 24 u (Array.replicate (Lib.nDigits u) 0) (w.alloc (.cells Lib.zeros24 164)) hH0 (by rw[Array.size_replicate];exact Lib.lt_pow_nDigits u) hu64 (by rw[Array.size_replicate];omega)
 rw[Array.size_replicate]at hfmt
 have HH0:=Lib.hid hH0
 clear hH0 hal
 go_enter Tryz.func90,Tryz.ntmps90
 go_wp2_with (fail)
 refine(Tryz.internal_strconv_numDigits u hu1 hu64 _ (Lib.tabIs_alloc htab _)).mono ?_
 rintro e w' ⟨rfl,rfl⟩
 go_wp2_with (fail)
 refine hfmt.mono ?_
 rintro e w' ⟨rfl,k,v',dk,rfl,hF⟩
 have hcv:(convert 89 9 (.slice (some ⟨w.heap.size,0,none⟩) (Lib.nDigits u) 24)).run Tryz.prog ((putRow (fun(b:UInt8)=>Value.int .u8 (b.toNat:Int)) (w.alloc (.cells Lib.zeros24 164)) w.heap.size 0 dk).drewN k)= .ok (.string ⟨(Lib.decDigits u).toArray⟩) ((putRow (fun(b:UInt8)=>Value.int .u8 (b.toNat:Int)) (w.alloc (.cells Lib.zeros24 164)) w.heap.size 0 dk).drewN k):=by
  have h:=run_convert_bytes_back (P:=Tryz.prog) ((putRow (fun(b:UInt8)=>Value.int .u8 (b.toNat:Int)) (w.alloc (.cells Lib.zeros24 164)) w.heap.size 0 dk).drewN k) 89 9 5 ⟨w.heap.size,0,none⟩ 24 (Lib.decDigits u) Tryz.underlying89 Tryz.underlying5 Tryz.underlying9 (fun j hj=>by
   rw[Lib.row_is_numeral hF j hj,Lib.add_plain,World.cell?_drewN]
   exact cell?_putRow (fun(b:UInt8)=>Value.int .u8 (b.toNat:Int)) _ w.heap.size 0 _ dk HH0.out (by rw[hF.size,Array.size_replicate]) j (by rw[hF.size];rw[Lib.decDigits_length]at hj;exact hj))
  rw[Lib.decDigits_length]at h
  exact h
 go_wp2
 go_ret
 obtain⟨os,eo⟩:=Lib.fin_at w (.cells Lib.zeros24 164) dk k 0
 exact⟨rfl,k,os,eo⟩
theorem OG (i:Nat) (hi:i<100) (w:World):
  Calls Tryz.prog 90 #[.int .u64 i,.int .i64 10] w fun e w'=>e= .returned (.string ⟨(Lib.decDigits i).toArray⟩)∧∃k os,w'=grow (w.drewN k) os:=by
 have mixed:Tryz.prog.follows .mixedOrders=true:=by kernel_rfl
 have hw:IntKind.i64.wrap (i:Int)=(i:Int):=by rw[IntKind.wrap_i64];omega
 go_enter Tryz.func90,Tryz.ntmps90
 go_wp2_with (fail)
 refine(Tryz.internal_strconv_small i hi _).mono ?_
 rintro e w' ⟨rfl,rfl⟩
 go_wp2_with (fail)
 go_ret
 exact⟨rfl,0,#[],by simp[World.drewN_zero]⟩
theorem TD (z:Int) (h0:0≤z) (h1:z≤18446744073709551615) (w:World) (htab:Lib.TabIs Tryz.prog w "internal/strconv.uint64pow10" .u64 Lib.pow10Tab):
  Calls Tryz.prog 90 #[.int .u64 z,.int .i64 10] w fun e w'=>e= .returned (.string ⟨(Lib.itoa z).toArray⟩)∧∃k os,w'=grow (w.drewN k) os:=by
 obtain⟨u,rfl⟩:∃u:Nat,z=u:=⟨z.toNat,by omega⟩
 rw[Lib.itoa_nonneg]
 rcases Nat.lt_or_ge u 100 with h|h
 ·exact OG u h w
 ·exact acq u h (by omega) w htab
end Go.Proofs.YtacomabmhnodlaaGreatDoor
namespace Go.Lib
open Go
def okc (b:Nat):Bool:=(Nat.ble 97 b&&Nat.ble b 122)||(Nat.ble 48 b&&Nat.ble b 57)
def oddB (r:Nat):Bool:= !okc r
theorem Dg (s:ByteArray) (i:Nat) (h:(s.get! i).toNat<128):Utf8.decode s i=((s.get! i).toNat,1):=by
 unfold Utf8.decode
 simp only[Nat.add_zero]
 rw[if_pos h]
theorem Lv (s:ByteArray) (i:Nat) (h:¬(s.get! i).toNat<128):128≤(Utf8.decode s i).1:=by
 unfold Utf8.decode
 simp only[Nat.add_zero]
 rw[if_neg h]
 split
 ·split
  ·assumption
  ·decide
 ·split
  ·split
   ·rename_i q
    simp only[ge_iff_le,acT,decide_eq_true_eq]at q
    omega
   ·decide
  ·split
   ·split
    ·rename_i q
     simp only[ge_iff_le,acT,decide_eq_true_eq]at q
     omega
    ·decide
   ·decide
theorem Mb {b:Nat} (h:okc b=true):b<128:=by
 simp only[okc,Bool.or_eq_true,acT,Nat.ble_eq]at h
 omega
theorem Ja (s:ByteArray):∀(f pos:Nat),s.size - pos≤f→(idxFuncFrom oddB true s f pos<0↔∀j,pos≤j→j<s.size→okc (s.get! j).toNat=true)
 |0,pos,h=>by
  simp only[idxFuncFrom]
  constructor
  ·intro _ j h1 h2;omega
  ·intro _;decide
 |f+1,pos,h=>by
  unfold idxFuncFrom
  split
  ·rename_i hp
   by_cases hb:okc (s.get! pos).toNat=true
   ·have hd:=Dg s pos (Mb hb)
    rw[hd]
    simp only[oddB,hb]
    rw[if_neg (by decide),Ja s f (pos+1) (by omega)]
    constructor
    ·intro q j h1 h2
     rcases Nat.eq_or_lt_of_le h1 with rfl|h1
     ·exact hb
     ·exact q j h1 h2
    ·intro q j h1 h2;exact q j (by omega) h2
   ·have ho:oddB (Utf8.decode s pos).1=true:=by
     by_cases hl:(s.get! pos).toNat<128
     ·rw[Dg s pos hl]
      simp only[oddB]
      simpa using hb
     ·have:=Lv s pos hl
      simp only[oddB]
      cases hc:okc (Utf8.decode s pos).1 with
      |false=>rfl
      |true=>have:=Mb hc;omega
    rw[if_pos ho]
    constructor
    ·intro q;omega
    ·intro q;exact absurd (q pos (acR _) hp) hb
  ·rename_i hp
   constructor
   ·intro _ j h1 h2;omega
   ·intro _;decide
theorem idx_neg (l:List UInt8):idxFunc oddB true ⟨l.toArray⟩<0↔∀b∈l,okc b.toNat=true:=by
 unfold idxFunc
 rw[Ja _ _ _ (by omega)]
 have hs:ByteArray.size ⟨l.toArray⟩=l.length:=by simp[ByteArray.size]
 rw[hs]
 constructor
 ·intro h b hb
  obtain⟨j,hj⟩:=List.mem_iff_getElem?.1 hb
  obtain⟨h1,h2⟩:=List.getElem?_eq_some_iff.1 hj
  have:=h j (Nat.zero_le _) h1
  simpa[ByteArray.get!,h1,h2] using this
 ·intro h j _ hj
  have:(ByteArray.get! ⟨l.toArray⟩ j)=l[j]:=by simp[ByteArray.get!,hj]
  rw[this]
  exact h _ (List.getElem_mem hj)
end Go.Lib
namespace Go.Proofs.YtacomabmhnodlaaGreatDoor
open Go Go.RowKit Go.Eng Go.Sy
set_option linter.unusedVariables false
set_option maxRecDepth 100000
theorem IJ:Tryz.prog.follows .mixedOrders=true:=by kernel_rfl
theorem odd_iff (x:Nat):Lib.oddB x=true↔¬((97≤x∧x≤122)∨(48≤x∧x≤57)):=by
 unfold Lib.oddB Lib.okc
 cases h1:Nat.ble 97 x<;>cases h2:Nat.ble x 122<;>cases h3:Nat.ble 48 x<;>cases h4:Nat.ble x 57<;>simp only[←Bool.not_eq_true,Nat.ble_eq]at h1 h2 h3 h4<;>simp<;>omega
theorem Ql (W:World) (x:Nat):FnGives Tryz.prog 113 #[] #[.int .i32 (x:Int)] (.bool (Lib.oddB x)) W:=by
 have mixed:=IJ
 unfold FnGives
 go_enter Tryz.func113,Tryz.ntmps113
 go_wp2
 all_goals
  go_ret
  refine⟨?_,0,by simp[World.drewN_zero]⟩
  refine congrArg (fun b=>Ending.returned (Value.bool b)) ?_
  rw[Bool.eq_iff_iff,odd_iff]
  simp only[acT,Bool.or_eq_true,decide_eq_true_eq,Bool.false_eq_true,eq_self,true_iff,false_iff]
  omega
theorem Rm:∀args w,(callFunc 113 args).run Tryz.prog w= .ok (.enter 113 args) w:=enters_of Tryz.func113 (by kernel_rfl) rfl
noncomputable def pt (g:Nat):cq:=fun us _ _ K=>match us with
 |[v,.fn f []]=>ac (Nat.beq f g) (sA v fun s=>K (.sy (.int 0 (Lib.idxFunc Lib.oddB true ⟨s.toArray⟩))) .leaf 0)
 |_=>false
theorem qX:bR Tryz.prog 114 0 (pt 113):=by
 intro us xs E ρ G F M nx w K R hE hs hd hk hr
 unfold pt at hk
 split at hk
 case h_2=>cases hk
 rename_i v f
 obtain⟨q1,hk1⟩:=ai hk
 have q1:=acE q1
 subst q1
 obtain⟨s,e1,hk2⟩:=uL (E:=E) (ρ:=ρ) hk1
 obtain⟨x,ys,d1,d2,rfl⟩:=bh hd
 obtain⟨x2,ys2,d3,d4,rfl⟩:=bh d2
 obtain rfl:ys2=[]:=by simpa[aJ] using d4.symm
 obtain rfl:x=S s:=acY (d1.symm.trans e1)
 obtain rfl:x2= .func (.func 113) #[] #[]:=by simpa[den,aJ] using d3.symm
 obtain⟨c,hh,_,_⟩:=hs.ex
 refine(Tryz.strings_IndexFunc 113 #[] Rm Lib.oddB ⟨s.toArray⟩ w (fun W x _=>Ql W x)).mono fun e w' ⟨he,hb⟩=> ?_
 subst he
 exact hr _ _ _ ⟨E.at_,E.M⟩ (fun _=>none) w' _ hk2 hE (MLe.refl _) (fun i e h=>absurd h (Nat.not_lt_zero i)) (hs.bare (GS.Le.refl _) (hh.drop.ext hb)) rfl
theorem nE:bR Tryz.prog 90 0 (DN 4 10 Lib.itoa):=Mi fun z G w F hz t h=>
 (TD z hz.1 hz.2 w ((Tied.gvar Ns t).var h)).mono fun _ _ ⟨he,k,os,hw⟩=>⟨_,G,he,GS.Le.refl G,h.ext (hw▸tB w k os),rfl⟩
end Go.Proofs.YtacomabmhnodlaaGreatDoor
namespace Go.Txt
open Go
theorem wds_len (b:UInt8):∀(n:Nat) (s:List UInt8),s.length≤n→(wds b s).length=Lib.count s [b]+1
 |0,s,h=>by
  obtain rfl:s=[]:=acW (by omega)
  rfl
 |n+1,s,h=>by
  rcases Lib.index_spec s [b] with⟨h1,h2⟩|⟨i,h1,h2,h3,h4⟩
  ·have hb:b∉s:=fun hm=>by
    obtain⟨k,hk⟩:=List.mem_iff_getElem?.1 hm
    rw[Lib.index_one]at h1
    exact Lib.indexByte_none h1 k hk
   rw[uA hb,Lib.count_miss h1]
   rfl
  ·rw[Lib.index_one]at h1
   obtain⟨h5,h6⟩:=Lib.indexByte_some h1
   have hi:=(List.getElem?_eq_some_iff.1 h5).1
   have hs:s=s.take i++b::s.drop (i+1):=by
    have e:s.drop i=b::s.drop (i+1):=by rw[List.drop_eq_getElem_cons hi,(List.getElem?_eq_some_iff.1 h5).2]
    rw[←e,List.take_append_drop]
   have hb:b∉s.take i:=fun hm=>by
    obtain⟨k,hk⟩:=List.mem_iff_getElem?.1 hm
    have hlt:k<i:=by
     have:=(List.getElem?_eq_some_iff.1 hk).1
     simp at this;omega
    rw[acS hlt]at hk
    exact h6 k hlt hk
   have h1':Lib.index s [b]=(i:Int):=by rw[Lib.index_one];exact h1
   have hc:=Lib.count_hit (s:=s) (sub:=[b]) (i:=i) (by simp) h1'
   have e2:wds b s=s.take i::wds b (s.drop (i+1)):=by
    conv=>lhs;rw[hs]
    exact yL hb
   rw[e2,hc,List.length_cons,wds_len b n (s.drop (i+1)) (by simp;omega),List.length_singleton]
   omega
end Go.Txt
namespace Go.Proofs.YtacomabmhnodlaaGreatDoor
open Go Go.RowKit Go.Sy
open Go.Eng hiding am
set_option linter.unusedVariables false
noncomputable def lT:cq:=fun us _ _ K=>match us with
 |[v,.str [b]]=>ac (Nat.blt b 256) (sA v fun s=>ac (aC (s.length≤1000000)) (am fun h:Value=>K (.sy (.imm h 1 (List UInt8) (Txt.wds (acX b) s) aP)) .leaf 0))
 |_=>false
theorem abW {M:lh} {b T:Nat} {fz:Nat×Nat} {l:List (List UInt8)} (hM:M b=some (.cells (l.map fun s=>Value.string ⟨s.toArray⟩).toArray T fz)) (hl:l.length≤maxLen):
  OkP M (.imm (.slice (some ⟨b,0,none⟩) l.length l.length) 1 (List UInt8) l aP):=by
 refine .imm (some ⟨b,0,none⟩) l.length rfl (acR _) hl Nat.one_pos (fun _=>rfl) (fun x _=>rfl) ?_ ?_
 ·intro x _ p hp
  obtain rfl:p= .sstr x:=by simpa[aP] using hp
  exact .sstr x
 ·intro i x hx j v hv
  cases j with
  |zero=>
   obtain rfl:v=S x:=by simpa[aP,bD] using hv.symm
   show gR M b (0+i*1+0)=_
   unfold gR
   rw[hM]
   simp[hx,S]
  |succ j=>simp[aP]at hv
theorem nD:bR Tryz.prog 47 0 lT:=by
 intro us xs E ρ G F M nx w K R hE hs hd hk hr
 unfold lT at hk
 split at hk
 case h_2=>cases hk
 rename_i v b
 obtain⟨hb,hk1⟩:=ai hk
 rw[acZ]at hb
 obtain⟨s,e1,hk2⟩:=uL (E:=E) (ρ:=ρ) hk1
 obtain⟨hl,hk3⟩:=aa hk2
 obtain⟨x,ys,d1,d2,rfl⟩:=bh hd
 obtain⟨x2,ys2,d3,d4,rfl⟩:=bh d2
 obtain rfl:ys2=[]:=by simpa[aJ] using d4.symm
 obtain rfl:x=S s:=acY (d1.symm.trans e1)
 obtain rfl:x2=S [acX b]:=by simpa[den] using d3.symm
 obtain⟨c,hh,_,_⟩:=hs.ex
 obtain⟨_,_,_,m,T3,f3,hm⟩:=hE.2
 have hcell:w.cell? ⟨0,0,none⟩=some (.int .i64 m):=hh.cellM (b:=0) (o:=0) (by unfold gR;simp only[hm];rfl)
 have hsz:ByteArray.size ⟨s.toArray⟩=s.length:=by simp[ByteArray.size]
 have hsep:(⟨[acX b].toArray⟩:ByteArray).data.toList=[acX b]:=rfl
 have hcnt:Lib.countB ⟨s.toArray⟩ ⟨[acX b].toArray⟩=Lib.count s [acX b]:=rfl
 have hdata:(Lib.splitB ⟨[acX b].toArray⟩ 0 (Lib.countB ⟨s.toArray⟩ ⟨[acX b].toArray⟩) ⟨s.toArray⟩).map (·.data.toList)=Txt.wds (acX b) s:=by
  rw[Lib.splitB_data,hcnt]
  exact Txt.split_eq (acX b) s.length s (acR _)
 have hwl:=Txt.wds_len (acX b) s.length s (acR _)
 have hcells:((Lib.splitB ⟨[acX b].toArray⟩ 0 (Lib.countB ⟨s.toArray⟩ ⟨[acX b].toArray⟩) ⟨s.toArray⟩).map Value.string).toArray=((Txt.wds (acX b) s).map fun s=>Value.string ⟨s.toArray⟩).toArray:=by
  rw[←hdata,List.map_map]
  rfl
 refine(Tryz.strings_Split ⟨s.toArray⟩ ⟨[acX b].toArray⟩ m w (by rw[hsz];omega) hcell (acR 1)).mono fun e w' ⟨he,hw⟩=> ?_
 subst he;subst hw
 rw[hcells]
 have ha:=(hh.drop).alloc (.cells ((Txt.wds (acX b) s).map fun s=>Value.string ⟨s.toArray⟩).toArray 9 (0,0))
 obtain⟨t1,t2,t3⟩:=ha.toG
 have hM:=t3 _ List.mem_cons_self
 have hcl:Lib.count s [acX b]≤s.length+1:=Lib.count_le s [acX b]
 have hok:=abW hM (by rw[hwl];unfold maxLen;omega)
 rw[hcnt,←hwl]
 have b2:=hs.bare t1 t2
 refine hr _ _ _ _ _ _ _ (aG hk3 _) ?_ ?_ (fun i e h=>absurd h (Nat.not_lt_zero i)) b2 (jJ hok)
 ·exact⟨hE.1,Tied.mono t1.mem hE.2⟩
 ·exact t1.mem
noncomputable def wL:cq:=fun us _ _ K=>match us with
 |[v,.int 0 (.ofNat 10),.int 0 (.ofNat 64)]=>sA v fun s=>ac (aC (s.length≤1000000))
  (ac (am fun u:Nat=>aY (aC (Lib.parseMag s= .ok u∧u≤18446744073709551615)) (K (.tup [.sy (.int 4 (u:Int)),.nilI]) .leaf 0) true)
   (aY (aC (∀u,¬Lib.parseMag s= .ok u)) (am fun z:Int=>aY (aC (0≤z∧z≤18446744073709551615)) (am fun N:Nat=>K (.tup [.sy (.int 4 z),.iface 185 (.sy (.pim N 0 []))]) .leaf 0) true) true))
 |_=>false
theorem zf:bR Tryz.prog 103 0 wL:=by
 intro us xs E ρ G F M nx w K R hE hs hd hk hr
 unfold wL at hk
 split at hk
 case h_2=>cases hk
 rename_i v
 obtain⟨s,e1,hk2⟩:=uL (E:=E) (ρ:=ρ) hk
 obtain⟨hl,hk3⟩:=aa hk2
 obtain⟨hk4,hk5⟩:=ai hk3
 obtain⟨x,ys,d1,d2,rfl⟩:=bh hd
 obtain⟨x2,ys2,d3,d4,rfl⟩:=bh d2
 obtain⟨x3,ys3,d5,d6,rfl⟩:=bh d4
 obtain rfl:ys3=[]:=by simpa[aJ] using d6.symm
 obtain rfl:x=S s:=acY (d1.symm.trans e1)
 obtain rfl:x2= .int .i64 10:=by simpa[den,aH] using d3.symm
 obtain rfl:x3= .int .i64 64:=by simpa[den,aH] using d5.symm
 obtain⟨c,hh,_,_⟩:=hs.ex
 obtain⟨_,⟨ts,ps,Ts,fs,hS⟩,⟨tr,pr,Tr,fr,hR⟩,_⟩:=hE.2
 have hcS:w.cell? ⟨4,0,none⟩=some (.iface ts ps):=hh.cellM (b:=4) (o:=0) (by unfold gR;simp only[hS];rfl)
 have hcR:w.cell? ⟨5,0,none⟩=some (.iface tr pr):=hh.cellM (b:=5) (o:=0) (by unfold gR;simp only[hR];rfl)
 have hsz:ByteArray.size ⟨s.toArray⟩=s.length:=by simp[ByteArray.size]
 have hpe:Lib.parseUintB 64 (⟨s.toArray⟩:ByteArray).data.toList=Lib.parseMag s:=Lib.parseUintB_64 s
 have fin:∀w',Below w.heap.size w w'→Sim ⟨E.at_,E.M⟩ (fun _=>none) G F .leaf 0 w':=fun w' hb=>hs.bare (G':={G with M:=E.M}) (GS.Le.refl _) (hh.drop.ext hb)
 rcases hp:Lib.parseMag s with u|_|_
 ·refine(Tryz.strconv_ParseUint_10_at64_ok ⟨s.toArray⟩ (by rw[hsz];omega) u (hpe.trans hp) w).mono fun e w' ⟨he,hw⟩=> ?_
  subst he
  have hb:Below w.heap.size w w':=by
   rcases hw with rfl|rfl
   ·exact Below.refl _ _
   ·exact Lib.bytesWorld_below _ _ _
  have hu:=Lib.parseMag_lt hp
  exact hr _ _ _ ⟨E.at_,E.M⟩ (fun _=>none) w' _ (au ⟨hp,by omega⟩ (aG hk4 u)) hE (MLe.refl _) (fun i e h=>absurd h (Nat.not_lt_zero i)) (fin w' hb) (by simp[den,aJ,bb,aH])
 ·refine(Tryz.strconv_ParseUint_10_at64_syntax ⟨s.toArray⟩ (by rw[hsz];omega) (hpe.trans hp) _ w hcS (.inr ⟨_,_,rfl⟩)).mono fun e w' ⟨N,he,_,_,hb⟩=> ?_
  subst he
  have k6:=aG (au (show∀u,¬Lib.parseMag s= .ok u from fun u q=>by rw[hp]at q;cases q) hk5) 0
  exact hr _ _ _ ⟨E.at_,E.M⟩ (fun _=>none) w' _ (aG (au (by omega) k6) N) hE (MLe.refl _) (fun i e h=>absurd h (Nat.not_lt_zero i)) (fin w' hb) (by simp[den,aJ,bb,aH,MRow])
 ·refine(Tryz.strconv_ParseUint_10_at64_range ⟨s.toArray⟩ (by rw[hsz];omega) (hpe.trans hp) _ w hcR (.inr ⟨_,_,rfl⟩)).mono fun e w' ⟨N,he,_,_,hb⟩=> ?_
  subst he
  have k6:=aG (au (show∀u,¬Lib.parseMag s= .ok u from fun u q=>by rw[hp]at q;cases q) hk5) 18446744073709551615
  exact hr _ _ _ ⟨E.at_,E.M⟩ (fun _=>none) w' _ (aG (au (by omega) k6) N) hE (MLe.refl _) (fun i e h=>absurd h (Nat.not_lt_zero i)) (fin w' hb) (by simp[den,aJ,bb,aH,MRow])
end Go.Proofs.YtacomabmhnodlaaGreatDoor
namespace Go.Proofs.Tryz
open Go Go.RowKit Go.Eng Go.Sy
set_option maxRecDepth 100000
def p_ (i d:Nat) (x:XO):XSt:=.p i (some d) none x
def aj (i d t:Nat) (b:Bool) (x:XO):XSt:=.p i (some d) (some (t,b)) x
def r_ (i d:Nat) (x:XO):XSt:=.r i (some d) none x
def aT (i d t:Nat) (b:Bool) (x:XO):XSt:=.r i (some d) (some (t,b)) x
def e_ (i d:Nat) (x:XO):XSt:=.e i (some d) none x
def bl (i:Nat) (x:XO):XSt:=.e i none none x
def c_ (i d f:Nat) (xs:List XP):XSt:=.c i (some d) none f xs
def fX (i d t:Nat) (b:Bool) (f:Nat) (xs:List XP):XSt:=.c i (some d) (some (t,b)) f xs
def a_ (i d:Nat) (x:XO):XSt:=.a i d none x
def ag_ (i d t:Nat) (b:Bool) (x:XO):XSt:=.a i d (some (t,b)) x
def m_ (n:Nat):XO:=.mv (.t n)
def n_ (n:Nat):XO:=.nck (.t n)
def f_ (k n:Nat):XO:=.fa k (.t n)
def l_ (n:Nat):XO:=.ld false 1 (.t n)
def k_ (n:Nat):XO:=.len 1 (.t n)
def i_ (n:Nat):XP:=.c (.int 0 (.ofNat n))
def o_ (n:Nat):AV:=.int 0 (.ofNat n)
def g_ (n:Nat) (l:List XSt):XC:=.reg false n (.leaf l)
def h_ (n:Nat) (l:List XSt):XC:=.reg true n (.leaf l)
def bi (f:Nat) (x:XF):Prop:=bE Tryz.prog f x=true∧plain (fD x)=true
def Zx:XF:=.mk 28 (.cell 2 true 9) (.seq (g_ 2 [e_ 0 1 (.box 37 (.t 0)),e_ 1 2 (.al 29 [.nilS,(o_ 0),(o_ 0),(o_ 0),(o_ 0),(o_ 0),(o_ 0),(.int 4 (.ofNat 0)),.nilS])]) (.seq (g_ 6 [p_ 0 5 (f_ 0 1),r_ 1 6 (.ld true 8 (.t 5)),c_ 2 7 29 [.t 6],p_ 3 8 (.bld [.nilS,(o_ 0),(o_ 0),(o_ 0),(o_ 0),(o_ 0),(o_ 0),(.int 4 (.ofNat 0)),.nilS] [(0,8)] [.t 7]),e_ 4 3 (.al 29 [.nilS,(o_ 0),(o_ 0),(o_ 0),(o_ 0),(o_ 0),(o_ 0),(.int 4 (.ofNat 0)),.nilS]),bl 5 (.st 9 (.t 3) (.t 8))]) (.seq (.seq (g_ 1 [p_ 0 4 (.mv (i_ 0))]) (.block 2 (.loop [1,2,3,4,9,10,11,12,13,14,15,16,17,18,19,20,21,22,23,24,25,26,27] (.seq (.seq (g_ 5 [p_ 0 9 (m_ 4),p_ 1 10 (f_ 8 1),r_ 2 11 (l_ 10),p_ 3 12 (k_ 11),p_ 4 13 (.bin 3 0 (.t 9) (.t 12))]) (.cond (.t 13) .skip (.exit 2))) (.seq (.block 3 (h_ 12 [p_ 0 16 (f_ 8 3),r_ 1 17 (l_ 16),p_ 2 18 (f_ 8 1),r_ 3 19 (l_ 18),p_ 4 20 (m_ 4),p_ 5 21 (.ixs 9 (.t 19) (.t 20)),r_ 6 22 (.ld true 9 (.t 21)),c_ 7 23 30 [.t 22],a_ 1 17 (l_ 16),e_ 8 24 (.bsl 54 9 1 [(o_ 0),(o_ 0),(o_ 0),(o_ 0),(o_ 0),(o_ 0),(.int 3 (.ofNat 0)),(.int 1 (.ofNat 0)),.nilS] [(0,9)] [.t 23]),a_ 1 17 (l_ 16),e_ 9 25 (.app 54 9 80 (.t 17) (.t 24)),p_ 10 26 (f_ 8 3),bl 11 (.st 1 (.t 26) (.t 25))])) (g_ 3 [p_ 0 14 (m_ 4),p_ 1 15 (.bin 0 0 (.t 14) (i_ 1)),p_ 2 4 (m_ 15)])))))) (.seq (g_ 2 [r_ 0 27 (.ld true 9 (.t 3)),bl 1 (.st 9 (.t 2) (.t 27))]) .ret))))
theorem Zw:bi 10 Zx:=⟨by kernel_rfl,by kernel_rfl⟩
def Zv:XF:=.mk 28 (.two 2 3) (.seq (g_ 3 [e_ 0 1 (.box 29 (.t 0)),p_ 1 2 (.mv (.c (.str []))),p_ 2 3 (.mv (i_ 0))]) (.seq (.seq (g_ 3 [r_ 0 7 (.ld true 9 (.t 1)),c_ 1 8 13 [.t 7],p_ 2 9 (.un 0 (.t 8))]) (.cond (.t 9) (.seq (g_ 2 [p_ 0 2 (.mv (.c (.str []))),p_ 1 3 (.mv (i_ 1))]) .ret) .skip)) (.seq (g_ 1 [e_ 0 4 (.al 91 [.nilP,.nilS])]) (.seq (g_ 4 [p_ 0 10 (f_ 0 1),r_ 1 11 (.ld true 8 (.t 10)),c_ 2 12 32 [.t 11],c_ 3 13 31 [(.t 4),(.t 12)]]) (.seq (.seq (g_ 4 [p_ 0 14 (f_ 8 1),r_ 1 15 (l_ 14),p_ 2 16 (k_ 15),p_ 3 17 (.mv (i_ 0))]) (.block 2 (.loop [2,3,4,6,15,16,17,18,19,20,21,22,24,25,26,27] (.seq (g_ 1 [p_ 0 18 (.bin 3 0 (.t 17) (.t 16))]) (.seq (.cond (.t 18) .skip (.exit 2)) (.seq (.block 3 (.seq (g_ 4 [p_ 0 19 (.ixs 9 (.t 15) (.t 17)),r_ 1 20 (.ld true 9 (.t 19)),e_ 2 6 (.al 54 [(o_ 0),(o_ 0),(o_ 0),(o_ 0),(o_ 0),(o_ 0),(.int 3 (.ofNat 0)),(.int 1 (.ofNat 0)),.nilS]),bl 3 (.st 9 (.t 6) (.t 20))]) (.seq (g_ 3 [r_ 0 21 (.ld true 9 (.t 6)),c_ 1 22 33 [.t 21],c_ 2 23 31 [(.t 4),(.t 22)]]) (.seq (g_ 2 [c_ 0 24 34 [.t 4],p_ 1 25 (.bin 3 2 (.t 24) (i_ 65536))]) (.cond (.t 25) (.seq (g_ 2 [p_ 0 2 (.mv (.c (.str []))),p_ 1 3 (.mv (i_ 5))]) .ret) .skip))))) (g_ 2 [p_ 0 26 (.bin 0 0 (.t 17) (i_ 1)),p_ 1 17 (m_ 26)]))))))) (.seq (g_ 3 [c_ 0 27 35 [.t 4],p_ 1 2 (m_ 27),p_ 2 3 (.mv (i_ 0))]) .ret))))))
theorem Zu:bi 11 Zv:=⟨by kernel_rfl,by kernel_rfl⟩
def Zt:XF:=.mk 4 (.one 2) (.seq (g_ 1 [p_ 0 2 (.mv (i_ 0))]) (.seq (g_ 2 [p_ 0 3 (m_ 0),p_ 1 2 (m_ 3)]) .ret))
theorem Zs:bi 12 Zt:=⟨by kernel_rfl,by kernel_rfl⟩
def Zr:XF:=.mk 55 (.one 2) (.seq (g_ 2 [e_ 0 1 (.box 29 (.t 0)),p_ 1 2 (.mv (.c (.bool false)))]) (.seq (.seq (g_ 5 [p_ 0 8 (f_ 0 1),p_ 1 9 (f_ 0 8),r_ 2 10 (l_ 9),p_ 3 11 (k_ 10),p_ 4 3 (m_ 11)]) (.seq (g_ 6 [p_ 0 12 (m_ 3),p_ 1 13 (.bin 3 4 (.t 12) (i_ 0)),p_ 2 14 (m_ 13),aj 3 15 14 false (m_ 3),aj 4 16 14 false (.bin 3 2 (.t 15) (i_ 4)),p_ 5 17 (.pick (.t 14) (.c (.bool true)) (.t 16))]) (.cond (.t 17) (.seq (g_ 1 [p_ 0 2 (.mv (.c (.bool false)))]) .ret) .skip))) (.seq (.seq (g_ 5 [p_ 0 18 (f_ 0 1),p_ 1 19 (f_ 0 18),r_ 2 20 (l_ 19),p_ 3 21 (k_ 20),p_ 4 22 (.mv (i_ 0))]) (.block 2 (.loop [1,2,5,7,20,21,22,23,24,25,26,27,28,29,30,31,32,33,34,35,36,37,38,39,40,41,42,43,44,45,46,47,48,49,50,51,52,53,54] (.seq (g_ 1 [p_ 0 23 (.bin 3 0 (.t 22) (.t 21))]) (.seq (.cond (.t 23) .skip (.exit 2)) (.seq (.block 3 (.seq (g_ 4 [p_ 0 24 (.ixs 3 (.t 20) (.t 22)),r_ 1 25 (.ld true 3 (.t 24)),e_ 2 5 (.al 82 [(o_ 0),(o_ 0),(.bool false)]),bl 3 (.st 3 (.t 5) (.t 25))]) (.seq (g_ 10 [p_ 0 26 (f_ 0 5),r_ 1 27 (l_ 26),c_ 2 28 36 [.t 27],p_ 3 29 (.un 0 (.t 28)),p_ 4 30 (m_ 29),aj 5 31 30 false (f_ 1 5),aT 6 32 30 false (l_ 31),fX 7 33 30 false 36 [.t 32],aj 8 34 30 false (.un 0 (.t 33)),p_ 9 35 (.pick (.t 30) (.c (.bool true)) (.t 34))]) (.cond (.t 35) (.seq (g_ 1 [p_ 0 2 (.mv (.c (.bool false)))]) .ret) .skip)))) (g_ 2 [p_ 0 36 (.bin 0 0 (.t 22) (i_ 1)),p_ 1 22 (m_ 36)]))))))) (.seq (.seq (g_ 4 [p_ 0 37 (f_ 0 1),c_ 1 38 37 [.t 37],p_ 2 39 (k_ 38),p_ 3 40 (.mv (i_ 0))]) (.block 4 (.loop [1,2,7,38,39,40,41,42,43,44,45,46,47,48,49,50,51,52,53,54] (.seq (g_ 1 [p_ 0 41 (.bin 3 0 (.t 40) (.t 39))]) (.seq (.cond (.t 41) .skip (.exit 4)) (.seq (.block 5 (.seq (g_ 4 [p_ 0 42 (.ixs 2 (.t 38) (.t 40)),r_ 1 43 (.ld true 2 (.t 42)),e_ 2 7 (.al 106 [(.str []),.nilP]),bl 3 (.st 2 (.t 7) (.t 43))]) (.seq (g_ 6 [p_ 0 44 (f_ 1 7),r_ 1 45 (l_ 44),p_ 2 46 (n_ 45),r_ 3 47 (l_ 46),c_ 4 48 36 [.t 47],p_ 5 49 (.un 0 (.t 48))]) (.cond (.t 49) (.seq (g_ 1 [p_ 0 2 (.mv (.c (.bool false)))]) .ret) .skip)))) (g_ 2 [p_ 0 50 (.bin 0 0 (.t 40) (i_ 1)),p_ 1 40 (m_ 50)]))))))) (.seq (g_ 5 [p_ 0 51 (f_ 8 1),r_ 1 52 (l_ 51),c_ 2 53 38 [(.t 52),(.f 39)],p_ 3 54 (.un 0 (.t 53)),p_ 4 2 (m_ 54)]) .ret)))))
theorem Zq:bi 13 Zr:=⟨by kernel_rfl,by kernel_rfl⟩
def Zp:XF:=.mk 7 (.cell 2 true 8) (.seq (g_ 1 [e_ 0 2 (.al 34 [.nilS,(o_ 0),(o_ 0),(o_ 0),(o_ 0),(o_ 0),(o_ 0),(.int 4 (.ofNat 0))])]) (.seq (g_ 5 [p_ 0 3 (m_ 0),p_ 1 4 (.bld [(o_ 0),(o_ 0),(.bool false)] [(0,1)] [.t 3]),e_ 2 5 (.bsl 69 3 1 [(o_ 0),(o_ 0),(.bool false)] [(0,3)] [.t 4]),p_ 3 6 (.bld [.nilS,(o_ 0),(o_ 0),(o_ 0),(o_ 0),(o_ 0),(o_ 0),(.int 4 (.ofNat 0))] [(0,1),(1,1),(2,1),(3,1),(4,1),(5,1),(6,1),(7,1)] [(.t 5),(i_ 1),(i_ 4),(i_ 200),(i_ 1),(i_ 5),(i_ 500),(.c (.int 4 (.ofNat 1)))]),bl 4 (.st 8 (.t 2) (.t 6))]) .ret))
theorem Zo:bi 15 Zp:=⟨by kernel_rfl,by kernel_rfl⟩
def Zn:XF:=.mk 2 (.one 0) (.seq (g_ 1 [p_ 0 0 (.mv (.c .nilS))]) (.seq (g_ 2 [e_ 0 1 (.bsl 9 1 7 [(.str []),(.str []),(.str []),(.str []),(.str []),(.str []),(.str [])] [(0,1),(1,1),(2,1),(3,1),(4,1),(5,1),(6,1)] [(.c (.str [99,108,105,101,110,116,115])),(.c (.str [119,105,110,100,111,119])),(.c (.str [100,101,97,100,108,105,110,101])),(.c (.str [112,97,99,101])),(.c (.str [97,103,97,105,110])),(.c (.str [98,97,103])),(.c (.str [102,105,114,115,116]))]),p_ 1 0 (m_ 1)]) .ret))
theorem Zm:bi 22 Zn:=⟨by kernel_rfl,by kernel_rfl⟩
def Zl:XF:=.mk 43 (.cell 6 true 8) (.seq (g_ 2 [e_ 0 3 (.box 34 (.t 0)),e_ 1 6 (.al 34 [.nilS,(o_ 0),(o_ 0),(o_ 0),(o_ 0),(o_ 0),(o_ 0),(.int 4 (.ofNat 0))])]) (.seq (.seq (g_ 1 [p_ 0 7 (m_ 1)]) (.block 2 (.seq (g_ 2 [p_ 0 9 (.bin 3 4 (.t 7) (i_ 0)),p_ 1 8 (m_ 9)]) (.cond (.t 8) (g_ 4 [p_ 0 10 (m_ 2),p_ 1 11 (.cnv 0 (.t 10)),p_ 2 12 (f_ 1 3),bl 3 (.st 1 (.t 12) (.t 11))]) (.seq (g_ 2 [p_ 0 14 (.bin 3 4 (.t 7) (i_ 1)),p_ 1 13 (m_ 14)]) (.cond (.t 13) (g_ 4 [p_ 0 15 (m_ 2),p_ 1 16 (.cnv 0 (.t 15)),p_ 2 17 (f_ 2 3),bl 3 (.st 1 (.t 17) (.t 16))]) (.seq (g_ 2 [p_ 0 19 (.bin 3 4 (.t 7) (i_ 2)),p_ 1 18 (m_ 19)]) (.cond (.t 18) (g_ 4 [p_ 0 20 (m_ 2),p_ 1 21 (.cnv 0 (.t 20)),p_ 2 22 (f_ 3 3),bl 3 (.st 1 (.t 22) (.t 21))]) (.seq (g_ 2 [p_ 0 24 (.bin 3 4 (.t 7) (i_ 3)),p_ 1 23 (m_ 24)]) (.cond (.t 23) (g_ 4 [p_ 0 25 (m_ 2),p_ 1 26 (.cnv 0 (.t 25)),p_ 2 27 (f_ 4 3),bl 3 (.st 1 (.t 27) (.t 26))]) (.seq (g_ 2 [p_ 0 29 (.bin 3 4 (.t 7) (i_ 4)),p_ 1 28 (m_ 29)]) (.cond (.t 28) (g_ 4 [p_ 0 30 (m_ 2),p_ 1 31 (.cnv 0 (.t 30)),p_ 2 32 (f_ 5 3),bl 3 (.st 1 (.t 32) (.t 31))]) (.seq (g_ 2 [p_ 0 34 (.bin 3 4 (.t 7) (i_ 5)),p_ 1 33 (m_ 34)]) (.cond (.t 33) (g_ 4 [p_ 0 35 (m_ 2),p_ 1 36 (.cnv 0 (.t 35)),p_ 2 37 (f_ 6 3),bl 3 (.st 1 (.t 37) (.t 36))]) (.seq (g_ 2 [p_ 0 39 (.bin 3 4 (.t 7) (i_ 6)),p_ 1 38 (m_ 39)]) (.cond (.t 38) (g_ 3 [p_ 0 40 (m_ 2),p_ 1 41 (f_ 7 3),bl 2 (.st 1 (.t 41) (.t 40))]) .skip)))))))))))))))) (.seq (g_ 2 [r_ 0 42 (.ld true 8 (.t 3)),bl 1 (.st 8 (.t 6) (.t 42))]) .ret)))
theorem Zk:bi 24 Zl:=⟨by kernel_rfl,by kernel_rfl⟩
def Zj:XF:=.mk 66 (.one 4) (.seq (g_ 3 [e_ 0 2 (.box 79 (.t 0)),e_ 1 3 (.box 79 (.t 1)),p_ 2 4 (.mv (.c (.bool false)))]) (.seq (g_ 62 [p_ 0 5 (f_ 0 2),r_ 1 6 (l_ 5),p_ 2 7 (f_ 0 3),r_ 3 8 (l_ 7),p_ 4 9 (.bin 3 4 (.t 6) (.t 8)),p_ 5 10 (m_ 9),aj 6 11 10 true (f_ 1 2),aT 7 12 10 true (l_ 11),aj 8 13 10 true (f_ 1 3),aT 9 14 10 true (l_ 13),aj 10 15 10 true (.bin 3 4 (.t 12) (.t 14)),p_ 11 16 (.pick (.t 10) (.t 15) (.c (.bool false))),p_ 12 17 (m_ 16),aj 13 18 17 true (f_ 2 2),aT 14 19 17 true (l_ 18),aj 15 20 17 true (f_ 2 3),aT 16 21 17 true (l_ 20),aj 17 22 17 true (.bin 3 4 (.t 19) (.t 21)),p_ 18 23 (.pick (.t 17) (.t 22) (.c (.bool false))),p_ 19 24 (m_ 23),aj 20 25 24 true (f_ 3 2),aT 21 26 24 true (l_ 25),aj 22 27 24 true (f_ 3 3),aT 23 28 24 true (l_ 27),aj 24 29 24 true (.bin 3 4 (.t 26) (.t 28)),p_ 25 30 (.pick (.t 24) (.t 29) (.c (.bool false))),p_ 26 31 (m_ 30),aj 27 32 31 true (f_ 4 2),aT 28 33 31 true (l_ 32),aj 29 34 31 true (f_ 4 3),aT 30 35 31 true (l_ 34),aj 31 36 31 true (.bin 3 4 (.t 33) (.t 35)),p_ 32 37 (.pick (.t 31) (.t 36) (.c (.bool false))),p_ 33 38 (m_ 37),aj 34 39 38 true (f_ 5 2),aT 35 40 38 true (l_ 39),aj 36 41 38 true (f_ 5 3),aT 37 42 38 true (l_ 41),aj 38 43 38 true (.bin 3 4 (.t 40) (.t 42)),p_ 39 44 (.pick (.t 38) (.t 43) (.c (.bool false))),p_ 40 45 (m_ 44),aj 41 46 45 true (f_ 6 2),aT 42 47 45 true (l_ 46),aj 43 48 45 true (f_ 6 3),aT 44 49 45 true (l_ 48),aj 45 50 45 true (.bin 3 4 (.t 47) (.t 49)),p_ 46 51 (.pick (.t 45) (.t 50) (.c (.bool false))),p_ 47 52 (m_ 51),aj 48 53 52 true (f_ 7 2),aT 49 54 52 true (l_ 53),aj 50 55 52 true (f_ 7 3),aT 51 56 52 true (l_ 55),aj 52 57 52 true (.bin 3 4 (.t 54) (.t 56)),p_ 53 58 (.pick (.t 52) (.t 57) (.c (.bool false))),p_ 54 59 (m_ 58),aj 55 60 59 true (f_ 8 2),aT 56 61 59 true (l_ 60),aj 57 62 59 true (f_ 8 3),aT 58 63 59 true (l_ 62),fX 59 64 59 true 55 [(.t 61),(.t 63)],p_ 60 65 (.pick (.t 59) (.t 64) (.c (.bool false))),p_ 61 4 (m_ 65)]) .ret))
theorem Zi:bi 26 Zj:=⟨by kernel_rfl,by kernel_rfl⟩
def Zh:XF:=.mk 46 (.cell 2 true 8) (.seq (g_ 2 [e_ 0 1 (.box 34 (.t 0)),e_ 1 2 (.al 26 [.nilS,(o_ 0),(o_ 0),(o_ 0),(o_ 0),(o_ 0),(o_ 0),(.int 4 (.ofNat 0))])]) (.seq (g_ 17 [p_ 0 6 (f_ 1 1),r_ 1 7 (l_ 6),p_ 2 8 (f_ 2 1),r_ 3 9 (l_ 8),p_ 4 10 (f_ 3 1),r_ 5 11 (l_ 10),p_ 6 12 (f_ 4 1),r_ 7 13 (l_ 12),p_ 8 14 (f_ 5 1),r_ 9 15 (l_ 14),p_ 10 16 (f_ 6 1),r_ 11 17 (l_ 16),p_ 12 18 (f_ 7 1),r_ 13 19 (l_ 18),p_ 14 20 (.bld [.nilS,(o_ 0),(o_ 0),(o_ 0),(o_ 0),(o_ 0),(o_ 0),(.int 4 (.ofNat 0))] [(1,1),(2,1),(3,1),(4,1),(5,1),(6,1),(7,1)] [(.t 7),(.t 9),(.t 11),(.t 13),(.t 15),(.t 17),(.t 19)]),e_ 15 3 (.al 26 [.nilS,(o_ 0),(o_ 0),(o_ 0),(o_ 0),(o_ 0),(o_ 0),(.int 4 (.ofNat 0))]),bl 16 (.st 8 (.t 3) (.t 20))]) (.seq (.seq (g_ 1 [p_ 0 4 (.mv (i_ 0))]) (.block 2 (.loop [1,2,3,4,5,21,22,23,24,25,26,27,28,29,30,31,32,33,34,35,36,37,38,39,40,41,42,43,44,45] (.seq (.seq (g_ 5 [p_ 0 21 (m_ 4),p_ 1 22 (f_ 0 1),r_ 2 23 (l_ 22),p_ 3 24 (k_ 23),p_ 4 25 (.bin 3 0 (.t 21) (.t 24))]) (.cond (.t 25) .skip (.exit 2))) (.seq (.block 3 (.seq (g_ 7 [p_ 0 28 (f_ 0 1),r_ 1 29 (l_ 28),p_ 2 30 (m_ 4),p_ 3 31 (.ixs 3 (.t 29) (.t 30)),r_ 4 32 (.ld true 3 (.t 31)),e_ 5 5 (.al 69 [(o_ 0),(o_ 0),(.bool false)]),bl 6 (.st 3 (.t 5) (.t 32))]) (g_ 13 [p_ 0 33 (f_ 0 3),r_ 1 34 (l_ 33),p_ 2 35 (f_ 0 5),r_ 3 36 (l_ 35),p_ 4 37 (f_ 1 5),r_ 5 38 (l_ 37),p_ 6 39 (f_ 2 5),r_ 7 40 (l_ 39),p_ 8 41 (.bld [(o_ 0),(o_ 0),(.bool false)] [(0,1),(1,1),(2,1)] [(.t 36),(.t 38),(.t 40)]),e_ 9 42 (.bsl 82 3 1 [(o_ 0),(o_ 0),(.bool false)] [(0,3)] [.t 41]),e_ 10 43 (.app 82 3 24 (.t 34) (.t 42)),p_ 11 44 (f_ 0 3),bl 12 (.st 1 (.t 44) (.t 43))]))) (g_ 3 [p_ 0 26 (m_ 4),p_ 1 27 (.bin 0 0 (.t 26) (i_ 1)),p_ 2 4 (m_ 27)])))))) (.seq (g_ 2 [r_ 0 45 (.ld true 8 (.t 3)),bl 1 (.st 8 (.t 2) (.t 45))]) .ret))))
theorem Zg:bi 29 Zh:=⟨by kernel_rfl,by kernel_rfl⟩
def Zf:XF:=.mk 58 (.one 2) (.seq (g_ 2 [e_ 0 1 (.box 26 (.t 0)),p_ 1 2 (.mv (.c (.str [])))]) (.seq (g_ 1 [e_ 0 3 (.al 91 [.nilP,.nilS])]) (.seq (.seq (g_ 4 [p_ 0 9 (f_ 0 1),r_ 1 10 (l_ 9),p_ 2 11 (k_ 10),p_ 3 12 (.mv (i_ 0))]) (.block 2 (.loop [1,2,3,5,6,8,10,11,12,13,14,15,16,17,18,19,20,21,22,23,24,25,26,27,28,29,30,32,33,34,35,36,37,38,39,40,41,42,43,44,45,46,47,48,50,51,52,53,54,55,57] (.seq (g_ 1 [p_ 0 13 (.bin 3 0 (.t 12) (.t 11))]) (.seq (.cond (.t 13) .skip (.exit 2)) (.seq (.block 3 (.seq (g_ 4 [p_ 0 14 (.ixs 3 (.t 10) (.t 12)),r_ 1 15 (.ld true 3 (.t 14)),e_ 2 5 (.al 82 [(o_ 0),(o_ 0),(.bool false)]),bl 3 (.st 3 (.t 5) (.t 15))]) (.seq (g_ 1 [p_ 0 6 (.mv (.c (.str [112,108,97,105,110])))]) (.seq (.seq (g_ 2 [p_ 0 16 (f_ 2 5),r_ 1 17 (l_ 16)]) (.cond (.t 17) (g_ 1 [p_ 0 6 (.mv (.c (.str [99,104,101,99,107])))]) .skip)) (h_ 14 [p_ 0 18 (f_ 0 5),r_ 1 19 (l_ 18),p_ 5 23 (f_ 1 5),r_ 6 24 (l_ 23),p_ 10 28 (m_ 6),c_ 2 20 60 [.t 19],a_ 6 24 (l_ 23),p_ 3 21 (.bin 4 0 (.c (.str [103,114,111,117,112,32])) (.t 20)),p_ 4 22 (.bin 4 0 (.t 21) (.c (.str [32]))),c_ 7 25 60 [.t 24],p_ 8 26 (.bin 4 0 (.t 22) (.t 25)),p_ 9 27 (.bin 4 0 (.t 26) (.c (.str [32]))),p_ 11 29 (.bin 4 0 (.t 27) (.t 28)),p_ 12 30 (.bin 4 0 (.t 29) (.c (.str [10]))),c_ 13 31 31 [(.t 3),(.t 30)]]))))) (g_ 2 [p_ 0 32 (.bin 0 0 (.t 12) (i_ 1)),p_ 1 12 (m_ 32)]))))))) (.seq (.seq (g_ 3 [c_ 0 33 37 [.t 1],p_ 1 34 (k_ 33),p_ 2 35 (.mv (i_ 0))]) (.block 4 (.loop [1,2,3,8,33,34,35,36,37,38,39,40,41,42,43,44,45,46,47,48,50,51,52,53,54,55,57] (.seq (g_ 1 [p_ 0 36 (.bin 3 0 (.t 35) (.t 34))]) (.seq (.cond (.t 36) .skip (.exit 4)) (.seq (.block 5 (.seq (g_ 4 [p_ 0 37 (.ixs 2 (.t 33) (.t 35)),r_ 1 38 (.ld true 2 (.t 37)),e_ 2 8 (.al 106 [(.str []),.nilP]),bl 3 (.st 2 (.t 8) (.t 38))]) (h_ 11 [p_ 0 39 (f_ 0 8),r_ 1 40 (l_ 39),p_ 2 41 (.bin 4 0 (.t 40) (.c (.str [32]))),p_ 3 42 (f_ 1 8),r_ 4 43 (l_ 42),p_ 5 44 (n_ 43),r_ 6 45 (l_ 44),c_ 7 46 60 [.t 45],a_ 1 40 (l_ 39),p_ 8 47 (.bin 4 0 (.t 41) (.t 46)),p_ 9 48 (.bin 4 0 (.t 47) (.c (.str [10]))),c_ 10 49 31 [(.t 3),(.t 48)]]))) (g_ 2 [p_ 0 50 (.bin 0 0 (.t 35) (i_ 1)),p_ 1 35 (m_ 50)]))))))) (.seq (g_ 6 [p_ 0 51 (f_ 7 1),r_ 1 52 (l_ 51),c_ 2 53 61 [(.t 52),(i_ 10)],p_ 3 54 (.bin 4 0 (.c (.str [102,105,114,115,116,32])) (.t 53)),p_ 4 55 (.bin 4 0 (.t 54) (.c (.str [10]))),c_ 5 56 31 [(.t 3),(.t 55)]]) (.seq (g_ 2 [c_ 0 57 35 [.t 3],p_ 1 2 (m_ 57)]) .ret))))))
theorem Ze:bi 32 Zf:=⟨by kernel_rfl,by kernel_rfl⟩
def Zd:XF:=.mk 52 (.one 2) (.seq (g_ 2 [e_ 0 1 (.box 54 (.t 0)),p_ 1 2 (.mv (.c (.str [])))]) (.seq (g_ 5 [p_ 0 8 (f_ 0 1),r_ 1 9 (l_ 8),c_ 2 10 62 [.t 9],e_ 3 11 (.bsl 9 1 1 [(.str [])] [(0,1)] [.t 10]),p_ 4 3 (m_ 11)]) (.seq (.seq (g_ 3 [c_ 0 12 63 [.t 1],p_ 1 13 (k_ 12),p_ 2 14 (.mv (i_ 0))]) (.block 2 (.loop [1,2,3,5,7,12,13,14,15,16,17,18,19,20,21,22,23,24,25,26,27,28,29,30,31,32,33,34,35,36,37,38,39,40,41,42,43,44,45,46,47,48,49,50,51] (.seq (g_ 1 [p_ 0 15 (.bin 3 0 (.t 14) (.t 13))]) (.seq (.cond (.t 15) .skip (.exit 2)) (.seq (.block 3 (.seq (g_ 3 [p_ 0 16 (.ixs 1 (.t 12) (.t 14)),r_ 1 17 (l_ 16),p_ 2 5 (m_ 17)]) (g_ 8 [p_ 0 18 (m_ 3),p_ 1 19 (m_ 5),p_ 2 20 (n_ 19),r_ 3 21 (l_ 20),c_ 4 22 60 [.t 21],e_ 5 23 (.bsl 9 1 1 [(.str [])] [(0,1)] [.t 22]),e_ 6 24 (.app 9 1 16 (.t 18) (.t 23)),p_ 7 3 (m_ 24)]))) (g_ 2 [p_ 0 25 (.bin 0 0 (.t 14) (i_ 1)),p_ 1 14 (m_ 25)]))))))) (.seq (.seq (g_ 3 [p_ 0 26 (f_ 0 1),r_ 1 27 (l_ 26),p_ 2 28 (.bin 3 4 (.t 27) (i_ 5))]) (.cond (.t 28) (g_ 8 [p_ 0 29 (m_ 3),p_ 1 30 (f_ 6 1),r_ 2 31 (l_ 30),p_ 3 32 (.cnv 4 (.t 31)),c_ 4 33 61 [(.t 32),(i_ 10)],e_ 5 34 (.bsl 9 1 1 [(.str [])] [(0,1)] [.t 33]),e_ 6 35 (.app 9 1 16 (.t 29) (.t 34)),p_ 7 3 (m_ 35)]) .skip)) (.seq (.seq (g_ 4 [p_ 0 36 (f_ 8 1),r_ 1 37 (l_ 36),p_ 2 38 (k_ 37),p_ 3 39 (.mv (i_ 0))]) (.block 4 (.loop [2,3,7,37,38,39,40,41,42,43,44,45,46,47,48,49,50,51] (.seq (g_ 1 [p_ 0 40 (.bin 3 0 (.t 39) (.t 38))]) (.seq (.cond (.t 40) .skip (.exit 4)) (.seq (.block 5 (.seq (g_ 4 [p_ 0 41 (.ixs 5 (.t 37) (.t 39)),r_ 1 42 (.ld true 5 (.t 41)),e_ 2 7 (.al 124 [(.int 1 (.ofNat 0)),(.int 1 (.ofNat 0)),(.str []),(.str []),(o_ 0)]),bl 3 (.st 5 (.t 7) (.t 42))]) (g_ 6 [p_ 0 43 (m_ 3),r_ 1 44 (.ld true 5 (.t 7)),c_ 2 45 64 [.t 44],e_ 3 46 (.bsl 9 1 1 [(.str [])] [(0,1)] [.t 45]),e_ 4 47 (.app 9 1 16 (.t 43) (.t 46)),p_ 5 3 (m_ 47)]))) (g_ 2 [p_ 0 48 (.bin 0 0 (.t 39) (i_ 1)),p_ 1 39 (m_ 48)]))))))) (.seq (g_ 4 [p_ 0 49 (m_ 3),c_ 1 50 65 [(.t 49),(.c (.str [32]))],p_ 2 51 (.bin 4 0 (.t 50) (.c (.str [10]))),p_ 3 2 (m_ 51)]) .ret))))))
theorem Zc:bi 33 Zd:=⟨by kernel_rfl,by kernel_rfl⟩
def Zb:XF:=.mk 8 (.one 2) (.seq (g_ 1 [p_ 0 2 (.mv (i_ 0))]) (.seq (g_ 6 [p_ 0 3 (m_ 0),p_ 1 4 (n_ 3),p_ 2 5 (f_ 1 4),r_ 3 6 (l_ 5),p_ 4 7 (k_ 6),p_ 5 2 (m_ 7)]) .ret))
theorem Za:bi 34 Zb:=⟨by kernel_rfl,by kernel_rfl⟩
def YZ:XF:=.mk 9 (.one 2) (.seq (g_ 1 [p_ 0 2 (.mv (.c (.bool false)))]) (.seq (g_ 7 [p_ 0 3 (m_ 0),p_ 1 4 (.bin 3 3 (.t 3) (i_ 0)),p_ 2 5 (m_ 4),aj 3 6 5 true (m_ 0),aj 4 7 5 true (.bin 3 1 (.t 6) (i_ 1099511627776)),p_ 5 8 (.pick (.t 5) (.t 7) (.c (.bool false))),p_ 6 2 (m_ 8)]) .ret))
theorem YY:bi 36 YZ:=⟨by kernel_rfl,by kernel_rfl⟩
def YX:XF:=.mk 28 (.one 2) (.seq (g_ 1 [p_ 0 2 (.mv (.c .nilS))]) (.seq (h_ 26 [p_ 0 3 (m_ 0),p_ 1 4 (n_ 3),p_ 2 5 (f_ 1 4),p_ 3 6 (.bld [(.str []),.nilP] [(0,1),(1,1)] [(.c (.str [99,108,105,101,110,116,115])),(.t 5)]),p_ 4 7 (m_ 0),p_ 5 8 (n_ 7),p_ 6 9 (f_ 2 8),p_ 7 10 (.bld [(.str []),.nilP] [(0,1),(1,1)] [(.c (.str [119,105,110,100,111,119])),(.t 9)]),p_ 8 11 (m_ 0),p_ 9 12 (n_ 11),p_ 10 13 (f_ 3 12),p_ 11 14 (.bld [(.str []),.nilP] [(0,1),(1,1)] [(.c (.str [100,101,97,100,108,105,110,101])),(.t 13)]),p_ 12 15 (m_ 0),p_ 13 16 (n_ 15),p_ 14 17 (f_ 4 16),p_ 15 18 (.bld [(.str []),.nilP] [(0,1),(1,1)] [(.c (.str [112,97,99,101])),(.t 17)]),p_ 16 19 (m_ 0),p_ 17 20 (n_ 19),p_ 18 21 (f_ 5 20),p_ 19 22 (.bld [(.str []),.nilP] [(0,1),(1,1)] [(.c (.str [97,103,97,105,110])),(.t 21)]),p_ 20 23 (m_ 0),p_ 21 24 (n_ 23),p_ 22 25 (f_ 6 24),p_ 23 26 (.bld [(.str []),.nilP] [(0,1),(1,1)] [(.c (.str [98,97,103])),(.t 25)]),e_ 24 27 (.bsl 106 2 6 [(.str []),.nilP,(.str []),.nilP,(.str []),.nilP,(.str []),.nilP,(.str []),.nilP,(.str []),.nilP] [(0,2),(2,2),(4,2),(6,2),(8,2),(10,2)] [(.t 6),(.t 10),(.t 14),(.t 18),(.t 22),(.t 26)]),p_ 25 2 (m_ 27)]) .ret))
theorem YW:bi 37 YX:=⟨by kernel_rfl,by kernel_rfl⟩
def YV:XF:=.mk 9 (.one 4) (.seq (g_ 1 [p_ 0 4 (.mv (.c (.bool false)))]) (.seq (g_ 5 [p_ 0 5 (m_ 0),p_ 1 6 (m_ 1),c_ 2 7 66 [(.t 5),(.t 6)],p_ 3 8 (.bin 3 3 (.t 7) (i_ 0)),p_ 4 4 (m_ 8)]) .ret))
theorem YU:bi 38 YV:=⟨by kernel_rfl,by kernel_rfl⟩
def YT:XF:=.mk 6 (.one 2) (.seq (g_ 2 [e_ 0 1 (.box 54 (.t 0)),p_ 1 2 (.mv (.c (.bool false)))]) (.seq (g_ 4 [r_ 0 3 (.ld true 9 (.t 1)),c_ 1 4 40 [.t 3],p_ 2 5 (.un 0 (.t 4)),p_ 3 2 (m_ 5)]) .ret))
theorem YS:bi 39 YT:=⟨by kernel_rfl,by kernel_rfl⟩
def YR:XF:=.mk 50 (.one 2) (.seq (g_ 2 [e_ 0 1 (.box 54 (.t 0)),p_ 1 2 (.mv (.c (.bool false)))]) (.seq (.seq (h_ 11 [p_ 0 5 (f_ 0 1),r_ 1 6 (l_ 5),c_ 2 7 62 [.t 6],p_ 3 8 (.bin 5 0 (.t 7) (.c (.str []))),p_ 4 9 (m_ 8),aT 5 10 9 false (.ld true 9 (.t 1)),aT 6 11 9 false (.ld true 9 (.t 1)),fX 7 12 9 false 67 [.t 11],ag_ 5 10 9 false (.ld true 9 (.t 1)),fX 8 13 9 false 43 [(.t 10),(.t 12)],aj 9 14 9 false (.un 0 (.t 13)),p_ 10 15 (.pick (.t 9) (.c (.bool true)) (.t 14))]) (.cond (.t 15) (.seq (g_ 1 [p_ 0 2 (.mv (.c (.bool false)))]) .ret) .skip)) (.seq (.seq (g_ 3 [c_ 0 16 63 [.t 1],p_ 1 17 (k_ 16),p_ 2 18 (.mv (i_ 0))]) (.block 2 (.loop [1,2,4,16,17,18,19,20,21,22,23,24,25,26,27,28,29,30,31,32,33,34,35,36,37,38,39,40,41,42,43,44,45,46,47,48,49] (.seq (g_ 1 [p_ 0 19 (.bin 3 0 (.t 18) (.t 17))]) (.seq (.cond (.t 19) .skip (.exit 2)) (.seq (.block 3 (.seq (g_ 3 [p_ 0 20 (.ixs 1 (.t 16) (.t 18)),r_ 1 21 (l_ 20),p_ 2 4 (m_ 21)]) (.seq (g_ 5 [p_ 0 22 (m_ 4),p_ 1 23 (n_ 22),r_ 2 24 (l_ 23),c_ 3 25 36 [.t 24],p_ 4 26 (.un 0 (.t 25))]) (.cond (.t 26) (.seq (g_ 1 [p_ 0 2 (.mv (.c (.bool false)))]) .ret) .skip)))) (g_ 2 [p_ 0 27 (.bin 0 0 (.t 18) (i_ 1)),p_ 1 18 (m_ 27)]))))))) (.seq (.seq (g_ 3 [p_ 0 28 (f_ 0 1),r_ 1 29 (l_ 28),p_ 2 30 (.bin 3 5 (.t 29) (i_ 0))]) (.cond (.t 30) (.seq (g_ 1 [p_ 0 2 (.mv (.c (.bool true)))]) .ret) .skip)) (.seq (h_ 20 [p_ 0 31 (f_ 8 1),r_ 1 32 (l_ 31),c_ 2 33 68 [.t 32],p_ 3 34 (m_ 33),aj 4 35 34 true (f_ 8 1),aT 5 36 34 true (l_ 35),aj 6 37 34 true (.ixs 5 (.t 36) (i_ 0)),aj 7 38 34 true (f_ 0 37),aT 8 39 34 true (l_ 38),aj 9 40 34 true (f_ 7 1),aT 10 41 34 true (l_ 40),aj 11 42 34 true (.bin 3 4 (.t 39) (.t 41)),p_ 12 43 (.pick (.t 34) (.t 42) (.c (.bool false))),p_ 13 44 (m_ 43),aj 14 45 44 true (f_ 8 1),aT 15 46 44 true (l_ 45),fX 16 47 44 true 69 [(.t 46),(.f 70)],aj 17 48 44 true (.un 0 (.t 47)),p_ 18 49 (.pick (.t 44) (.t 48) (.c (.bool false))),p_ 19 2 (m_ 49)]) .ret)))))
theorem YQ:bi 40 YR:=⟨by kernel_rfl,by kernel_rfl⟩
def YP:XF:=.mk 66 (.one 4) (.seq (g_ 3 [e_ 0 2 (.box 54 (.t 0)),e_ 1 3 (.box 54 (.t 1)),p_ 2 4 (.mv (.c (.bool false)))]) (.seq (g_ 62 [p_ 0 5 (f_ 0 2),r_ 1 6 (l_ 5),p_ 2 7 (f_ 0 3),r_ 3 8 (l_ 7),p_ 4 9 (.bin 3 4 (.t 6) (.t 8)),p_ 5 10 (m_ 9),aj 6 11 10 true (f_ 1 2),aT 7 12 10 true (l_ 11),aj 8 13 10 true (f_ 1 3),aT 9 14 10 true (l_ 13),aj 10 15 10 true (.bin 3 4 (.t 12) (.t 14)),p_ 11 16 (.pick (.t 10) (.t 15) (.c (.bool false))),p_ 12 17 (m_ 16),aj 13 18 17 true (f_ 2 2),aT 14 19 17 true (l_ 18),aj 15 20 17 true (f_ 2 3),aT 16 21 17 true (l_ 20),aj 17 22 17 true (.bin 3 4 (.t 19) (.t 21)),p_ 18 23 (.pick (.t 17) (.t 22) (.c (.bool false))),p_ 19 24 (m_ 23),aj 20 25 24 true (f_ 3 2),aT 21 26 24 true (l_ 25),aj 22 27 24 true (f_ 3 3),aT 23 28 24 true (l_ 27),aj 24 29 24 true (.bin 3 4 (.t 26) (.t 28)),p_ 25 30 (.pick (.t 24) (.t 29) (.c (.bool false))),p_ 26 31 (m_ 30),aj 27 32 31 true (f_ 4 2),aT 28 33 31 true (l_ 32),aj 29 34 31 true (f_ 4 3),aT 30 35 31 true (l_ 34),aj 31 36 31 true (.bin 3 4 (.t 33) (.t 35)),p_ 32 37 (.pick (.t 31) (.t 36) (.c (.bool false))),p_ 33 38 (m_ 37),aj 34 39 38 true (f_ 5 2),aT 35 40 38 true (l_ 39),aj 36 41 38 true (f_ 5 3),aT 37 42 38 true (l_ 41),aj 38 43 38 true (.bin 3 4 (.t 40) (.t 42)),p_ 39 44 (.pick (.t 38) (.t 43) (.c (.bool false))),p_ 40 45 (m_ 44),aj 41 46 45 true (f_ 6 2),aT 42 47 45 true (l_ 46),aj 43 48 45 true (f_ 6 3),aT 44 49 45 true (l_ 48),aj 45 50 45 true (.bin 3 4 (.t 47) (.t 49)),p_ 46 51 (.pick (.t 45) (.t 50) (.c (.bool false))),p_ 47 52 (m_ 51),aj 48 53 52 true (f_ 7 2),aT 49 54 52 true (l_ 53),aj 50 55 52 true (f_ 7 3),aT 51 56 52 true (l_ 55),aj 52 57 52 true (.bin 3 4 (.t 54) (.t 56)),p_ 53 58 (.pick (.t 52) (.t 57) (.c (.bool false))),p_ 54 59 (m_ 58),aj 55 60 59 true (f_ 8 2),aT 56 61 59 true (l_ 60),aj 57 62 59 true (f_ 8 3),aT 58 63 59 true (l_ 62),fX 59 64 59 true 73 [(.t 61),(.t 63)],p_ 60 65 (.pick (.t 59) (.t 64) (.c (.bool false))),p_ 61 4 (m_ 65)]) .ret))
theorem YO:bi 43 YP:=⟨by kernel_rfl,by kernel_rfl⟩
def YN:XF:=.mk 24 (.two 2 3) (.seq (g_ 2 [p_ 0 2 (.mv (.c (.str []))),p_ 1 3 (.mv (.c (.str [])))]) (.seq (g_ 2 [e_ 0 6 (.bsl 9 1 12 [(.str []),(.str []),(.str []),(.str []),(.str []),(.str []),(.str []),(.str []),(.str []),(.str []),(.str []),(.str [])] [(0,1),(1,1),(2,1),(3,1),(4,1),(5,1),(6,1),(7,1),(8,1),(9,1),(10,1),(11,1)] [(.c (.str [105,110,118,111,107,101])),(.c (.str [115,108,97,121])),(.c (.str [100,101,108,105,118,101,114])),(.c (.str [100,114,111,112])),(.c (.str [116,119,105,99,101])),(.c (.str [115,112,111,105,108])),(.c (.str [116,105,99,107])),(.c (.str [115,117,115,112,101,99,116])),(.c (.str [99,114,97,115,104])),(.c (.str [114,101,115,116,97,114,116])),(.c (.str [106,111,105,110])),(.c (.str [108,101,97,118,101]))]),p_ 1 4 (m_ 6)]) (.seq (g_ 2 [e_ 0 7 (.bsl 9 1 12 [(.str []),(.str []),(.str []),(.str []),(.str []),(.str []),(.str []),(.str []),(.str []),(.str []),(.str []),(.str [])] [(0,1),(1,1),(2,1),(3,1),(4,1),(5,1),(6,1),(7,1),(8,1),(9,1),(10,1),(11,1)] [(.c (.str [120,109])),(.c (.str [120,121])),(.c (.str [105])),(.c (.str [105])),(.c (.str [105])),(.c (.str [105,97,107])),(.c (.str [120])),(.c (.str [120,121])),(.c (.str [120])),(.c (.str [120])),(.c (.str [120])),(.c (.str [120]))]),p_ 1 5 (m_ 7)]) (.seq (.seq (g_ 8 [p_ 0 8 (m_ 0),p_ 1 9 (.bin 3 0 (.t 8) (i_ 0)),p_ 2 10 (m_ 9),aj 3 11 10 false (m_ 0),aj 4 12 10 false (m_ 4),aj 5 13 10 false (k_ 12),aj 6 14 10 false (.bin 3 3 (.t 11) (.t 13)),p_ 7 15 (.pick (.t 10) (.c (.bool true)) (.t 14))]) (.cond (.t 15) (.seq (g_ 2 [p_ 0 2 (.mv (.c (.str []))),p_ 1 3 (.mv (.c (.str [])))]) .ret) .skip)) (.seq (h_ 10 [p_ 0 16 (m_ 4),p_ 1 17 (m_ 0),p_ 2 18 (.ixs 1 (.t 16) (.t 17)),r_ 3 19 (l_ 18),p_ 4 20 (m_ 5),p_ 5 21 (m_ 0),p_ 6 22 (.ixs 1 (.t 20) (.t 21)),r_ 7 23 (l_ 22),p_ 8 2 (m_ 19),p_ 9 3 (m_ 23)]) .ret)))))
theorem YM:bi 51 YN:=⟨by kernel_rfl,by kernel_rfl⟩
def YL:XF:=.mk 32 (.cell 6 true 9) (.seq (g_ 2 [e_ 0 3 (.box 79 (.t 0)),e_ 1 6 (.al 79 [(o_ 0),(o_ 0),(o_ 0),(o_ 0),(o_ 0),(o_ 0),(.int 3 (.ofNat 0)),(.int 1 (.ofNat 0)),.nilS])]) (.seq (.seq (g_ 1 [p_ 0 7 (m_ 1)]) (.block 2 (.seq (g_ 2 [p_ 0 12 (.bin 3 4 (.t 7) (.c (.int 1 (.ofNat 120)))),p_ 1 11 (m_ 12)]) (.cond (.t 11) (g_ 3 [p_ 0 13 (m_ 2),p_ 1 14 (f_ 1 3),bl 2 (.st 1 (.t 14) (.t 13))]) (.seq (g_ 2 [p_ 0 16 (.bin 3 4 (.t 7) (.c (.int 1 (.ofNat 121)))),p_ 1 15 (m_ 16)]) (.cond (.t 15) (g_ 3 [p_ 0 17 (m_ 2),p_ 1 18 (f_ 2 3),bl 2 (.st 1 (.t 18) (.t 17))]) (.seq (g_ 2 [p_ 0 20 (.bin 3 4 (.t 7) (.c (.int 1 (.ofNat 109)))),p_ 1 19 (m_ 20)]) (.cond (.t 19) (g_ 3 [p_ 0 21 (m_ 2),p_ 1 22 (f_ 5 3),bl 2 (.st 1 (.t 22) (.t 21))]) (.seq (g_ 2 [p_ 0 24 (.bin 3 4 (.t 7) (.c (.int 1 (.ofNat 105)))),p_ 1 23 (m_ 24)]) (.cond (.t 23) (g_ 3 [p_ 0 25 (m_ 2),p_ 1 26 (f_ 3 3),bl 2 (.st 1 (.t 26) (.t 25))]) (.seq (g_ 2 [p_ 0 28 (.bin 3 4 (.t 7) (.c (.int 1 (.ofNat 97)))),p_ 1 27 (m_ 28)]) (.cond (.t 27) (g_ 3 [p_ 0 29 (m_ 2),p_ 1 30 (f_ 4 3),bl 2 (.st 1 (.t 30) (.t 29))]) (g_ 4 [p_ 0 8 (m_ 2),p_ 1 9 (.cnv 3 (.t 8)),p_ 2 10 (f_ 6 3),bl 3 (.st 1 (.t 10) (.t 9))]))))))))))))) (.seq (g_ 2 [r_ 0 31 (.ld true 9 (.t 3)),bl 1 (.st 9 (.t 6) (.t 31))]) .ret)))
theorem YK:bi 52 YL:=⟨by kernel_rfl,by kernel_rfl⟩
def YJ:XF:=.mk 14 (.cell 2 true 5) (.seq (g_ 2 [e_ 0 1 (.box 124 (.t 0)),e_ 1 2 (.al 118 [(.int 1 (.ofNat 0)),(.int 1 (.ofNat 0)),(.str []),(.str []),(o_ 0)])]) (.seq (g_ 12 [p_ 0 3 (f_ 0 1),r_ 1 4 (l_ 3),p_ 2 5 (f_ 1 1),r_ 3 6 (l_ 5),p_ 4 7 (f_ 2 1),r_ 5 8 (l_ 7),p_ 6 9 (f_ 3 1),r_ 7 10 (l_ 9),p_ 8 11 (f_ 4 1),r_ 9 12 (l_ 11),p_ 10 13 (.bld [(.int 1 (.ofNat 0)),(.int 1 (.ofNat 0)),(.str []),(.str []),(o_ 0)] [(0,1),(1,1),(2,1),(3,1),(4,1)] [(.t 4),(.t 6),(.t 8),(.t 10),(.t 12)]),bl 11 (.st 5 (.t 2) (.t 13))]) .ret))
theorem YI:bi 56 YJ:=⟨by kernel_rfl,by kernel_rfl⟩
def YH:XF:=.mk 8 (.one 4) (.seq (g_ 1 [p_ 0 4 (.mv (.c (.str [])))]) (.seq (g_ 4 [p_ 0 5 (m_ 0),p_ 1 6 (m_ 1),c_ 2 7 90 [(.t 5),(.t 6)],p_ 3 4 (m_ 7)]) .ret))
theorem YG:bi 61 YH:=⟨by kernel_rfl,by kernel_rfl⟩
def YF:XF:=.mk 14 (.one 2) (.seq (g_ 1 [p_ 0 2 (.mv (.c (.str [])))]) (.seq (g_ 3 [p_ 0 4 (.bld [(.str []),(.str []),(.str []),(.str []),(.str []),(.str []),(.str []),(.str []),(.str []),(.str []),(.str []),(.str [])] [(0,1),(1,1),(2,1),(3,1),(4,1),(5,1),(6,1),(7,1),(8,1),(9,1),(10,1),(11,1)] [(.c (.str [105,110,118,111,107,101])),(.c (.str [115,108,97,121])),(.c (.str [100,101,108,105,118,101,114])),(.c (.str [100,114,111,112])),(.c (.str [116,119,105,99,101])),(.c (.str [115,112,111,105,108])),(.c (.str [116,105,99,107])),(.c (.str [115,117,115,112,101,99,116])),(.c (.str [99,114,97,115,104])),(.c (.str [114,101,115,116,97,114,116])),(.c (.str [106,111,105,110])),(.c (.str [108,101,97,118,101]))]),e_ 1 3 (.al 154 [(.str []),(.str []),(.str []),(.str []),(.str []),(.str []),(.str []),(.str []),(.str []),(.str []),(.str []),(.str [])]),bl 2 (.st 12 (.t 3) (.t 4))]) (.seq (.seq (g_ 6 [p_ 0 5 (m_ 0),p_ 1 6 (.bin 3 0 (.t 5) (i_ 0)),p_ 2 7 (m_ 6),aj 3 8 7 false (m_ 0),aj 4 9 7 false (.bin 3 3 (.t 8) (i_ 12)),p_ 5 10 (.pick (.t 7) (.c (.bool true)) (.t 9))]) (.cond (.t 10) (.seq (g_ 1 [p_ 0 2 (.mv (.c (.str [])))]) .ret) .skip)) (.seq (g_ 4 [p_ 0 11 (m_ 0),p_ 1 12 (.ixa 12 1 (.t 3) (.t 11)),r_ 2 13 (l_ 12),p_ 3 2 (m_ 13)]) .ret))))
theorem YE:bi 62 YF:=⟨by kernel_rfl,by kernel_rfl⟩
def YD:XF:=.mk 47 (.one 2) (.seq (g_ 1 [p_ 0 2 (.mv (.c .nilS))]) (.seq (.seq (g_ 4 [p_ 0 3 (m_ 0),p_ 1 4 (n_ 3),p_ 2 5 (f_ 0 4),r_ 3 6 (l_ 5)]) (.block 2 (.seq (g_ 2 [p_ 0 8 (.bin 3 4 (.t 6) (i_ 0)),p_ 1 7 (m_ 8)]) (.cond (.t 7) (.seq (h_ 8 [p_ 0 9 (m_ 0),p_ 1 10 (n_ 9),p_ 2 11 (f_ 1 10),p_ 3 12 (m_ 0),p_ 4 13 (n_ 12),p_ 5 14 (f_ 5 13),e_ 6 15 (.bsl 104 1 2 [.nilP,.nilP] [(0,1),(1,1)] [(.t 11),(.t 14)]),p_ 7 2 (m_ 15)]) .ret) (.seq (.seq (g_ 2 [p_ 0 17 (.bin 3 4 (.t 6) (i_ 1)),p_ 1 16 (m_ 17)]) (.cond (.t 16) .skip (g_ 2 [p_ 0 18 (.bin 3 4 (.t 6) (i_ 7)),p_ 1 16 (m_ 18)]))) (.cond (.t 16) (.seq (h_ 8 [p_ 0 19 (m_ 0),p_ 1 20 (n_ 19),p_ 2 21 (f_ 1 20),p_ 3 22 (m_ 0),p_ 4 23 (n_ 22),p_ 5 24 (f_ 2 23),e_ 6 25 (.bsl 104 1 2 [.nilP,.nilP] [(0,1),(1,1)] [(.t 21),(.t 24)]),p_ 7 2 (m_ 25)]) .ret) (.seq (.seq (g_ 2 [p_ 0 27 (.bin 3 4 (.t 6) (i_ 2)),p_ 1 26 (m_ 27)]) (.cond (.t 26) .skip (.seq (g_ 2 [p_ 0 28 (.bin 3 4 (.t 6) (i_ 3)),p_ 1 26 (m_ 28)]) (.cond (.t 26) .skip (g_ 2 [p_ 0 29 (.bin 3 4 (.t 6) (i_ 4)),p_ 1 26 (m_ 29)]))))) (.cond (.t 26) (.seq (g_ 5 [p_ 0 30 (m_ 0),p_ 1 31 (n_ 30),p_ 2 32 (f_ 3 31),e_ 3 33 (.bsl 104 1 1 [.nilP] [(0,1)] [.t 32]),p_ 4 2 (m_ 33)]) .ret) (.seq (g_ 2 [p_ 0 35 (.bin 3 4 (.t 6) (i_ 5)),p_ 1 34 (m_ 35)]) (.cond (.t 34) (.seq (h_ 8 [p_ 0 36 (m_ 0),p_ 1 37 (n_ 36),p_ 2 38 (f_ 3 37),p_ 3 39 (m_ 0),p_ 4 40 (n_ 39),p_ 5 41 (f_ 4 40),e_ 6 42 (.bsl 104 1 2 [.nilP,.nilP] [(0,1),(1,1)] [(.t 38),(.t 41)]),p_ 7 2 (m_ 42)]) .ret) .skip)))))))))) (.seq (g_ 5 [p_ 0 43 (m_ 0),p_ 1 44 (n_ 43),p_ 2 45 (f_ 1 44),e_ 3 46 (.bsl 104 1 1 [.nilP] [(0,1)] [.t 45]),p_ 4 2 (m_ 46)]) .ret)))
theorem YC:bi 63 YD:=⟨by kernel_rfl,by kernel_rfl⟩
def YB:XF:=.mk 19 (.one 4) (.seq (g_ 1 [p_ 0 4 (.mv (i_ 0))]) (.seq (.seq (g_ 3 [p_ 0 6 (m_ 0),p_ 1 7 (k_ 6),p_ 2 8 (.mv (i_ 0))]) (.block 2 (.loop [0,1,4,5,7,8,9,10,11,12,13,14,15,16,17,18] (.seq (g_ 1 [p_ 0 9 (.bin 3 0 (.t 8) (.t 7))]) (.seq (.cond (.t 9) .skip (.exit 2)) (.seq (.block 3 (.seq (g_ 2 [p_ 0 10 (m_ 8),p_ 1 5 (m_ 10)]) (.seq (g_ 6 [p_ 0 11 (m_ 1),p_ 1 12 (m_ 0),p_ 2 13 (m_ 5),p_ 3 14 (.ixs 9 (.t 12) (.t 13)),r_ 4 15 (.ld true 9 (.t 14)),.k 5 (some 16) none 11 [39] [.t 15]]) (.cond (.t 16) (.seq (g_ 2 [p_ 0 17 (m_ 5),p_ 1 4 (m_ 17)]) .ret) .skip)))) (g_ 2 [p_ 0 18 (.bin 0 0 (.t 8) (i_ 1)),p_ 1 8 (m_ 18)]))))))) (.seq (g_ 1 [p_ 0 4 (.mv (.c (.int 0 (.negSucc 0))))]) .ret)))
theorem YA:bi 66 YB:=⟨by kernel_rfl,by kernel_rfl⟩
def Yz:XF:=.mk 45 (.cell 2 true 9) (.seq (g_ 2 [e_ 0 1 (.box 54 (.t 0)),e_ 1 2 (.al 54 [(o_ 0),(o_ 0),(o_ 0),(o_ 0),(o_ 0),(o_ 0),(.int 3 (.ofNat 0)),(.int 1 (.ofNat 0)),.nilS])]) (.seq (g_ 5 [p_ 0 7 (f_ 0 1),r_ 1 8 (l_ 7),p_ 2 9 (.bld [(o_ 0),(o_ 0),(o_ 0),(o_ 0),(o_ 0),(o_ 0),(.int 3 (.ofNat 0)),(.int 1 (.ofNat 0)),.nilS] [(0,1)] [.t 8]),e_ 3 3 (.al 54 [(o_ 0),(o_ 0),(o_ 0),(o_ 0),(o_ 0),(o_ 0),(.int 3 (.ofNat 0)),(.int 1 (.ofNat 0)),.nilS]),bl 4 (.st 9 (.t 3) (.t 9))]) (.seq (g_ 4 [c_ 0 10 63 [.t 1],c_ 1 11 63 [.t 3],p_ 2 4 (m_ 10),p_ 3 5 (m_ 11)]) (.seq (.seq (g_ 3 [p_ 0 12 (m_ 5),p_ 1 13 (k_ 12),p_ 2 14 (.mv (i_ 0))]) (.block 2 (.loop [1,2,3,4,5,6,13,14,15,16,17,18,19,20,21,22,23,24,25,26,27,28,29,30,31,32,33,34,35,36,37,38,39,40,41,42,43,44] (.seq (g_ 1 [p_ 0 15 (.bin 3 0 (.t 14) (.t 13))]) (.seq (.cond (.t 15) .skip (.exit 2)) (.seq (.block 3 (.seq (g_ 2 [p_ 0 16 (m_ 14),p_ 1 6 (m_ 16)]) (h_ 12 [p_ 0 17 (m_ 5),p_ 1 18 (m_ 6),p_ 2 19 (.ixs 1 (.t 17) (.t 18)),r_ 3 20 (l_ 19),p_ 4 21 (m_ 4),p_ 5 22 (m_ 6),p_ 6 23 (.ixs 1 (.t 21) (.t 22)),r_ 7 24 (l_ 23),p_ 8 25 (n_ 24),r_ 9 26 (l_ 25),p_ 10 27 (n_ 20),bl 11 (.st 1 (.t 27) (.t 26))]))) (g_ 2 [p_ 0 28 (.bin 0 0 (.t 14) (i_ 1)),p_ 1 14 (m_ 28)]))))))) (.seq (.seq (g_ 2 [p_ 0 29 (f_ 0 1),r_ 1 30 (l_ 29)]) (.block 4 (.seq (g_ 2 [p_ 0 32 (.bin 3 4 (.t 30) (i_ 5)),p_ 1 31 (m_ 32)]) (.cond (.t 31) (g_ 4 [p_ 0 33 (f_ 6 1),r_ 1 34 (l_ 33),p_ 2 35 (f_ 6 3),bl 3 (.st 1 (.t 35) (.t 34))]) (.seq (g_ 2 [p_ 0 37 (.bin 3 4 (.t 30) (i_ 0)),p_ 1 36 (m_ 37)]) (.cond (.t 36) (g_ 8 [p_ 0 38 (f_ 7 1),r_ 1 39 (l_ 38),p_ 2 40 (f_ 8 1),r_ 3 41 (l_ 40),p_ 4 42 (f_ 7 3),bl 5 (.st 1 (.t 42) (.t 39)),p_ 6 43 (f_ 8 3),bl 7 (.st 1 (.t 43) (.t 41))]) .skip)))))) (.seq (g_ 2 [r_ 0 44 (.ld true 9 (.t 3)),bl 1 (.st 9 (.t 2) (.t 44))]) .ret))))))
theorem Yy:bi 67 Yz:=⟨by kernel_rfl,by kernel_rfl⟩
def Yx:XF:=.mk 14 (.one 2) (.seq (g_ 1 [p_ 0 2 (.mv (.c (.bool false)))]) (.seq (.seq (g_ 8 [p_ 0 3 (m_ 0),p_ 1 4 (k_ 3),p_ 2 5 (.bin 3 0 (.t 4) (i_ 1)),p_ 3 6 (m_ 5),aj 4 7 6 false (m_ 0),aj 5 8 6 false (k_ 7),aj 6 9 6 false (.bin 3 2 (.t 8) (i_ 4)),p_ 7 10 (.pick (.t 6) (.c (.bool true)) (.t 9))]) (.cond (.t 10) (.seq (g_ 1 [p_ 0 2 (.mv (.c (.bool false)))]) .ret) .skip)) (.seq (g_ 4 [p_ 0 11 (m_ 0),c_ 1 12 69 [(.t 11),(.f 94)],p_ 2 13 (.un 0 (.t 12)),p_ 3 2 (m_ 13)]) .ret)))
theorem Yw:bi 68 Yx:=⟨by kernel_rfl,by kernel_rfl⟩
def Yv:XF:=.mk 9 (.one 4) (.seq (g_ 1 [p_ 0 4 (.mv (.c (.bool false)))]) (.seq (g_ 5 [p_ 0 5 (m_ 0),p_ 1 6 (m_ 1),c_ 2 7 96 [(.t 5),(.t 6)],p_ 3 8 (.bin 3 3 (.t 7) (i_ 0)),p_ 4 4 (m_ 8)]) .ret))
theorem Yu:bi 69 Yv:=⟨by kernel_rfl,by kernel_rfl⟩
def Yt:XF:=.mk 6 (.one 2) (.seq (g_ 2 [e_ 0 1 (.box 124 (.t 0)),p_ 1 2 (.mv (.c (.bool false)))]) (.seq (g_ 4 [r_ 0 3 (.ld true 5 (.t 1)),c_ 1 4 71 [.t 3],p_ 2 5 (.un 0 (.t 4)),p_ 3 2 (m_ 5)]) .ret))
theorem Ys:bi 70 Yt:=⟨by kernel_rfl,by kernel_rfl⟩
def Yr:XF:=.mk 20 (.one 2) (.seq (g_ 2 [e_ 0 1 (.box 124 (.t 0)),p_ 1 2 (.mv (.c (.bool false)))]) (.seq (g_ 18 [r_ 0 3 (.ld true 5 (.t 1)),c_ 1 4 95 [.t 3],p_ 2 5 (m_ 4),aj 3 6 5 true (f_ 2 1),aT 4 7 5 true (l_ 6),fX 5 8 5 true 97 [.t 7],p_ 6 9 (.pick (.t 5) (.t 8) (.c (.bool false))),p_ 7 10 (m_ 9),aj 8 11 10 true (f_ 1 1),aT 9 12 10 true (l_ 11),aj 10 13 10 true (.bin 3 5 (.t 12) (.c (.int 1 (.ofNat 1)))),aj 11 14 10 true (m_ 13),aj 12 15 14 false (f_ 3 1),aT 13 16 14 false (l_ 15),fX 14 17 14 false 97 [.t 16],aj 15 18 10 true (.pick (.t 14) (.c (.bool true)) (.t 17)),p_ 16 19 (.pick (.t 10) (.t 18) (.c (.bool false))),p_ 17 2 (m_ 19)]) .ret))
theorem Yq:bi 71 Yr:=⟨by kernel_rfl,by kernel_rfl⟩
def Yp:XF:=.mk 8 (.one 4) (.seq (g_ 1 [p_ 0 4 (.mv (.c (.bool false)))]) (.seq (g_ 4 [p_ 0 5 (m_ 0),p_ 1 6 (m_ 1),c_ 2 7 98 [(.t 5),(.t 6)],p_ 3 4 (m_ 7)]) .ret))
theorem Yo:bi 73 Yp:=⟨by kernel_rfl,by kernel_rfl⟩
def Yn:XF:=.mk 13 (.one 2) (.seq (g_ 1 [p_ 0 2 (.mv (i_ 0))]) (.seq (.seq (g_ 1 [p_ 0 4 (.mv (i_ 0))]) (.block 2 (.loop [0,2,3,4,5,6,7,8,9,10,11,12] (.seq (g_ 1 [p_ 0 5 (.bin 3 0 (.t 4) (i_ 12))]) (.seq (.cond (.t 5) .skip (.exit 2)) (.seq (.block 3 (.seq (g_ 2 [p_ 0 6 (m_ 4),p_ 1 3 (m_ 6)]) (.seq (g_ 4 [p_ 0 7 (m_ 3),c_ 1 8 62 [.t 7],p_ 2 9 (m_ 0),p_ 3 10 (.bin 5 0 (.t 8) (.t 9))]) (.cond (.t 10) (.seq (g_ 2 [p_ 0 11 (m_ 3),p_ 1 2 (m_ 11)]) .ret) .skip)))) (g_ 2 [p_ 0 12 (.bin 0 0 (.t 4) (i_ 1)),p_ 1 4 (m_ 12)]))))))) (.seq (g_ 1 [p_ 0 2 (.mv (.c (.int 0 (.negSucc 0))))]) .ret)))
theorem Ym:bi 77 Yn:=⟨by kernel_rfl,by kernel_rfl⟩
def Yl:XF:=.mk 16 (.one 2) (.seq (g_ 1 [p_ 0 2 (.mv (.c (.bool false)))]) (.seq (g_ 14 [p_ 0 3 (m_ 0),p_ 1 4 (n_ 3),p_ 2 5 (f_ 1 4),r_ 3 6 (l_ 5),p_ 4 7 (.un 0 (.t 6)),p_ 5 8 (m_ 7),aj 6 9 8 true (m_ 0),aj 7 10 8 true (n_ 9),aj 8 11 8 true (f_ 0 10),aT 9 12 8 true (l_ 11),aj 10 13 8 true (k_ 12),aj 11 14 8 true (.bin 3 4 (.t 13) (i_ 0)),p_ 12 15 (.pick (.t 8) (.t 14) (.c (.bool false))),p_ 13 2 (m_ 15)]) .ret))
theorem Yk:bi 82 Yl:=⟨by kernel_rfl,by kernel_rfl⟩
def Yj:XF:=.mk 29 (.one 4) (.seq (g_ 2 [e_ 0 2 (.box 79 (.t 0)),p_ 1 4 (.mv (i_ 0))]) (.seq (.seq (g_ 1 [p_ 0 5 (m_ 1)]) (.block 2 (.seq (g_ 2 [p_ 0 7 (.bin 3 4 (.t 5) (.c (.int 1 (.ofNat 120)))),p_ 1 6 (m_ 7)]) (.cond (.t 6) (.seq (g_ 3 [p_ 0 8 (f_ 1 2),r_ 1 9 (l_ 8),p_ 2 4 (m_ 9)]) .ret) (.seq (g_ 2 [p_ 0 11 (.bin 3 4 (.t 5) (.c (.int 1 (.ofNat 121)))),p_ 1 10 (m_ 11)]) (.cond (.t 10) (.seq (g_ 3 [p_ 0 12 (f_ 2 2),r_ 1 13 (l_ 12),p_ 2 4 (m_ 13)]) .ret) (.seq (g_ 2 [p_ 0 15 (.bin 3 4 (.t 5) (.c (.int 1 (.ofNat 109)))),p_ 1 14 (m_ 15)]) (.cond (.t 14) (.seq (g_ 3 [p_ 0 16 (f_ 5 2),r_ 1 17 (l_ 16),p_ 2 4 (m_ 17)]) .ret) (.seq (g_ 2 [p_ 0 19 (.bin 3 4 (.t 5) (.c (.int 1 (.ofNat 105)))),p_ 1 18 (m_ 19)]) (.cond (.t 18) (.seq (g_ 3 [p_ 0 20 (f_ 3 2),r_ 1 21 (l_ 20),p_ 2 4 (m_ 21)]) .ret) (.seq (g_ 2 [p_ 0 23 (.bin 3 4 (.t 5) (.c (.int 1 (.ofNat 97)))),p_ 1 22 (m_ 23)]) (.cond (.t 22) (.seq (g_ 3 [p_ 0 24 (f_ 4 2),r_ 1 25 (l_ 24),p_ 2 4 (m_ 25)]) .ret) .skip)))))))))))) (.seq (g_ 4 [p_ 0 26 (f_ 6 2),r_ 1 27 (l_ 26),p_ 2 28 (.cnv 0 (.t 27)),p_ 3 4 (m_ 28)]) .ret)))
theorem Yi:bi 85 Yj:=⟨by kernel_rfl,by kernel_rfl⟩
def Yh:XF:=.mk 32 (.one 4) (.seq (g_ 1 [p_ 0 4 (.mv (.c (.str [])))]) (.seq (.seq (g_ 2 [p_ 0 9 (m_ 1),p_ 1 10 (.bin 3 4 (.t 9) (i_ 10))]) (.cond (.t 10) (.seq (.seq (g_ 2 [p_ 0 11 (m_ 0),p_ 1 12 (.bin 3 0 (.t 11) (.c (.int 4 (.ofNat 100))))]) (.cond (.t 12) (.seq (g_ 4 [p_ 0 13 (m_ 0),p_ 1 14 (.cnv 0 (.t 13)),c_ 2 15 107 [.t 14],p_ 3 4 (m_ 15)]) .ret) .skip)) (.seq (g_ 1 [e_ 0 5 (.al 164 [(.int 1 (.ofNat 0)),(.int 1 (.ofNat 0)),(.int 1 (.ofNat 0)),(.int 1 (.ofNat 0)),(.int 1 (.ofNat 0)),(.int 1 (.ofNat 0)),(.int 1 (.ofNat 0)),(.int 1 (.ofNat 0)),(.int 1 (.ofNat 0)),(.int 1 (.ofNat 0)),(.int 1 (.ofNat 0)),(.int 1 (.ofNat 0)),(.int 1 (.ofNat 0)),(.int 1 (.ofNat 0)),(.int 1 (.ofNat 0)),(.int 1 (.ofNat 0)),(.int 1 (.ofNat 0)),(.int 1 (.ofNat 0)),(.int 1 (.ofNat 0)),(.int 1 (.ofNat 0)),(.int 1 (.ofNat 0)),(.int 1 (.ofNat 0)),(.int 1 (.ofNat 0)),(.int 1 (.ofNat 0))])]) (.seq (g_ 3 [p_ 0 16 (m_ 0),c_ 1 17 108 [.t 16],p_ 2 6 (m_ 17)]) (.seq (g_ 4 [p_ 0 18 (m_ 6),p_ 1 19 .bad,p_ 2 20 (m_ 0),c_ 3 21 109 [(.t 19),(.t 20)]]) (.seq (g_ 4 [p_ 0 22 (m_ 6),p_ 1 23 .bad,p_ 2 24 .bad,p_ 3 4 (m_ 24)]) .ret))))) .skip)) (.seq (g_ 8 [p_ 0 26 (m_ 0),p_ 1 27 (m_ 1),c_ 2 28 110 [(.c .nilS),(.t 26),(.t 27),(.c (.bool false)),(.c (.bool false))],p_ 3 25 (m_ 28),p_ 4 29 (.ext 0 (.t 25)),p_ 5 30 (.ext 1 (.t 25)),p_ 6 7 (m_ 29),p_ 7 8 (m_ 30)]) (.seq (g_ 2 [p_ 0 31 (m_ 8),p_ 1 4 (m_ 31)]) .ret))))
theorem Yg:bi 90 Yh:=⟨by kernel_rfl,by kernel_rfl⟩
def Yf:XF:=.mk 7 (.one 2) (.seq (g_ 1 [p_ 0 2 (.mv (.c (.str [])))]) (.seq (g_ 5 [p_ 0 3 (.bld [(.str []),(.str []),(.str []),(.str []),(.str [])] [(0,1),(1,1),(2,1),(3,1),(4,1)] [(.c (.str [114,101,97,100])),(.c (.str [119,114,105,116,101])),(.c (.str [97,100,100])),(.c (.str [116,97,107,101])),(.c (.str [101,114,97,115,101]))]),p_ 1 4 (m_ 0),p_ 2 5 (.mx false (.t 4) (.c (.int 1 (.ofNat 4)))),p_ 3 6 (.ixv false 5 1 (.t 3) (.t 5)),p_ 4 2 (m_ 6)]) .ret))
theorem Ye:bi 91 Yf:=⟨by kernel_rfl,by kernel_rfl⟩
def Yd:XF:=.mk 6 (.one 2) (.seq (g_ 2 [e_ 0 1 (.box 124 (.t 0)),p_ 1 2 (.mv (.c (.bool false)))]) (.seq (g_ 4 [r_ 0 3 (.ld true 5 (.t 1)),c_ 1 4 95 [.t 3],p_ 2 5 (.un 0 (.t 4)),p_ 3 2 (m_ 5)]) .ret))
theorem Yc:bi 94 Yd:=⟨by kernel_rfl,by kernel_rfl⟩
def Yb:XF:=.mk 26 (.one 4) (.seq (g_ 1 [p_ 0 4 (.mv (.c (.bool false)))]) (.seq (.seq (g_ 5 [p_ 0 6 (m_ 0),p_ 1 7 (k_ 6),p_ 2 8 (m_ 1),p_ 3 9 (k_ 8),p_ 4 10 (.bin 3 5 (.t 7) (.t 9))]) (.cond (.t 10) (.seq (g_ 1 [p_ 0 4 (.mv (.c (.bool false)))]) .ret) .skip)) (.seq (.seq (g_ 3 [p_ 0 11 (m_ 0),p_ 1 12 (k_ 11),p_ 2 13 (.mv (i_ 0))]) (.block 2 (.loop [0,1,4,5,12,13,14,15,16,17,18,19,20,21,22,23,24,25] (.seq (g_ 1 [p_ 0 14 (.bin 3 0 (.t 13) (.t 12))]) (.seq (.cond (.t 14) .skip (.exit 2)) (.seq (.block 3 (.seq (g_ 2 [p_ 0 15 (m_ 13),p_ 1 5 (m_ 15)]) (.seq (h_ 9 [p_ 0 16 (m_ 0),p_ 1 17 (m_ 5),p_ 2 18 (.ixs 5 (.t 16) (.t 17)),r_ 3 19 (.ld true 5 (.t 18)),p_ 4 20 (m_ 1),p_ 5 21 (m_ 5),p_ 6 22 (.ixs 5 (.t 20) (.t 21)),r_ 7 23 (.ld true 5 (.t 22)),p_ 8 24 (.eqs true 2 (.st [(0,1,false,.int),(1,1,false,.int),(2,1,false,.str),(3,1,false,.str),(4,1,false,.int)]) (.t 19) (.t 23))]) (.cond (.t 24) (.seq (g_ 1 [p_ 0 4 (.mv (.c (.bool false)))]) .ret) .skip)))) (g_ 2 [p_ 0 25 (.bin 0 0 (.t 13) (i_ 1)),p_ 1 13 (m_ 25)]))))))) (.seq (g_ 1 [p_ 0 4 (.mv (.c (.bool true)))]) .ret))))
theorem Ya:bi 98 Yb:=⟨by kernel_rfl,by kernel_rfl⟩
def Um:XF:=.mk 39 (.one 2) (.seq (g_ 2 [e_ 0 1 (.box 124 (.t 0)),p_ 1 2 (.mv (.c (.bool false)))]) (.seq (.seq (g_ 2 [p_ 0 3 (f_ 1 1),r_ 1 4 (l_ 3)]) (.block 2 (.seq (.block 6 (.block 5 (.seq (.block 4 (.seq (.block 3 (.seq (.seq (.seq (g_ 2 [p_ 0 6 (.bin 3 4 (.t 4) (.c (.int 1 (.ofNat 1)))),p_ 1 5 (m_ 6)]) (.cond (.t 5) (.exit 3) .skip)) (.seq (.seq (.seq (g_ 2 [p_ 0 8 (.bin 3 4 (.t 4) (.c (.int 1 (.ofNat 2)))),p_ 1 7 (m_ 8)]) (.cond (.t 7) .skip (g_ 2 [p_ 0 9 (.bin 3 4 (.t 4) (.c (.int 1 (.ofNat 3)))),p_ 1 7 (m_ 9)]))) (.cond (.t 7) (.exit 4) .skip)) (.seq (.seq (g_ 2 [p_ 0 11 (.bin 3 4 (.t 4) (.c (.int 1 (.ofNat 0)))),p_ 1 10 (m_ 11)]) (.cond (.t 10) (.exit 5) .skip)) (.seq (g_ 2 [p_ 0 13 (.bin 3 4 (.t 4) (.c (.int 1 (.ofNat 4)))),p_ 1 12 (m_ 13)]) (.cond (.t 12) (.exit 6) .skip))))) (.exit 2))) (.seq (.seq (g_ 10 [p_ 0 14 (f_ 3 1),r_ 1 15 (l_ 14),p_ 2 16 (.len 0 (.t 15)),p_ 3 17 (.bin 3 1 (.t 16) (i_ 64)),p_ 4 18 (m_ 17),aj 5 19 18 true (f_ 4 1),aT 6 20 18 true (l_ 19),aj 7 21 18 true (.bin 3 4 (.t 20) (i_ 0)),p_ 8 22 (.pick (.t 18) (.t 21) (.c (.bool false))),p_ 9 2 (m_ 22)]) .ret) (.exit 2)))) (.seq (.seq (g_ 9 [p_ 0 23 (f_ 3 1),r_ 1 24 (l_ 23),p_ 2 25 (.bin 5 0 (.t 24) (.c (.str []))),p_ 3 26 (m_ 25),aj 4 27 26 true (f_ 4 1),aT 5 28 26 true (l_ 27),aj 6 29 26 true (.bin 3 3 (.t 28) (i_ 0)),p_ 7 30 (.pick (.t 26) (.t 29) (.c (.bool false))),p_ 8 2 (m_ 30)]) .ret) (.exit 2))))) (.seq (.seq (g_ 9 [p_ 0 31 (f_ 3 1),r_ 1 32 (l_ 31),p_ 2 33 (.bin 5 0 (.t 32) (.c (.str []))),p_ 3 34 (m_ 33),aj 4 35 34 true (f_ 4 1),aT 5 36 34 true (l_ 35),aj 6 37 34 true (.bin 3 4 (.t 36) (i_ 0)),p_ 7 38 (.pick (.t 34) (.t 37) (.c (.bool false))),p_ 8 2 (m_ 38)]) .ret) (.exit 2))))) (.seq (g_ 1 [p_ 0 2 (.mv (.c (.bool false)))]) .ret)))
theorem Vj:bi 112 Um:=⟨by kernel_rfl,by kernel_rfl⟩
noncomputable def PM (f:Nat):Option XF:=(Bool.rec (Bool.rec (Bool.rec (Bool.rec (Bool.rec (Bool.rec (Bool.rec none (some Um) (Nat.beq f 112)) (Bool.rec none (some Yb) (Nat.beq f 98)) (Nat.blt f 112)) (Bool.rec none (some Yd) (Nat.beq f 94)) (Nat.blt f 98)) (Bool.rec (Bool.rec none (some Yf) (Nat.beq f 91)) (Bool.rec none (some Yh) (Nat.beq f 90)) (Nat.blt f 91)) (Nat.blt f 94)) (Bool.rec (Bool.rec (Bool.rec (Bool.rec none (some Yj) (Nat.beq f 85)) (Bool.rec none (some Yl) (Nat.beq f 82)) (Nat.blt f 85)) (Bool.rec none (some Yn) (Nat.beq f 77)) (Nat.blt f 82)) (Bool.rec (Bool.rec none (some Yp) (Nat.beq f 73)) (Bool.rec none (some Yr) (Nat.beq f 71)) (Nat.blt f 73)) (Nat.blt f 77)) (Nat.blt f 90)) (Bool.rec (Bool.rec (Bool.rec (Bool.rec (Bool.rec none (some Yt) (Nat.beq f 70)) (Bool.rec none (some Yv) (Nat.beq f 69)) (Nat.blt f 70)) (Bool.rec none (some Yx) (Nat.beq f 68)) (Nat.blt f 69)) (Bool.rec (Bool.rec none (some Yz) (Nat.beq f 67)) (Bool.rec none (some YB) (Nat.beq f 66)) (Nat.blt f 67)) (Nat.blt f 68)) (Bool.rec (Bool.rec (Bool.rec (Bool.rec none (some YD) (Nat.beq f 63)) (Bool.rec none (some YF) (Nat.beq f 62)) (Nat.blt f 63)) (Bool.rec none (some YH) (Nat.beq f 61)) (Nat.blt f 62)) (Bool.rec (Bool.rec none (some YJ) (Nat.beq f 56)) (Bool.rec none (some YL) (Nat.beq f 52)) (Nat.blt f 56)) (Nat.blt f 61)) (Nat.blt f 66)) (Nat.blt f 71)) (Bool.rec (Bool.rec (Bool.rec (Bool.rec (Bool.rec (Bool.rec none (some YN) (Nat.beq f 51)) (Bool.rec none (some YP) (Nat.beq f 43)) (Nat.blt f 51)) (Bool.rec none (some YR) (Nat.beq f 40)) (Nat.blt f 43)) (Bool.rec (Bool.rec none (some YT) (Nat.beq f 39)) (Bool.rec none (some YV) (Nat.beq f 38)) (Nat.blt f 39)) (Nat.blt f 40)) (Bool.rec (Bool.rec (Bool.rec (Bool.rec none (some YX) (Nat.beq f 37)) (Bool.rec none (some YZ) (Nat.beq f 36)) (Nat.blt f 37)) (Bool.rec none (some Zb) (Nat.beq f 34)) (Nat.blt f 36)) (Bool.rec (Bool.rec none (some Zd) (Nat.beq f 33)) (Bool.rec none (some Zf) (Nat.beq f 32)) (Nat.blt f 33)) (Nat.blt f 34)) (Nat.blt f 38)) (Bool.rec (Bool.rec (Bool.rec (Bool.rec (Bool.rec none (some Zh) (Nat.beq f 29)) (Bool.rec none (some Zj) (Nat.beq f 26)) (Nat.blt f 29)) (Bool.rec none (some Zl) (Nat.beq f 24)) (Nat.blt f 26)) (Bool.rec (Bool.rec none (some Zn) (Nat.beq f 22)) (Bool.rec none (some Zp) (Nat.beq f 15)) (Nat.blt f 22)) (Nat.blt f 24)) (Bool.rec (Bool.rec (Bool.rec none (some Zr) (Nat.beq f 13)) (Bool.rec none (some Zt) (Nat.beq f 12)) (Nat.blt f 13)) (Bool.rec (Bool.rec none (some Zv) (Nat.beq f 11)) (Bool.rec none (some Zx) (Nat.beq f 10)) (Nat.blt f 11)) (Nat.blt f 12)) (Nat.blt f 15)) (Nat.blt f 32)) (Nat.blt f 52))
theorem br {f n:Nat} {x y:XF} (hy:bi n y) (h:(Bool.rec (motive:=fun _=>Option XF) none (some y) (Nat.beq f n))=some x):bi f x:=by
 cases hb:Nat.beq f n with
 |false=>rw[hb]at h;cases h
 |true=>rw[hb]at h;cases h;rw[acE hb];exact hy
theorem bz {f n:Nat} {a b:Option XF} {x:XF} (ha:a=some x→bi f x) (hb:b=some x→bi f x) (h:(Bool.rec (motive:=fun _=>Option XF) a b (Nat.blt f n))=some x):bi f x:=by
 cases hc:Nat.blt f n with
 |false=>rw[hc]at h;exact ha h
 |true=>rw[hc]at h;exact hb h
theorem XZ (f:Nat) (x:XF) (h:PM f=some x):bE Tryz.prog f x=true∧plain (fD x)=true:=(bz (bz (bz (bz (bz (bz (br Vj) (br Ya)) (br Yc)) (bz (br Ye) (br Yg))) (bz (bz (bz (br Yi) (br Yk)) (br Ym)) (bz (br Yo) (br Yq)))) (bz (bz (bz (bz (br Ys) (br Yu)) (br Yw)) (bz (br Yy) (br YA))) (bz (bz (bz (br YC) (br YE)) (br YG)) (bz (br YI) (br YK))))) (bz (bz (bz (bz (bz (br YM) (br YO)) (br YQ)) (bz (br YS) (br YU))) (bz (bz (bz (br YW) (br YY)) (br Za)) (bz (br Zc) (br Ze)))) (bz (bz (bz (bz (br Zg) (br Zi)) (br Zk)) (bz (br Zm) (br Zo))) (bz (bz (br Zq) (br Zs)) (bz (br Zu) (br Zw)))))) h
theorem bm:Tryz.prog.follows .mixedOrders=true:=by kernel_rfl
end Go.Proofs.Tryz
