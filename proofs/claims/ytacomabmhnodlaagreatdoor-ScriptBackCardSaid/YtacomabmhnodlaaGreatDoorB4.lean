/- Definitions and lemmas of the proof, without a condition of their own. -/
import Derived.Test.YtacomabmhnodlaaGreatDoorB3
import Derived.KernelRfl
import Derived.RangeFuncBox
import Derived.RangeFuncLeaves
import Derived.RangeFuncFrom
import Derived.Shelf.Abstract
import Derived.WalkKit
import Derived.OwnWalkIn
import Derived.TacticsInMore
import Derived.LoopNIn
import Derived.LoopIn
import Derived.Maps.RangeWalk
import Derived.Test.YtacomabmhnodlaaGreatDoorProg
import Derived.RangeFuncCalls
import Derived.Lib.IndexBytes
import Derived.Lib.Strings
open List renaming cons_append→acI,eq_nil_of_length_eq_zero→acW,flatten_cons→acG,length_append→acA,length_cons→acB,length_nil→acD,mem_of_getElem?→acF,nil_append→acK
open Option.some renaming inj→acY
open UInt8 renaming ofNat→acX
namespace Go.Proofs.Tryz
open Go Go.RowKit Go.Sy Go.Txt
structure CfR where
 clients:Int
 window:Int
 deadline:Int
 pace:Int
 again:Int
 bag:Int
 first:Int
abbrev OpK:=(Int×Int×Int×Int×Int×Int)×Int×Int×List aB
structure St where
 gs:List aw
 cf:CfR
 os:List OpK
 set:Int
def mD (c:CfR) (i z:Int):CfR:=if i=0 then {c with clients:=z} else if i=1 then {c with window:=z} else if i=2 then {c with deadline:=z} else if i=3 then {c with pace:=z} else if i=4 then {c with again:=z} else if i=5 then {c with bag:=z} else {c with first:=z}
def pz (i:Int):List UInt8:=if i=0 then [99,108,105,101,110,116,115] else if i=1 then [119,105,110,100,111,119] else if i=2 then [100,101,97,100,108,105,110,101] else if i=3 then [112,97,99,101] else if i=4 then [97,103,97,105,110] else if i=5 then [98,97,103] else [102,105,114,115,116]
def sn (i:Int):Int:=if i=6 then 18446744073709551615 else 1099511627776
def uf:List UInt8:=[103,114,111,117,112]
def HS:List UInt8:=[112,108,97,105,110]
def um:List UInt8:=[99,104,101,99,107]
noncomputable def Bm (c:Prop):List UInt8:= @ite _ c (Classical.propDecidable _) um HS
noncomputable def lA (g:aw):TX:=[uf,Lib.itoa g.f,Lib.itoa g.s,Bm g.c]
def aW (k:Int):List UInt8:=if k=0 then [105,110,118,111,107,101] else if k=1 then [115,108,97,121] else if k=2 then [100,101,108,105,118,101,114] else if k=3 then [100,114,111,112] else if k=4 then [116,119,105,99,101] else if k=5 then [115,112,111,105,108] else if k=6 then [116,105,99,107] else if k=7 then [115,117,115,112,101,99,116] else if k=8 then [99,114,97,115,104] else if k=9 then [114,101,115,116,97,114,116] else if k=10 then [106,111,105,110] else [108,101,97,118,101]
def aN (o:ax):TX:=if o.kind=0 then [Lib.itoa o.x,Lib.itoa o.mode] else if o.kind=1∨o.kind=7 then [Lib.itoa o.x,Lib.itoa o.y] else if o.kind=2∨o.kind=3∨o.kind=4 then [Lib.itoa o.i] else if o.kind=5 then [Lib.itoa o.i,Lib.itoa o.at_,Lib.itoa o.mask] else [Lib.itoa o.x]
def qC (o:ax):TX:=aW o.kind::(aN o++o.ps.map bd)
def cQ (o:ax):Prop:=cn o∧pd o
def Jf (a:St) (ws:TX) (b:St):Prop:=a.gs.length<4∧∃g,iK g∧ws=lA g∧b={a with gs:=a.gs++[g]}
def Cl (a:St) (ws:TX) (b:St):Prop:=a.gs≠[]∧∃z,(0≤z∧z≤sn a.set)∧ws=[pz a.set,Lib.itoa z]∧b={a with cf:=mD a.cf a.set z,set:=a.set+1}
def gx (a:St) (ws:TX) (b:St):Prop:=∃o,cQ o∧ws=qC o∧b={a with os:=a.os++[be o]}
def step (a:St) (w:List UInt8) (b:St):Prop:=(a.set=0∧Jf a (wds 32 w) b)∨((0≤a.set∧a.set≤6)∧Cl a (wds 32 w) b)∨(a.set=7∧gx a (wds 32 w) b)
abbrev yC:=List aw×CfR×List OpK
def UQ:CfR:=⟨0,0,0,0,0,0,0⟩
def jO:yC:=([],UQ,[])
def eF:St:=⟨[],UQ,[],0⟩
inductive dt:St→Int→List UInt8→yC→Int→Prop
 |whole (a:St) (k:Int):a.set=7→dt a k [] (a.gs,a.cf,a.os) 0
 |short (a:St) (k:Int):¬a.set=7→dt a k [] jO k
 |open_ (a:St) (k:Int) (t:List UInt8):t≠[]→(10:UInt8)∉t→dt a k t jO k
 |bad (a:St) (k:Int) (w r:List UInt8):(10:UInt8)∉w→(∀b,¬step a w b)→dt a k (w++10::r) jO k
 |good (a b:St) (k:Int) (w r:List UInt8) (o:yC) (n:Int):(10:UInt8)∉w→step a w b→dt b (k+1) r o n→dt a k (w++10::r) o n
theorem zB {b:UInt8}:∀{u v r s:List UInt8},b∉u→b∉v→u++b::r=v++b::s→u=v∧r=s
 |[],[],r,s,_,_,h=>⟨rfl,by simpa using h⟩
 |[],y::v,r,s,_,hv,h=>by
  simp only[acK,acI,List.cons.injEq]at h
  exact absurd (by rw[h.1];exact List.mem_cons_self) hv
 |x::u,[],r,s,hu,_,h=>by
  simp only[acK,acI,List.cons.injEq]at h
  exact absurd (by rw[←h.1];exact List.mem_cons_self) hu
 |x::u,y::v,r,s,hu,hv,h=>by
  simp only[acI,List.cons.injEq]at h
  obtain⟨e1,e2⟩:=zB (fun q=>hu (List.mem_cons_of_mem _ q)) (fun q=>hv (List.mem_cons_of_mem _ q)) h.2
  exact⟨by rw[h.1,e1],e2⟩
theorem nG {a b m m':Int} (ha:0≤a∧a≤m) (hb:0≤b∧b≤m') (hm:m≤18446744073709551615) (hm':m'≤18446744073709551615) (h:Lib.itoa a=Lib.itoa b):a=b:=Bi ha.1 hb.1 (by omega) (by omega) h
theorem Wu {g h:aw} (hg:iK g) (hh:iK h) (e:lA g=lA h):g=h:=by
 obtain⟨f,s,c⟩:=g
 obtain⟨f',s',c'⟩:=h
 unfold lA at e
 simp only[List.cons.injEq,true_and,and_true]at e
 obtain⟨e1,e2,e3⟩:=e
 have e4:f=f':=nG hg.1 hh.1 (by decide) (by decide) e1
 have e5:s=s':=nG hg.2 hh.2 (by decide) (by decide) e2
 have e6:c=c':=by
  unfold Bm at e3
  apply propext
  by_cases p:c
  ·rw[if_pos p]at e3
   by_cases q:c'
   ·exact⟨fun _=>q,fun _=>p⟩
   ·rw[if_neg q]at e3;exact absurd e3 (by decide)
  ·rw[if_neg p]at e3
   by_cases q:c'
   ·rw[if_pos q]at e3;exact absurd e3 (by decide)
   ·exact⟨fun r=>absurd r p,fun r=>absurd r q⟩
 rw[e4,e5,e6]
theorem SH {p q:aB} (hp:gS p) (hq:gS q) (e:bd p=bd q):p=q:=by
 have e1:dF p=dF q:=by rw[←uV hp,e,uV hq]
 obtain⟨g,k,key,val,n⟩:=p
 obtain⟨g',k',key',val',n'⟩:=q
 have hk:=uB (pQ hp.1.1) (pQ hq.1.1) (by simp only[dF,List.cons.injEq]at e1;exact e1.2.1)
 simp only at hk
 subst hk
 have hR:=hp.1.1.2.2.2
 have hS:=hq.1.1.2.2.2
 have hg:=hp.2.1
 have hg':=hq.2.1
 have hn:=hp.2.2.2
 have hn':=hq.2.2.2
 simp only at hR hS hg hg' hn hn'
 simp only[dF,List.cons.injEq,true_and]at e1
 obtain⟨e2,e3,e4⟩:=e1
 have e5:g=g':=nG hg hg' (by decide) (by decide) e2
 subst e5;subst e3
 by_cases h1:k=1
 ·rw[if_pos h1,if_pos h1]at e4
  obtain⟨rfl,rfl⟩:n=0∧n'=0:=by omega
  simp only[List.cons.injEq,and_true]at e4
  rw[e4]
 ·rw[if_neg h1,if_neg h1]at e4
  by_cases h2:k=2∨k=3
  ·rw[if_pos h2,if_pos h2]at e4
   simp only[List.cons.injEq,and_true]at e4
   have a1:val=[]∧0≤n:=by
    rcases hR with h|h|h
    ·omega
    ·exact h.2
    ·omega
   have a2:val'=[]∧0≤n':=by
    rcases hS with h|h|h
    ·omega
    ·exact h.2
    ·omega
   have e6:n=n':=nG (m:=9223372036854775807) (m':=9223372036854775807) (by omega) (by omega) (by decide) (by decide) e4
   rw[a1.1,a2.1,e6]
  ·have a1:val=[]∧n=0:=by
    rcases hR with h|h|h
    ·omega
    ·omega
    ·exact h.2
   have a2:val'=[]∧n'=0:=by
    rcases hS with h|h|h
    ·omega
    ·omega
    ·exact h.2
   rw[a1.1,a1.2,a2.1,a2.2]
theorem wU:∀{l m:List aB},(∀x∈l,gS x)→(∀x∈m,gS x)→l.map bd=m.map bd→l=m
 |[],[],_,_,_=>rfl
 |[],y::m,_,_,h=>by simp at h
 |x::l,[],_,_,h=>by simp at h
 |x::l,y::m,h1,h2,h=>by
  simp only[List.map_cons,List.cons.injEq]at h
  rw[SH (h1 x List.mem_cons_self) (h2 y List.mem_cons_self) h.1,wU (fun z hz=>h1 z (List.mem_cons_of_mem _ hz)) (fun z hz=>h2 z (List.mem_cons_of_mem _ hz)) h.2]
theorem Hp {a b:Int} (ha:0≤a∧a≤11) (hb:0≤b∧b≤11) (h:aW a=aW b):a=b:=by
 obtain e|e|e|e|e|e|e|e|e|e|e|e:a=0∨a=1∨a=2∨a=3∨a=4∨a=5∨a=6∨a=7∨a=8∨a=9∨a=10∨a=11:=by omega
 all_goals
  obtain f|f|f|f|f|f|f|f|f|f|f|f:b=0∨b=1∨b=2∨b=3∨b=4∨b=5∨b=6∨b=7∨b=8∨b=9∨b=10∨b=11:=by omega
  all_goals(subst e;subst f;first|rfl|(exact absurd h (by decide)))
theorem qD {o:ax} (h:cn o):0≤o.kind∧o.kind≤11:=Classical.not_not.1 fun q=>HV q h
theorem qB {o:ax} (h:cQ o):∀x∈o.ps,gS x:=by
 obtain⟨h,h2⟩:=h
 intro x hx
 refine⟨?_,h2.2.2.2 x hx⟩
 unfold cn at h
 rcases h with h|h|h|h|h|h|h|h|h|h|h|h
 ·exact h.2.2.2.2.2.2.2.2.2 x hx
 all_goals
  have e:o.ps=[]:=by simp only[h]
  rw[e]at hx;cases hx
theorem aan {o q:ax} (ho:cQ o) (hq:cQ q) (e:qC o=qC q):be o=be q:=by
 have hk:=Hp (qD ho.1) (qD hq.1) (by simp only[qC,List.cons.injEq]at e;exact e.1)
 have hp:=qB ho
 have hp2:=qB hq
 obtain⟨h,⟨_,_,_,_,_,_⟩,hm,_,_⟩:=ho
 obtain⟨h',⟨_,_,_,_,_,_⟩,hm',_,_⟩:=hq
 obtain⟨kind,x,y,i,a,mode,mask,grp,hs,ps⟩:=o
 obtain⟨kind',x',y',i',a',mode',mask',grp',hs',ps'⟩:=q
 simp only at hk hp hp2 hm hm'
 subst hk
 simp only[qC,List.cons.injEq,true_and]at e
 unfold cn at h h'
 simp only at h h'
 rcases h with h|h|h|h|h|h|h|h|h|h|h|h
 all_goals
  obtain⟨rfl,h⟩:=h
  simp only[aN,reduceIte,Int.reduceEq,or_true,or_false,true_or,acI,acK,List.cons.injEq]at e
  simp at h'
 ·obtain⟨e1,e2,e3⟩:=e
  obtain⟨p1,hp3,hp4⟩:=h.2.2.2.2.2.2.2.1
  obtain⟨p2,hp5,hp6⟩:=h'.2.2.2.2.2.2.2.1
  have e4:=wU hp hp2 e3
  subst e4
  rw[hp3]at hp5;cases hp5
  have e5:x=x':=nG h.2.2.2.2.1 h'.2.2.2.2.1 (by decide) (by decide) e1
  have e6:mode=mode':=nG h.2.2.2.2.2.1 h'.2.2.2.2.2.1 (by decide) (by decide) e2
  simp only[be]
  rw[e5,e6,←hp4,←hp6,h.1,h.2.1,h.2.2.1,h.2.2.2.1,h'.1,h'.2.1,h'.2.2.1,h'.2.2.2.1]
 all_goals
  have key:∀u v:Int,Lib.itoa u=Lib.itoa v→(0≤u∧u≤18446744073709551615)→(0≤v∧v≤18446744073709551615)→u=v:=fun u v h a b=>Bi a.1 b.1 a.2 b.2 h
  have p1:ps=[]:=by simp only[h]
  have p2:ps'=[]:=by simp only[h']
  simp only[p1,p2,List.map_nil,and_true]at e
  simp only[be,Prod.mk.injEq,true_and]
  refine⟨⟨?_,?_,?_,?_,?_⟩,?_,?_,p1.trans p2.symm⟩
  all_goals first
   |omega
   |exact key _ _ e (by omega) (by omega)
   |exact key _ _ e.1 (by omega) (by omega)
   |exact key _ _ e.2 (by omega) (by omega)
   |exact key _ _ e.2.1 (by omega) (by omega)
   |exact key _ _ e.2.2 (by omega) (by omega)
theorem Si {a b c:St} {w:List UInt8} (h:step a w b) (k:step a w c):b=c:=by
 rcases h with⟨s1,_,g,h1,h2,rfl⟩|⟨s1,_,z,h1,h2,rfl⟩|⟨s1,o,h1,h2,rfl⟩
 ·rcases k with⟨s2,_,g',k1,k2,rfl⟩|⟨s2,_,z',k1,k2,rfl⟩|⟨s2,o',k1,k2,rfl⟩
  ·rw[Wu h1 k1 (h2.symm.trans k2)]
  ·rw[h2]at k2
   have:=congrArg List.length k2
   simp[lA]at this
  ·omega
 ·rcases k with⟨s2,_,g',k1,k2,rfl⟩|⟨s2,_,z',k1,k2,rfl⟩|⟨s2,o',k1,k2,rfl⟩
  ·rw[h2]at k2
   have:=congrArg List.length k2
   simp[lA]at this
  ·rw[h2]at k2
   simp only[List.cons.injEq,true_and,and_true]at k2
   have hm:sn a.set≤18446744073709551615:=by unfold sn;split<;>decide
   rw[nG h1 k1 hm hm k2]
  ·omega
 ·rcases k with⟨s2,_,g',k1,k2,rfl⟩|⟨s2,_,z',k1,k2,rfl⟩|⟨s2,o',k1,k2,rfl⟩
  ·omega
  ·omega
  ·rw[aan h1 k1 (h2.symm.trans k2)]
theorem LO {a:St} {k:Int} {t:List UInt8} {o:yC} {n:Int} (h:dt a k t o n):∀{o':yC} {n':Int},dt a k t o' n'→o=o'∧n=n':=by
 have hnil:∀{w r:List UInt8},w++(10:UInt8)::r≠[]:=by intro w r;simp
 have hin:∀{w r:List UInt8},(10:UInt8)∈w++(10:UInt8)::r:=by intro w r;simp
 induction h with
 |whole a k h=>intro o' n' h';generalize ht:([]:List UInt8)=t at h';cases h' with
  |whole _ _ _=>exact⟨rfl,rfl⟩
  |short _ _ q=>exact absurd h q
  |open_ _ _ _ q _=>exact absurd ht.symm q
  |bad _ _ w r _ _=>exact absurd ht.symm hnil
  |good _ b _ w r _ _ _ _ _=>exact absurd ht.symm hnil
 |short a k h=>intro o' n' h';generalize ht:([]:List UInt8)=t at h';cases h' with
  |whole _ _ q=>exact absurd q h
  |short _ _ q=>exact⟨rfl,rfl⟩
  |open_ _ _ _ q _=>exact absurd ht.symm q
  |bad _ _ w r _ _=>exact absurd ht.symm hnil
  |good _ b _ w r _ _ _ _ _=>exact absurd ht.symm hnil
 |open_ a k t h1 h2=>intro o' n' h';cases h' with
  |whole _ _ q=>exact absurd rfl h1
  |short _ _ q=>exact absurd rfl h1
  |open_ _ _ _ q _=>exact⟨rfl,rfl⟩
  |bad _ _ w r _ _=>exact absurd hin h2
  |good _ b _ w r _ _ _ _ _=>exact absurd hin h2
 |bad a k w r h1 h2=>intro o' n' h';generalize ht:w++(10:UInt8)::r=t at h';cases h' with
  |whole _ _ q=>exact absurd ht hnil
  |short _ _ q=>exact absurd ht hnil
  |open_ _ _ _ q q2=>exact absurd (ht▸hin) q2
  |bad _ _ w' r' _ _=>exact⟨rfl,rfl⟩
  |good _ b _ w' r' _ _ q1 q2 _=>
   obtain⟨rfl,rfl⟩:=zB h1 q1 ht
   exact absurd q2 (h2 b)
 |good a b k w r o n h1 h2 h3 ih=>intro o' n' h';generalize ht:w++(10:UInt8)::r=t at h';cases h' with
  |whole _ _ q=>exact absurd ht hnil
  |short _ _ q=>exact absurd ht hnil
  |open_ _ _ _ q q2=>exact absurd (ht▸hin) q2
  |bad _ _ w' r' q1 q2=>
   obtain⟨rfl,rfl⟩:=zB h1 q1 ht
   exact absurd h2 (q2 b)
  |good _ b' _ w' r' _ _ q1 q2 q3=>
   obtain⟨rfl,rfl⟩:=zB h1 q1 ht
   obtain rfl:=Si h2 q2
   exact ih q3
end Go.Proofs.Tryz
namespace Go.Proofs.Tryz
open Go Go.RowKit Go.Sy Go.Txt
set_option linter.unusedVariables false
abbrev CK (l l1:TX) (o o1:Prop) (t:List UInt8):Prop:=l1=l.tail∧(o1↔o∨l=[]∨¬l.headD []=t)
abbrev Bc (m:Int) (l l1:TX) (o o1:Prop) (z:Int):Prop:=l1=l.tail∧(o1↔o∨¬cE m (l.headD []) z)∧((∃z,cE m (l.headD []) z)→cE m (l.headD []) z)
abbrev numN (l l1:TX) (o o1:Prop) (z:Int):Prop:=l1=l.tail∧(o1↔o∨¬cE 1099511627776 (l.headD []) z)∧((∃z,cE 1099511627776 (l.headD []) z)→cE 1099511627776 (l.headD []) z)∧ -9223372036854775808≤z∧z≤9223372036854775807
theorem numN.X {l l1:TX} {o o1:Prop} {z:Int} (h:numN l l1 o o1 z):Bc 1099511627776 l l1 o o1 z:=⟨h.1,h.2.1,h.2.2.1⟩
theorem numH.X {m:Int} {l l1:TX} {o o1:Prop} {z:Int} (h:numH l l1 o o1 m z):Bc m l l1 o o1 z:=⟨h.1,h.2.1,h.2.2.1⟩
theorem ul {l:TX} (h:l≠[]):l=l.headD []::l.tail:=by
 cases l with
 |nil=>exact absurd rfl h
 |cons a r=>rfl
theorem dy {m c z:Int} {l l1 r:TX} {o o1:Prop} (h:Bc m l l1 o o1 z) (hm:m≤18446744073709551615) (hc:0≤c∧c≤m) (ho:¬o) (hl:l=Lib.itoa c::r):c=z∧¬o1∧l1=r:=by
 obtain⟨rfl,h2,h3⟩:=h
 subst hl
 simp only[List.headD_cons,List.tail_cons]at h2 h3 ⊢
 have e:=h3 ⟨c,jo hc.1 hc.2⟩
 exact⟨tU hm hm (jo hc.1 hc.2) e,by rw[h2];simp[ho,e],trivial⟩
theorem dz {m z:Int} {l l1:TX} {o o1:Prop} (h:Bc m l l1 o o1 z) (ho:¬o1):¬o∧l=Lib.itoa z::l1∧0≤z∧z≤m:=by
 obtain⟨rfl,h2,_⟩:=h
 rw[h2,not_or,Classical.not_not]at ho
 refine⟨ho.1,?_,ho.2.1,ho.2.2.1⟩
 have e:=ul (UH ho.2)
 rw[ho.2.2.2]at e
 exact e
theorem If {l l1 r:TX} {o o1:Prop} {s c:List UInt8} (h:dp l l1 o o1 s) (ho:¬o) (hl:l=c::r):s=c∧¬o1∧l1=r:=by
 obtain⟨rfl,rfl,h2⟩:=h
 subst hl
 exact⟨rfl,by rw[h2];simp[ho],rfl⟩
theorem Ig {l l1:TX} {o o1:Prop} {s:List UInt8} (h:dp l l1 o o1 s) (ho:¬o1):¬o∧l=s::l1:=by
 obtain⟨rfl,rfl,h2⟩:=h
 rw[h2,not_or]at ho
 exact⟨ho.1,ul ho.2⟩
theorem IH {l l1 r:TX} {o o1:Prop} {t:List UInt8} (h:CK l l1 o o1 t) (ho:¬o) (hl:l=t::r):¬o1∧l1=r:=by
 obtain⟨rfl,h2⟩:=h
 subst hl
 exact⟨by rw[h2];simp[ho],rfl⟩
theorem II {l l1:TX} {o o1:Prop} {t:List UInt8} (h:CK l l1 o o1 t) (ho:¬o1):¬o∧l=t::l1:=by
 obtain⟨rfl,h2⟩:=h
 rw[h2,not_or,not_or,Classical.not_not]at ho
 refine⟨ho.1,?_⟩
 have e:=ul ho.2.1
 rw[ho.2.2]at e
 exact e
theorem Wv {a:St} {l l1 l2 l3 l4:TX} {o0 o1 o2 o3 o4 q:Prop} {s t u v:List UInt8} {y z:Int} (h1:CK l l1 o0 o1 t) (ht:t=uf) (h2:numN l1 l2 o1 o2 y) (h3:numN l2 l3 o2 o3 z) (h4:dp l3 l4 o3 o4 s) (ho:¬o0) (hu:u=um) (hv:v=HS)
  (hq:q↔(¬o4∧l4=[])∧(s=u∨s=v)∧(a.gs.length:Int)+1≤4):(q→Jf a l {a with gs:=a.gs++[⟨y,z,s=u⟩]})∧(¬q→∀b,¬Jf a l b):=by
 subst hu;subst hv;subst ht
 constructor
 ·intro hq'
  obtain⟨⟨e1,e2⟩,e3,e4⟩:=hq.1 hq'
  obtain⟨f1,f2⟩:=Ig h4 e1
  obtain⟨f3,f4,f5⟩:=dz h3.X f1
  obtain⟨f6,f7,f8⟩:=dz h2.X f3
  obtain⟨f9,f10⟩:=II h1 f6
  refine⟨by omega,⟨y,z,s=um⟩,⟨f8,f5⟩,?_,rfl⟩
  have e5:Bm (s=um)=s:=by
   unfold Bm
   by_cases hs:s=um
   ·rw[if_pos hs,hs]
   ·rw[if_neg hs]
    rcases e3 with e3|e3
    ·exact absurd e3 hs
    ·exact e3.symm
  rw[f10,f7,f4,f2,e2,lA,e5]
 ·intro hn b hb
  obtain⟨g1,g,g2,g3,_⟩:=hb
  obtain⟨f1,f2⟩:=IH h1 ho g3
  obtain⟨f3,f4,f5⟩:=dy h2.X (by decide) g2.1 f1 f2
  obtain⟨f6,f7,f8⟩:=dy h3.X (by decide) g2.2 f4 f5
  obtain⟨f9,f10,f11⟩:=If h4 f7 f8
  refine hn (hq.2 ⟨⟨f10,f11⟩,?_,by omega⟩)
  rw[f9]
  unfold Bm
  by_cases hc:g.c
  ·rw[if_pos hc];exact .inl rfl
  ·rw[if_neg hc];exact .inr rfl
theorem Vu {a:St} {l l1 l2:TX} {o0 o1 o2 q:Prop} {t:List UInt8} {z:Int} (h1:CK l l1 o0 o1 t) (ht:t=pz a.set) (h2:Bc (sn a.set) l1 l2 o1 o2 z) (ho:¬o0)
  (hq:q↔(¬o2∧l2=[])∧a.gs≠[]):(q→Cl a l {a with cf:=mD a.cf a.set z,set:=a.set+1})∧(¬q→∀b,¬Cl a l b):=by
 subst ht
 constructor
 ·intro hq'
  obtain⟨⟨e1,e2⟩,e3⟩:=hq.1 hq'
  obtain⟨f1,f2,f3⟩:=dz h2 e1
  obtain⟨f4,f5⟩:=II h1 f1
  exact⟨e3,z,f3,by rw[f5,f2,e2],rfl⟩
 ·intro hn b hb
  obtain⟨g1,y,g2,g3,_⟩:=hb
  obtain⟨f1,f2⟩:=IH h1 ho g3
  obtain⟨f3,f4,f5⟩:=dy h2 (by unfold sn;split<;>decide) g2 f1 f2
  exact hn (hq.2 ⟨⟨f4,f5⟩,g1⟩)
def eG (o:ax) (k x y i a mode mask:Int):Prop:=o.kind=k∧o.x=x∧o.y=y∧o.i=i∧o.at_=a∧o.mode=mode∧o.mask=mask
theorem jD {a b:St} {l l1 ls:TX} {o0 o1 os_ q:Prop} {w:List UInt8} {k:Int} {SN:ax→Prop} {E:Prop} (h1:dp l l1 o0 o1 w) (hk:aW k=w) (ho:¬o0) (hk0:0≤k∧k≤11)
  (hF:∀o',cQ o'→o'.kind=k→∀r,¬o1→l1=aN o'++r→SN o'∧¬os_∧ls=r)
  (hB:∀o',cQ o'→SN o'→¬os_→¬o1∧o'.kind=k∧l1=aN o'++ls)
  (hp:(q→E∧∃o',cQ o'∧SN o'∧¬os_∧ls=o'.ps.map bd∧b={a with os:=a.os++[be o']})∧(¬q→∀o',cQ o'→SN o'→¬(¬os_∧ls=o'.ps.map bd))):
  (q→E∧gx a l b)∧(¬q→∀b,¬gx a l b):=by
 constructor
 ·intro hq
  obtain⟨hE,o',e1,e2,e3,e4,e5⟩:=hp.1 hq
  obtain⟨f1,f2,f3⟩:=hB o' e1 e2 e3
  obtain⟨f4,f5⟩:=Ig h1 f1
  exact⟨hE,o',e1,by rw[f5,f3,e4,←hk,←f2,qC],e5⟩
 ·intro hn b ⟨o',e1,e2,_⟩
  obtain⟨f1,f2,f3⟩:=If h1 ho e2
  have f4:o'.kind=k:=(Hp hk0 (qD e1.1) (hk.trans f1)).symm
  obtain⟨f5,f6,f7⟩:=hF o' e1 f4 _ f2 f3
  exact hp.2 hn o' e1 f5 ⟨f6,f7⟩
theorem VD {a:St} {l l1:TX} {o0 o1:Prop} {w:List UInt8} (h1:dp l l1 o0 o1 w) (h:∀k,0≤k→k≤11→¬aW k=w):∀b,¬gx a l b:=fun b ⟨o',e1,e2,_⟩=>by
 have hk:=qD e1.1
 refine h o'.kind hk.1 hk.2 ?_
 rw[h1.1,e2];rfl
theorem Uk {z:Int} (h:z≤4294967295) (h0:0≤z):(aH 3).wrap z=z:=IntWalk.u32_in z ⟨h0,h⟩
theorem jB (z:Int):0≤(aH 3).wrap z∧(aH 3).wrap z≤4294967295:=by
 show 0≤IntKind.u32.wrap z∧IntKind.u32.wrap z≤_
 rw[IntKind.wrap_u32];omega
theorem CA {l l1:TX} {o o1:Prop} {z:Int} (h:numH l l1 o o1 4294967295 z):Bc 4294967295 l l1 o o1 ((aH 3).wrap z):=by
 obtain⟨h1,h2,h3,h4,h5⟩:=h
 have e:cE 4294967295 (l.headD []) ((aH 3).wrap z)↔cE 4294967295 (l.headD []) z∨(cE 4294967295 (l.headD []) ((aH 3).wrap z)∧¬z≤4294967295):=by
  by_cases h:z≤4294967295
  ·rw[Uk h h4];simp[h]
  ·simp[h];intro q;exact absurd q.2.1 h
 have e2:cE 4294967295 (l.headD []) z→z=(aH 3).wrap z:=fun q=>(Uk q.2.1 q.1).symm
 have e3:cE 4294967295 (l.headD []) ((aH 3).wrap z)→cE 4294967295 (l.headD []) z:=fun q=>h3 ⟨_,q⟩
 have e4:cE 4294967295 (l.headD []) ((aH 3).wrap z)↔cE 4294967295 (l.headD []) z:=⟨e3,fun q=>(e2 q)▸q⟩
 exact⟨h1,by rw[h2,e4],fun q=>e4.2 (h3 q)⟩
theorem Ma {o p:ax} (h:be o=be p):cn o↔cn p:=by
 obtain⟨k,x,y,i,a,m,ma,g,hp,ps⟩:=o
 obtain⟨k',x',y',i',a',m',ma',g',hp',ps'⟩:=p
 simp only[be,Prod.mk.injEq]at h
 obtain⟨⟨rfl,rfl,rfl,rfl,rfl,rfl⟩,rfl,rfl,rfl⟩:=h
 exact Iff.rfl
theorem aao {o:ax} (h:cn o) (hm:0≤o.mask∧o.mask≤4294967295) (hp:∀x∈o.ps,lV x):pd o:=by
 unfold pd gV
 refine⟨?_,hm,?_,hp⟩
 ·unfold cn at h
  rcases h with h|h|h|h|h|h|h|h|h|h|h|h<;>omega
 ·unfold cn at h
  rcases h with h|h|h|h|h|h|h|h|h|h|h|h
  ·obtain⟨p,h1,h2⟩:=h.2.2.2.2.2.2.2.2.1
   have:=(hp p (acF h1)).1
   omega
  all_goals omega
theorem ZQ {a:St} {l l2:TX} {odd odd2 q:Prop} {O:ax} (hps:∀p∈O.ps,gS p) (hl:l=O.ps.map bd++l2) (hodd:odd2↔odd) (hstop:odd∨¬O.kind=0∨l2=[]) (hk:¬O.kind=0→O.ps=[])
  (hgr:(O.ps=[]∧O.grp=0)∨∃p,O.ps[0]?=some p∧O.grp=p.g) (hm:0≤O.mask∧O.mask≤4294967295) (hq:q↔¬odd2∧l2=[]∧cn O):
  (q→∃o',cQ o'∧eG o' O.kind O.x O.y O.i O.at_ O.mode O.mask∧¬odd∧l=o'.ps.map bd∧{a with os:=a.os++[be O]}={a with os:=a.os++[be o']})∧
  (¬q→∀o',cQ o'→eG o' O.kind O.x O.y O.i O.at_ O.mode O.mask→¬(¬odd∧l=o'.ps.map bd)):=by
 constructor
 ·intro hq'
  obtain⟨e1,e2,e3⟩:=hq.1 hq'
  refine⟨O,⟨e3,aao e3 hm fun x hx=>(hps x hx).2⟩,⟨rfl,rfl,rfl,rfl,rfl,rfl,rfl⟩,fun h=>e1 (hodd.2 h),by rw[hl,e2,List.append_nil],rfl⟩
 ·intro hn o' h1 h2 ⟨h3,h4⟩
  obtain⟨s1,s2,s3,s4,s5,s6,s7⟩:=h2
  have hpo:=qB h1
  have hR:=h1.1
  by_cases hkd:O.kind=0
  ·have e1:l2=[]:=by
    rcases hstop with h|h|h
    ·exact absurd h h3
    ·exact absurd hkd h
    ·exact h
   have e2:O.ps=o'.ps:=wU hps hpo (by rw[←h4,hl,e1,List.append_nil])
   have e3:=(GR (s1.trans hkd)).1 hR
   obtain⟨p,e4,e5⟩:=e3.2.2.2.2.2.2.2.1
   have e6:O.grp=o'.grp:=by
    rcases hgr with⟨h,_⟩|⟨p',h,h'⟩
    ·rw[←e2,h]at e4;cases e4
    ·rw[e2,e4]at h;cases h
     rw[h',e5]
   refine hn (hq.2 ⟨fun h=>h3 (hodd.1 h),e1,(Ma ?_).1 hR⟩)
   simp only[be,s1,s2,s3,s4,s5,s6,s7,e2,e6]
  ·have e1:=hk hkd
   have e0:o'.ps=[]∧o'.grp=0:=by
    unfold cn at hR
    rw[s1]at hR
    rcases hR with h|h|h|h|h|h|h|h|h|h|h|h
    ·exact absurd h.1 hkd
    all_goals(refine⟨?_,?_⟩<;>simp only[h])
   have e2:l2=[]:=by rw[h4,e0.1,e1]at hl;simpa using hl.symm
   have e6:O.grp=0:=by
    rcases hgr with⟨_,h⟩|⟨p,h,_⟩
    ·exact h
    ·rw[e1]at h;cases h
   refine hn (hq.2 ⟨fun h=>h3 (hodd.1 h),e2,(Ma ?_).1 hR⟩)
   simp only[be,s1,s2,s3,s4,s5,s6,s7,e1,e6,e0.1,e0.2]
theorem ZR {l:TX} {odd:Prop} {SN:ax→Prop} {x:List UInt8} (hx:x∈l) (h:∀p,gS p→¬x=bd p):∀o',cQ o'→SN o'→¬(¬odd∧l=o'.ps.map bd):=fun o' h1 _ ⟨_,e⟩=>by
 rw[e]at hx
 obtain⟨p,hp,rfl⟩:=List.mem_map.1 hx
 exact h p (qB h1 p hp) rfl
theorem abV {a b:St} {l l1 l2 l3:TX} {o0 o1 o2 o3 q E:Prop} {w:List UInt8} {z1 z2:Int} (h1:dp l l1 o0 o1 w) (hk:([105,110,118,111,107,101]:List Nat).map acX=w) (g1:numN l1 l2 o1 o2 z1) (g2:numN l2 l3 o2 o3 z2) (ho:¬o0)
  (hp:(q→E∧∃o',cQ o'∧eG o' 0 z1 0 0 0 z2 0∧¬o3∧l3=o'.ps.map bd∧b={a with os:=a.os++[be o']})∧(¬q→∀o',cQ o'→eG o' 0 z1 0 0 0 z2 0→¬(¬o3∧l3=o'.ps.map bd))):
  (q→E∧gx a l b)∧(¬q→∀b,¬gx a l b):=by
 refine jD (SN:=fun o'=>eG o' 0 z1 0 0 0 z2 0) (k:=0) h1 (hk▸by decide) ho (by decide) (fun o' e1 e2 r e3 e4=> ?_) (fun o' e1 e2 e3=> ?_) hp
 ·have e5:=(GR e2).1 e1.1
  have em:=e1.2.2.1
  have e6:l1=Lib.itoa o'.x::Lib.itoa o'.mode::r:=by rw[e4];simp[aN,e2]
  obtain⟨a0,b0,c0⟩:=dy g1.X (by decide) (by omega) e3 e6
  obtain⟨a1,b1,c1⟩:=dy g2.X (by decide) (by omega) b0 c0
  exact⟨⟨e2,a0,by omega,by omega,by omega,a1,by omega⟩,b1,c1⟩
 ·obtain⟨s1,s2,s3,s4,s5,s6,s7⟩:=e2
  obtain⟨a1,b1,_⟩:=dz g2.X e3
  obtain⟨a0,b0,_⟩:=dz g1.X a1
  refine⟨a0,s1,?_⟩
  rw[b0,b1]
  simp[aN,s1,s2,s6]
theorem abU {a b:St} {l l1 l2 l3:TX} {o0 o1 o2 o3 q E:Prop} {w:List UInt8} {z1 z2:Int} (h1:dp l l1 o0 o1 w) (hk:([115,108,97,121]:List Nat).map acX=w) (g1:numN l1 l2 o1 o2 z1) (g2:numN l2 l3 o2 o3 z2) (ho:¬o0)
  (hp:(q→E∧∃o',cQ o'∧eG o' 1 z1 z2 0 0 0 0∧¬o3∧l3=o'.ps.map bd∧b={a with os:=a.os++[be o']})∧(¬q→∀o',cQ o'→eG o' 1 z1 z2 0 0 0 0→¬(¬o3∧l3=o'.ps.map bd))):
  (q→E∧gx a l b)∧(¬q→∀b,¬gx a l b):=by
 refine jD (SN:=fun o'=>eG o' 1 z1 z2 0 0 0 0) (k:=1) h1 (hk▸by decide) ho (by decide) (fun o' e1 e2 r e3 e4=> ?_) (fun o' e1 e2 e3=> ?_) hp
 ·have e5:=(Ob e2).1 e1.1
  have em:=e1.2.2.1
  have e6:l1=Lib.itoa o'.x::Lib.itoa o'.y::r:=by rw[e4];simp[aN,e2]
  obtain⟨a0,b0,c0⟩:=dy g1.X (by decide) (by omega) e3 e6
  obtain⟨a1,b1,c1⟩:=dy g2.X (by decide) (by omega) b0 c0
  exact⟨⟨e2,a0,a1,by omega,by omega,by omega,by omega⟩,b1,c1⟩
 ·obtain⟨s1,s2,s3,s4,s5,s6,s7⟩:=e2
  obtain⟨a1,b1,_⟩:=dz g2.X e3
  obtain⟨a0,b0,_⟩:=dz g1.X a1
  refine⟨a0,s1,?_⟩
  rw[b0,b1]
  simp[aN,s1,s2,s3]
theorem abT {a b:St} {l l1 l2:TX} {o0 o1 o2 q E:Prop} {w:List UInt8} {z1:Int} (h1:dp l l1 o0 o1 w) (hk:([100,101,108,105,118,101,114]:List Nat).map acX=w) (g1:numN l1 l2 o1 o2 z1) (ho:¬o0)
  (hp:(q→E∧∃o',cQ o'∧eG o' 2 0 0 z1 0 0 0∧¬o2∧l2=o'.ps.map bd∧b={a with os:=a.os++[be o']})∧(¬q→∀o',cQ o'→eG o' 2 0 0 z1 0 0 0→¬(¬o2∧l2=o'.ps.map bd))):
  (q→E∧gx a l b)∧(¬q→∀b,¬gx a l b):=by
 refine jD (SN:=fun o'=>eG o' 2 0 0 z1 0 0 0) (k:=2) h1 (hk▸by decide) ho (by decide) (fun o' e1 e2 r e3 e4=> ?_) (fun o' e1 e2 e3=> ?_) hp
 ·have e5:=(Oa e2).1 e1.1
  have em:=e1.2.2.1
  have e6:l1=Lib.itoa o'.i::r:=by rw[e4];simp[aN,e2]
  obtain⟨a0,b0,c0⟩:=dy g1.X (by decide) (by omega) e3 e6
  exact⟨⟨e2,by omega,by omega,a0,by omega,by omega,by omega⟩,b0,c0⟩
 ·obtain⟨s1,s2,s3,s4,s5,s6,s7⟩:=e2
  obtain⟨a0,b0,_⟩:=dz g1.X e3
  refine⟨a0,s1,?_⟩
  rw[b0]
  simp[aN,s1,s4]
theorem abS {a b:St} {l l1 l2:TX} {o0 o1 o2 q E:Prop} {w:List UInt8} {z1:Int} (h1:dp l l1 o0 o1 w) (hk:([100,114,111,112]:List Nat).map acX=w) (g1:numN l1 l2 o1 o2 z1) (ho:¬o0)
  (hp:(q→E∧∃o',cQ o'∧eG o' 3 0 0 z1 0 0 0∧¬o2∧l2=o'.ps.map bd∧b={a with os:=a.os++[be o']})∧(¬q→∀o',cQ o'→eG o' 3 0 0 z1 0 0 0→¬(¬o2∧l2=o'.ps.map bd))):
  (q→E∧gx a l b)∧(¬q→∀b,¬gx a l b):=by
 refine jD (SN:=fun o'=>eG o' 3 0 0 z1 0 0 0) (k:=3) h1 (hk▸by decide) ho (by decide) (fun o' e1 e2 r e3 e4=> ?_) (fun o' e1 e2 e3=> ?_) hp
 ·have e5:=(NZ e2).1 e1.1
  have em:=e1.2.2.1
  have e6:l1=Lib.itoa o'.i::r:=by rw[e4];simp[aN,e2]
  obtain⟨a0,b0,c0⟩:=dy g1.X (by decide) (by omega) e3 e6
  exact⟨⟨e2,by omega,by omega,a0,by omega,by omega,by omega⟩,b0,c0⟩
 ·obtain⟨s1,s2,s3,s4,s5,s6,s7⟩:=e2
  obtain⟨a0,b0,_⟩:=dz g1.X e3
  refine⟨a0,s1,?_⟩
  rw[b0]
  simp[aN,s1,s4]
theorem abR {a b:St} {l l1 l2:TX} {o0 o1 o2 q E:Prop} {w:List UInt8} {z1:Int} (h1:dp l l1 o0 o1 w) (hk:([116,119,105,99,101]:List Nat).map acX=w) (g1:numN l1 l2 o1 o2 z1) (ho:¬o0)
  (hp:(q→E∧∃o',cQ o'∧eG o' 4 0 0 z1 0 0 0∧¬o2∧l2=o'.ps.map bd∧b={a with os:=a.os++[be o']})∧(¬q→∀o',cQ o'→eG o' 4 0 0 z1 0 0 0→¬(¬o2∧l2=o'.ps.map bd))):
  (q→E∧gx a l b)∧(¬q→∀b,¬gx a l b):=by
 refine jD (SN:=fun o'=>eG o' 4 0 0 z1 0 0 0) (k:=4) h1 (hk▸by decide) ho (by decide) (fun o' e1 e2 r e3 e4=> ?_) (fun o' e1 e2 e3=> ?_) hp
 ·have e5:=(NY e2).1 e1.1
  have em:=e1.2.2.1
  have e6:l1=Lib.itoa o'.i::r:=by rw[e4];simp[aN,e2]
  obtain⟨a0,b0,c0⟩:=dy g1.X (by decide) (by omega) e3 e6
  exact⟨⟨e2,by omega,by omega,a0,by omega,by omega,by omega⟩,b0,c0⟩
 ·obtain⟨s1,s2,s3,s4,s5,s6,s7⟩:=e2
  obtain⟨a0,b0,_⟩:=dz g1.X e3
  refine⟨a0,s1,?_⟩
  rw[b0]
  simp[aN,s1,s4]
theorem abQ {a b:St} {l l1 l2 l3 l4:TX} {o0 o1 o2 o3 o4 q E:Prop} {w:List UInt8} {z1 z2 z3:Int} (h1:dp l l1 o0 o1 w) (hk:([115,112,111,105,108]:List Nat).map acX=w) (g1:numN l1 l2 o1 o2 z1) (g2:numN l2 l3 o2 o3 z2) (g3:numH l3 l4 o3 o4 4294967295 z3) (ho:¬o0)
  (hp:(q→E∧∃o',cQ o'∧eG o' 5 0 0 z1 z2 0 ((aH 3).wrap z3)∧¬o4∧l4=o'.ps.map bd∧b={a with os:=a.os++[be o']})∧(¬q→∀o',cQ o'→eG o' 5 0 0 z1 z2 0 ((aH 3).wrap z3)→¬(¬o4∧l4=o'.ps.map bd))):
  (q→E∧gx a l b)∧(¬q→∀b,¬gx a l b):=by
 refine jD (SN:=fun o'=>eG o' 5 0 0 z1 z2 0 ((aH 3).wrap z3)) (k:=5) h1 (hk▸by decide) ho (by decide) (fun o' e1 e2 r e3 e4=> ?_) (fun o' e1 e2 e3=> ?_) hp
 ·have e5:=(NX e2).1 e1.1
  have em:=e1.2.2.1
  have e6:l1=Lib.itoa o'.i::Lib.itoa o'.at_::Lib.itoa o'.mask::r:=by rw[e4];simp[aN,e2]
  obtain⟨a0,b0,c0⟩:=dy g1.X (by decide) (by omega) e3 e6
  obtain⟨a1,b1,c1⟩:=dy g2.X (by decide) (by omega) b0 c0
  obtain⟨a2,b2,c2⟩:=dy (CA g3) (by decide) em b1 c1
  exact⟨⟨e2,by omega,by omega,a0,a1,by omega,a2⟩,b2,c2⟩
 ·obtain⟨s1,s2,s3,s4,s5,s6,s7⟩:=e2
  obtain⟨a2,b2,_⟩:=dz (CA g3) e3
  obtain⟨a1,b1,_⟩:=dz g2.X a2
  obtain⟨a0,b0,_⟩:=dz g1.X a1
  refine⟨a0,s1,?_⟩
  rw[b0,b1,b2]
  simp[aN,s1,s4,s5,s7]
theorem abP {a b:St} {l l1 l2:TX} {o0 o1 o2 q E:Prop} {w:List UInt8} {z1:Int} (h1:dp l l1 o0 o1 w) (hk:([116,105,99,107]:List Nat).map acX=w) (g1:numN l1 l2 o1 o2 z1) (ho:¬o0)
  (hp:(q→E∧∃o',cQ o'∧eG o' 6 z1 0 0 0 0 0∧¬o2∧l2=o'.ps.map bd∧b={a with os:=a.os++[be o']})∧(¬q→∀o',cQ o'→eG o' 6 z1 0 0 0 0 0→¬(¬o2∧l2=o'.ps.map bd))):
  (q→E∧gx a l b)∧(¬q→∀b,¬gx a l b):=by
 refine jD (SN:=fun o'=>eG o' 6 z1 0 0 0 0 0) (k:=6) h1 (hk▸by decide) ho (by decide) (fun o' e1 e2 r e3 e4=> ?_) (fun o' e1 e2 e3=> ?_) hp
 ·have e5:=(NW e2).1 e1.1
  have em:=e1.2.2.1
  have e6:l1=Lib.itoa o'.x::r:=by rw[e4];simp[aN,e2]
  obtain⟨a0,b0,c0⟩:=dy g1.X (by decide) (by omega) e3 e6
  exact⟨⟨e2,a0,by omega,by omega,by omega,by omega,by omega⟩,b0,c0⟩
 ·obtain⟨s1,s2,s3,s4,s5,s6,s7⟩:=e2
  obtain⟨a0,b0,_⟩:=dz g1.X e3
  refine⟨a0,s1,?_⟩
  rw[b0]
  simp[aN,s1,s2]
theorem abO {a b:St} {l l1 l2 l3:TX} {o0 o1 o2 o3 q E:Prop} {w:List UInt8} {z1 z2:Int} (h1:dp l l1 o0 o1 w) (hk:([115,117,115,112,101,99,116]:List Nat).map acX=w) (g1:numN l1 l2 o1 o2 z1) (g2:numN l2 l3 o2 o3 z2) (ho:¬o0)
  (hp:(q→E∧∃o',cQ o'∧eG o' 7 z1 z2 0 0 0 0∧¬o3∧l3=o'.ps.map bd∧b={a with os:=a.os++[be o']})∧(¬q→∀o',cQ o'→eG o' 7 z1 z2 0 0 0 0→¬(¬o3∧l3=o'.ps.map bd))):
  (q→E∧gx a l b)∧(¬q→∀b,¬gx a l b):=by
 refine jD (SN:=fun o'=>eG o' 7 z1 z2 0 0 0 0) (k:=7) h1 (hk▸by decide) ho (by decide) (fun o' e1 e2 r e3 e4=> ?_) (fun o' e1 e2 e3=> ?_) hp
 ·have e5:=(NV e2).1 e1.1
  have em:=e1.2.2.1
  have e6:l1=Lib.itoa o'.x::Lib.itoa o'.y::r:=by rw[e4];simp[aN,e2]
  obtain⟨a0,b0,c0⟩:=dy g1.X (by decide) (by omega) e3 e6
  obtain⟨a1,b1,c1⟩:=dy g2.X (by decide) (by omega) b0 c0
  exact⟨⟨e2,a0,a1,by omega,by omega,by omega,by omega⟩,b1,c1⟩
 ·obtain⟨s1,s2,s3,s4,s5,s6,s7⟩:=e2
  obtain⟨a1,b1,_⟩:=dz g2.X e3
  obtain⟨a0,b0,_⟩:=dz g1.X a1
  refine⟨a0,s1,?_⟩
  rw[b0,b1]
  simp[aN,s1,s2,s3]
theorem abN {a b:St} {l l1 l2:TX} {o0 o1 o2 q E:Prop} {w:List UInt8} {z1:Int} (h1:dp l l1 o0 o1 w) (hk:([99,114,97,115,104]:List Nat).map acX=w) (g1:numN l1 l2 o1 o2 z1) (ho:¬o0)
  (hp:(q→E∧∃o',cQ o'∧eG o' 8 z1 0 0 0 0 0∧¬o2∧l2=o'.ps.map bd∧b={a with os:=a.os++[be o']})∧(¬q→∀o',cQ o'→eG o' 8 z1 0 0 0 0 0→¬(¬o2∧l2=o'.ps.map bd))):
  (q→E∧gx a l b)∧(¬q→∀b,¬gx a l b):=by
 refine jD (SN:=fun o'=>eG o' 8 z1 0 0 0 0 0) (k:=8) h1 (hk▸by decide) ho (by decide) (fun o' e1 e2 r e3 e4=> ?_) (fun o' e1 e2 e3=> ?_) hp
 ·have e5:=(NU e2).1 e1.1
  have em:=e1.2.2.1
  have e6:l1=Lib.itoa o'.x::r:=by rw[e4];simp[aN,e2]
  obtain⟨a0,b0,c0⟩:=dy g1.X (by decide) (by omega) e3 e6
  exact⟨⟨e2,a0,by omega,by omega,by omega,by omega,by omega⟩,b0,c0⟩
 ·obtain⟨s1,s2,s3,s4,s5,s6,s7⟩:=e2
  obtain⟨a0,b0,_⟩:=dz g1.X e3
  refine⟨a0,s1,?_⟩
  rw[b0]
  simp[aN,s1,s2]
theorem abM {a b:St} {l l1 l2:TX} {o0 o1 o2 q E:Prop} {w:List UInt8} {z1:Int} (h1:dp l l1 o0 o1 w) (hk:([114,101,115,116,97,114,116]:List Nat).map acX=w) (g1:numN l1 l2 o1 o2 z1) (ho:¬o0)
  (hp:(q→E∧∃o',cQ o'∧eG o' 9 z1 0 0 0 0 0∧¬o2∧l2=o'.ps.map bd∧b={a with os:=a.os++[be o']})∧(¬q→∀o',cQ o'→eG o' 9 z1 0 0 0 0 0→¬(¬o2∧l2=o'.ps.map bd))):
  (q→E∧gx a l b)∧(¬q→∀b,¬gx a l b):=by
 refine jD (SN:=fun o'=>eG o' 9 z1 0 0 0 0 0) (k:=9) h1 (hk▸by decide) ho (by decide) (fun o' e1 e2 r e3 e4=> ?_) (fun o' e1 e2 e3=> ?_) hp
 ·have e5:=(NT e2).1 e1.1
  have em:=e1.2.2.1
  have e6:l1=Lib.itoa o'.x::r:=by rw[e4];simp[aN,e2]
  obtain⟨a0,b0,c0⟩:=dy g1.X (by decide) (by omega) e3 e6
  exact⟨⟨e2,a0,by omega,by omega,by omega,by omega,by omega⟩,b0,c0⟩
 ·obtain⟨s1,s2,s3,s4,s5,s6,s7⟩:=e2
  obtain⟨a0,b0,_⟩:=dz g1.X e3
  refine⟨a0,s1,?_⟩
  rw[b0]
  simp[aN,s1,s2]
theorem aaj {a b:St} {l l1 l2:TX} {o0 o1 o2 q E:Prop} {w:List UInt8} {z1:Int} (h1:dp l l1 o0 o1 w) (hk:([106,111,105,110]:List Nat).map acX=w) (g1:numN l1 l2 o1 o2 z1) (ho:¬o0)
  (hp:(q→E∧∃o',cQ o'∧eG o' 10 z1 0 0 0 0 0∧¬o2∧l2=o'.ps.map bd∧b={a with os:=a.os++[be o']})∧(¬q→∀o',cQ o'→eG o' 10 z1 0 0 0 0 0→¬(¬o2∧l2=o'.ps.map bd))):
  (q→E∧gx a l b)∧(¬q→∀b,¬gx a l b):=by
 refine jD (SN:=fun o'=>eG o' 10 z1 0 0 0 0 0) (k:=10) h1 (hk▸by decide) ho (by decide) (fun o' e1 e2 r e3 e4=> ?_) (fun o' e1 e2 e3=> ?_) hp
 ·have e5:=(HX e2).1 e1.1
  have em:=e1.2.2.1
  have e6:l1=Lib.itoa o'.x::r:=by rw[e4];simp[aN,e2]
  obtain⟨a0,b0,c0⟩:=dy g1.X (by decide) (by omega) e3 e6
  exact⟨⟨e2,a0,by omega,by omega,by omega,by omega,by omega⟩,b0,c0⟩
 ·obtain⟨s1,s2,s3,s4,s5,s6,s7⟩:=e2
  obtain⟨a0,b0,_⟩:=dz g1.X e3
  refine⟨a0,s1,?_⟩
  rw[b0]
  simp[aN,s1,s2]
theorem aai {a b:St} {l l1 l2:TX} {o0 o1 o2 q E:Prop} {w:List UInt8} {z1:Int} (h1:dp l l1 o0 o1 w) (hk:([108,101,97,118,101]:List Nat).map acX=w) (g1:numN l1 l2 o1 o2 z1) (ho:¬o0)
  (hp:(q→E∧∃o',cQ o'∧eG o' 11 z1 0 0 0 0 0∧¬o2∧l2=o'.ps.map bd∧b={a with os:=a.os++[be o']})∧(¬q→∀o',cQ o'→eG o' 11 z1 0 0 0 0 0→¬(¬o2∧l2=o'.ps.map bd))):
  (q→E∧gx a l b)∧(¬q→∀b,¬gx a l b):=by
 refine jD (SN:=fun o'=>eG o' 11 z1 0 0 0 0 0) (k:=11) h1 (hk▸by decide) ho (by decide) (fun o' e1 e2 r e3 e4=> ?_) (fun o' e1 e2 e3=> ?_) hp
 ·have e5:=(HW e2).1 e1.1
  have em:=e1.2.2.1
  have e6:l1=Lib.itoa o'.x::r:=by rw[e4];simp[aN,e2]
  obtain⟨a0,b0,c0⟩:=dy g1.X (by decide) (by omega) e3 e6
  exact⟨⟨e2,a0,by omega,by omega,by omega,by omega,by omega⟩,b0,c0⟩
 ·obtain⟨s1,s2,s3,s4,s5,s6,s7⟩:=e2
  obtain⟨a0,b0,_⟩:=dz g1.X e3
  refine⟨a0,s1,?_⟩
  rw[b0]
  simp[aN,s1,s2]
theorem WZ {v:List UInt8} (h0:¬([105,110,118,111,107,101]:List Nat).map acX=v) (h1:¬([115,108,97,121]:List Nat).map acX=v) (h2:¬([100,101,108,105,118,101,114]:List Nat).map acX=v) (h3:¬([100,114,111,112]:List Nat).map acX=v) (h4:¬([116,119,105,99,101]:List Nat).map acX=v) (h5:¬([115,112,111,105,108]:List Nat).map acX=v) (h6:¬([116,105,99,107]:List Nat).map acX=v) (h7:¬([115,117,115,112,101,99,116]:List Nat).map acX=v) (h8:¬([99,114,97,115,104]:List Nat).map acX=v) (h9:¬([114,101,115,116,97,114,116]:List Nat).map acX=v) (h10:¬([106,111,105,110]:List Nat).map acX=v) (h11:¬([108,101,97,118,101]:List Nat).map acX=v):∀k,0≤k→k≤11→¬aW k=v:=fun k a b e=>by
 obtain q|q|q|q|q|q|q|q|q|q|q|q:k=0∨k=1∨k=2∨k=3∨k=4∨k=5∨k=6∨k=7∨k=8∨k=9∨k=10∨k=11:=by omega
 all_goals subst q
 ·exact h0 (e▸by decide)
 ·exact h1 (e▸by decide)
 ·exact h2 (e▸by decide)
 ·exact h3 (e▸by decide)
 ·exact h4 (e▸by decide)
 ·exact h5 (e▸by decide)
 ·exact h6 (e▸by decide)
 ·exact h7 (e▸by decide)
 ·exact h8 (e▸by decide)
 ·exact h9 (e▸by decide)
 ·exact h10 (e▸by decide)
 ·exact h11 (e▸by decide)
end Go.Proofs.Tryz
namespace Go.Proofs.Tryz
open Go.Proofs.YtacomabmhnodlaaGreatDoor (zf nD wL lT qX nE pt)
open Go Go.RowKit Go.Sy
open Go.Eng hiding am
set_option maxRecDepth 1000000
set_option linter.unusedVariables false
set_option maxHeartbeats 4000000
structure WdR where
 hl:Value
 l:List (List UInt8)
 odd:Prop
structure ah where
 hl:Value
 l:List (List UInt8)
 odd:Prop
 gs:List aw
 clients:Int
 window:Int
 deadline:Int
 pace:Int
 again:Int
 bag:Int
 first:Int
 os:List ax
 set:Int
 op:Prop
 line:Int
open Go.Txt (cE wds)
def dB (r:ah):St:=⟨r.gs,⟨r.clients,r.window,r.deadline,r.pace,r.again,r.bag,r.first⟩,r.os.map be,r.set⟩
theorem Aj {o q S:Prop} {l:TX} (h1:¬o) (h2:(l.length:Int)=0) (h3:q↔S):q↔¬o∧l=[]∧S:=⟨fun h=>⟨h1,acW (by omega),h3.1 h⟩,fun h=>h3.2 h.2.2⟩
theorem Ai {o A S:Prop} (h:¬¬o):false=true↔¬o∧A∧S:=⟨fun q=>(by cases q),fun q=>absurd q.1 h⟩
theorem Ah {o S:Prop} {l:TX} (h:¬(l.length:Int)=0):false=true↔¬o∧l=[]∧S:=⟨fun q=>(by cases q),fun q=>absurd (by rw[q.2.1];rfl) h⟩
def cb (l:TX):Prop:=l.length≤1000000∧∀x∈l,x.length≤100000
theorem NG {l:TX} (h:cb l):cb l.tail:=⟨by have:=h.1;rw[List.length_tail];omega,fun x hx=>h.2 x (List.mem_of_mem_tail hx)⟩
theorem Sk {l:TX} (h:cb l):(l.headD []).length≤100000:=by
 cases l with
 |nil=>simp
 |cons a r=>exact h.2 a List.mem_cons_self
theorem Sj {l l1:TX} {o o1:Prop} {s:List UInt8} (h4:dp l l1 o o1 s) (h:cb l):s.length≤100000:=by rw[h4.1];exact Sk h
theorem Fl {b:UInt8} {s:List UInt8} (h:s.length≤100000):cb (wds b s):=Pn h
theorem uK {l:TX} (h:cb l):cb ((l.drop 1).take (l.length - 1)):=by rw[yN];exact NG h
theorem Ku {α:Type} {l:List α} {x:α} (h:l[0]?=some x):l≠[]:=fun q=>by rw[q]at h;simp at h
noncomputable def AD (M:T):Bool:=match M.get 0 with
 |some (.blk _ _ _ ((_::_::_::_::_::_::_::_::_::_::_::.int _ _::_)::_))=>true
 |_=>false
noncomputable def Tz (M:T):Int:=match M.get 0 with
 |some (.blk _ _ _ ((_::_::_::_::_::_::_::_::_::_::_::.int _ z::_)::_))=>z
 |_=>0
noncomputable def LJ (M:T) (k:Nat):Bool:=Option.casesOn (M.get 0) false fun o=>AObj.casesOn o (fun _ _ n _=>Nat.beq n k) (fun _ _=>false) (fun _ _ _ _=>false) false (fun _ _ _ _ _=>false) (fun _ _ _ _ _ _ _=>false)
noncomputable def Rd (r:ah) (k0:Nat) (k1:Nat):T:=(.node (.node .leaf (some (.prow 82 3 aw r.gs aD)) .leaf) (some (.blk false 60 14 [[.sy (.imm r.hl 1 (List UInt8) r.l aP),.sy (.bool r.odd),.sy (.prow 1 k0),.sy (.int 0 r.clients),.sy (.int 0 r.window),.sy (.int 0 r.deadline),.sy (.int 0 r.pace),.sy (.int 0 r.again),.sy (.int 0 r.bag),.sy (.int 4 r.first),.sy (.prow 2 k1),.sy (.int 0 r.set),.sy (.bool r.op),.sy (.int 0 r.line)]])) (.node .leaf (some (.prow 54 9 ax r.os aI)) .leaf))
noncomputable def aU (r:ah):T:=Rd r r.gs.length r.os.length
noncomputable def Rz (r:ah) (k0:Nat) (k1:Nat):T:=(.node (.node .leaf (some (.prow 82 3 aw r.gs aD)) .leaf) (some (.blk false 60 14 [[.sy (.imm r.hl 1 (List UInt8) r.l aP),.sy (.bool r.odd),.sy (.prow 1 k0),.sy (.int 0 r.clients),.sy (.int 0 r.window),.sy (.int 0 r.deadline),.sy (.int 0 r.pace),.sy (.int 0 r.again),.sy (.int 0 r.bag),.sy (.int 4 r.first),.sy (.prow 2 k1),.int 0 r.set,.sy (.bool r.op),.sy (.int 0 r.line)]])) (.node .leaf (some (.prow 54 9 ax r.os aI)) .leaf))
noncomputable def iT (r:ah):T:=Rz r r.gs.length r.os.length
noncomputable def Iv:=bt FP 0 wL 103 []
theorem KW:aV Tryz.prog Iv:=aR zf Iy
noncomputable def tj:=bt Iv 0 lT 47 []
theorem tX:aV Tryz.prog tj:=aR nD KW
def vX:XF:=.mk 28 (.one 2) (.aft (.seq (g_ 1 [p_ 0 2 (.mv (.c (.str [])))]) (.seq (.seq (g_ 6 [p_ 0 4 (m_ 0),p_ 1 5 (n_ 4),p_ 2 6 (f_ 0 5),r_ 3 7 (l_ 6),p_ 4 8 (k_ 7),p_ 5 9 (.bin 3 4 (.t 8) (i_ 0))]) (.cond (.t 9) (.seq (g_ 4 [p_ 0 10 (m_ 0),p_ 1 11 (n_ 10),p_ 2 12 (f_ 1 11),bl 3 (.st 1 (.t 12) (.c (.bool true)))]) (.seq (g_ 1 [p_ 0 2 (.mv (.c (.str [])))]) .ret)) .skip)) (.seq (g_ 7 [p_ 0 13 (m_ 0),p_ 1 14 (n_ 13),p_ 2 15 (f_ 0 14),r_ 3 16 (l_ 15),p_ 4 17 (.ixs 1 (.t 16) (i_ 0)),r_ 5 18 (l_ 17),p_ 6 3 (m_ 18)]) (.seq (g_ 9 [p_ 0 19 (m_ 0),p_ 1 20 (m_ 0),p_ 2 21 (n_ 20),p_ 3 22 (f_ 0 21),r_ 4 23 (l_ 22),r_ 5 24 (.sls 1 (.t 23) (some (i_ 1)) none none),p_ 6 25 (n_ 19),p_ 7 26 (f_ 0 25),bl 8 (.st 1 (.t 26) (.t 24))]) (.seq (g_ 2 [p_ 0 27 (m_ 3),p_ 1 2 (m_ 27)]) .ret))))) [(0,[.upc 0 0 1,.up 2]),(1,[.upc 0 0 1,.up 2])])
theorem tz:bE Tryz.prog 78 vX=true:=by kernel_rfl
structure gB where
 r:ah
structure Fc where
 s:List UInt8
 hl:Value
 l:List (List UInt8)
 odd:Prop
def dE (p:gB) (r:Fc):Prop:=(r.s=p.r.l.headD []∧r.l=p.r.l.tail∧(r.odd↔p.r.odd∨p.r.l=[]))∧cb r.l
noncomputable def iV (p:gB):IE:=([.ptr 0 0],(aU p.r),3)
noncomputable def xj (p:gB) (K:KE):Bool:=am fun r:Fc=>iP (dE p r) (K (.sy (.str r.s)) (aU ({p.r with hl:=r.hl,l:=r.l,odd:=r.odd}:ah)) 3) true
def dh (p:gB):Prop:=cb p.r.l
theorem Gn {p:gB} {K:KE} (hK:xj p K=true) (r:Fc) (h:dE p r:=by dsimp only[dE]<;>(first|(have e:p.r.l=[]:=acW (by omega);exact⟨by simp[e],hpre⟩)|exact⟨⟨zo (by assumption),yN _,by have e:=Ku (by assumption);simp[e]⟩,uK hpre⟩)):K (.sy (.str r.s)) (aU ({p.r with hl:=r.hl,l:=r.l,odd:=r.odd}:ah)) 3=true:=au h (aG hK r)
theorem RR (p:gB) (K:KE) (hpre:dh p) (hK:xj p K=true):(bW 1 (di tj) cL 600 vX (iV p).1 (iV p).2.1 (iV p).2.2 K)=true:=by
 refine Eq.trans (b:=(iP ((p.r.l.length:Int)=(0:Int)) (K (.sy (.str bF)) (aU ({p.r with odd:=true=true}:ah)) 3) (mP (0≤(0:Int)∧(0:Int)<(p.r.l.length:Int)) (am fun x1:(List UInt8)=>iP (p.r.l[0]?=some x1) (mP (0≤(1:Int)∧(1:Int)≤(p.r.l.length:Int)∧(p.r.l.length:Int)≤(p.r.l.length:Int)) (K (.sy (.str x1)) (aU ({p.r with hl:=Jb p.r.hl 1 1 p.r.l.length,l:=(p.r.l.drop 1).take (p.r.l.length - 1)}:ah)) 3)) true)))) (by kernel_rfl) ?_
 dsimp only[dh]at hpre
 have hlen:=hpre.1
 refine iI (fun hc1=> ?_) (fun hc1=> ?_)
 exact Gn hK ⟨bF,p.r.hl,p.r.l,true=true⟩
 refine er ?_
 refine az (fun x1=> ?_)
 refine iI (fun hi2=> ?_) (fun _=>rfl)
 refine mI (by(first|omega|(simp[eN]<;>omega))) ?_
 exact Gn hK ⟨x1,Jb p.r.hl 1 1 p.r.l.length,(p.r.l.drop 1).take (p.r.l.length - 1),p.r.odd⟩
noncomputable def By:cq:=jR (fun us M=>LJ M 14) (bJ iV (dr dh xj)) (fun _ _ _ _=>false)
theorem Im:bR Tryz.prog 78 1 By:=eU (cY (f:=78) (k:=1) (bj tX) tz (by rfl) (by rfl) RR) ua
noncomputable def xK:=bt tj 1 By 78 []
theorem xJ:aV Tryz.prog xK:=aR Im tX
def vV:XF:=.mk 32 (.one 4) (.aft (.seq (g_ 1 [p_ 0 4 (.mv (.c (.int 4 (.ofNat 0))))]) (.seq (g_ 3 [p_ 0 8 (m_ 0),c_ 1 9 78 [.t 8],p_ 2 5 (m_ 9)]) (.seq (g_ 7 [p_ 0 11 (m_ 5),c_ 1 12 103 [.t 11,i_ 10,i_ 64],p_ 2 10 (m_ 12),p_ 3 13 (.ext 0 (.t 10)),p_ 4 14 (.ext 1 (.t 10)),p_ 5 6 (m_ 13),p_ 6 7 (m_ 14)]) (.seq (.seq (g_ 13 [p_ 0 15 (m_ 7),p_ 1 16 (.isn true 5 (.t 15)),p_ 2 17 (m_ 16),aj 3 18 17 false (m_ 6),aj 4 19 17 false (m_ 1),aj 5 20 17 false (.bin 3 2 (.t 18) (.t 19)),p_ 6 21 (.pick (.t 17) (.c (.bool true)) (.t 20)),p_ 7 22 (m_ 21),aj 8 23 22 false (m_ 6),fX 9 24 22 false 61 [.t 23,i_ 10],aj 10 25 22 false (m_ 5),aj 11 26 22 false (.bin 5 1 (.t 24) (.t 25)),p_ 12 27 (.pick (.t 22) (.c (.bool true)) (.t 26))]) (.cond (.t 27) (g_ 4 [p_ 0 28 (m_ 0),p_ 1 29 (n_ 28),p_ 2 30 (f_ 1 29),bl 3 (.st 1 (.t 30) (.c (.bool true)))]) .skip)) (.seq (g_ 2 [p_ 0 31 (m_ 6),p_ 1 4 (m_ 31)]) .ret))))) [(0,[.upc 0 0 1,.up 4]),(1,[.upc 0 0 1,.up 4])])
theorem tx:bE Tryz.prog 80 vV=true:=by kernel_rfl
structure my where
 r:ah
 m:Int
structure EV where
 z:Int
 hl:Value
 l:List (List UInt8)
 odd:Prop
def lE (p:my) (r:EV):Prop:=(r.l=p.r.l.tail∧(r.odd↔p.r.odd∨¬cE p.m (p.r.l.headD []) r.z)∧((∃z,cE p.m (p.r.l.headD []) z)→cE p.m (p.r.l.headD []) r.z)∧0≤r.z∧r.z≤18446744073709551615)∧cb r.l
noncomputable def pX (p:my):IE:=([.ptr 0 0,.int 4 p.m],(aU p.r),3)
noncomputable def wX (p:my) (K:KE):Bool:=am fun r:EV=>iP (lE p r) (K (.sy (.int 4 r.z)) (aU ({p.r with hl:=r.hl,l:=r.l,odd:=r.odd}:ah)) 3) true
def jV (p:my):Prop:=cb p.r.l∧p.m≤18446744073709551615
theorem sD {p:my} {K:KE} (hK:wX p K=true) (r:EV) (h:lE p r:=by dsimp only[lE]<;>(refine⟨?_,by assumption⟩;first|exact DD q3 (by assumption) (by assumption) (by assumption) (by assumption)|exact Ax q3 (by assumption) (by assumption) (by first|exact .inl (by assumption)|exact .inr (by assumption))|exact Aw q3 (by assumption) (by assumption) (by assumption))):K (.sy (.int 4 r.z)) (aU ({p.r with hl:=r.hl,l:=r.l,odd:=r.odd}:ah)) 3=true:=au h (aG hK r)
theorem RH (p:my) (K:KE) (hpre:jV p) (hK:wX p K=true):(bW 1 (di xK) cL 600 vV (pX p).1 (pX p).2.1 (pX p).2.2 K)=true:=by
 refine Eq.trans (b:=(aM (([.ptr 0 0],(aU p.r),3)) iV dh dE fun p1 r1=>mP (r1.s.length≤1000000) (ac (am fun u1:Nat=>iP (Lib.parseMag r1.s= .ok u1∧u1≤18446744073709551615) (iP ((p.m:Int)<(u1:Int)) (K (.sy (.int 4 (u1:Int))) (aU ({p1.r with hl:=r1.hl,l:=r1.l,odd:=true=true}:ah)) 3) (mP (bp 4 (u1:Int)) (iP (¬(Lib.itoa (u1:Int))=r1.s) (K (.sy (.int 4 (u1:Int))) (aU ({p1.r with hl:=r1.hl,l:=r1.l,odd:=true=true}:ah)) 3) (K (.sy (.int 4 (u1:Int))) (aU ({p1.r with hl:=r1.hl,l:=r1.l,odd:=r1.odd}:ah)) 3)))) true) (iP (∀u,¬Lib.parseMag r1.s= .ok u) (am fun z1:Int=>iP (0≤z1∧z1≤18446744073709551615) (am fun e1:Nat=>K (.sy (.int 4 z1)) (aU ({p1.r with hl:=r1.hl,l:=r1.l,odd:=true=true}:ah)) 3) true) true)))) (by kernel_rfl) ?_
 dsimp only[jV]at hpre
 obtain⟨q1,q3⟩:=hpre
 have q2:=q1.2
 refine ay (⟨p.r⟩:gB) rfl (by(try dsimp only[dh]);assumption) fun r1 hi1=> ?_
 dsimp only[dE]at hi1
 obtain⟨hi1,hs1⟩:=hi1
 refine mI (by exact DC (by assumption) q2) ?_
 refine aE ?_ ?_
 refine az (fun u1=> ?_)
 refine iI (fun hi2=> ?_) (fun _=>rfl)
 refine iI (fun hc3=> ?_) (fun hc3=> ?_)
 exact sD hK ⟨(u1:Int),r1.hl,r1.l,true=true⟩
 refine bG ?_
 refine iI (fun hc4=> ?_) (fun hc4=> ?_)
 exact sD hK ⟨(u1:Int),r1.hl,r1.l,true=true⟩
 exact sD hK ⟨(u1:Int),r1.hl,r1.l,r1.odd⟩
 refine iI (fun hi5=> ?_) (fun _=>rfl)
 refine az (fun z1=> ?_)
 refine iI (fun hi6=> ?_) (fun _=>rfl)
 refine az (fun e1=> ?_)
 exact sD hK ⟨z1,r1.hl,r1.l,true=true⟩
noncomputable def Bw:cq:=jR (fun us M=>LJ M 14) (bJ pX (dr jV wX)) (fun _ _ _ _=>false)
theorem Ik:bR Tryz.prog 80 1 Bw:=eU (cY (f:=80) (k:=1) (bj xJ) tx (by rfl) (by rfl) RH) ua
noncomputable def xC:=bt xK 1 Bw 80 []
theorem xB:aV Tryz.prog xC:=aR Ik xJ
def vW:XF:=.mk 6 (.one 2) (.aft (.seq (g_ 1 [p_ 0 2 (.mv (i_ 0))]) (.seq (g_ 4 [p_ 0 3 (m_ 0),c_ 1 4 80 [.t 3,.c (.int 4 (.ofNat 1099511627776))],p_ 2 5 (.cnw 0 (.t 4)),p_ 3 2 (m_ 5)]) .ret)) [(0,[.upc 0 0 1,.up 2]),(1,[.upc 0 0 1,.up 2])])
theorem wH:bE Tryz.prog 79 vW=true:=by kernel_rfl
structure bH where
 r:ah
structure yA where
 z:Int
 hl:Value
 l:List (List UInt8)
 odd:Prop
def aS (p:bH) (r:yA):Prop:=(r.l=p.r.l.tail∧(r.odd↔p.r.odd∨¬cE 1099511627776 (p.r.l.headD []) r.z)∧((∃z,cE 1099511627776 (p.r.l.headD []) z)→cE 1099511627776 (p.r.l.headD []) r.z)∧ -9223372036854775808≤r.z∧r.z≤9223372036854775807)∧cb r.l
noncomputable def bV (p:bH):IE:=([.ptr 0 0],(aU p.r),3)
noncomputable def sY (p:bH) (K:KE):Bool:=am fun r:yA=>iP (aS p r) (K (.sy (.int 0 r.z)) (aU ({p.r with hl:=r.hl,l:=r.l,odd:=r.odd}:ah)) 3) true
def aO (p:bH):Prop:=cb p.r.l
theorem Ls {p:bH} {K:KE} (hK:sY p K=true) (r:yA) (h:aS p r:=by dsimp only[aS]<;>(exact⟨FH (by assumption),by assumption⟩)):K (.sy (.int 0 r.z)) (aU ({p.r with hl:=r.hl,l:=r.l,odd:=r.odd}:ah)) 3=true:=au h (aG hK r)
theorem Nc (p:bH) (K:KE) (hpre:aO p) (hK:sY p K=true):(bW 1 (di xC) cL 600 vW (bV p).1 (bV p).2.1 (bV p).2.2 K)=true:=by
 refine Eq.trans (b:=(aM (([.ptr 0 0,.int 4 (.ofNat 1099511627776)],(aU p.r),3)) pX jV lE fun p1 r1=>K (.sy (.int 0 ((aH 0).wrap r1.z))) (aU ({p1.r with hl:=r1.hl,l:=r1.l,odd:=r1.odd}:ah)) 3)) (by kernel_rfl) ?_
 dsimp only[aO]at hpre
 refine ay (⟨p.r,(1099511627776:Int)⟩:my) rfl (by(try dsimp only[jV]);exact⟨by assumption,by decide⟩) fun r1 hi1=> ?_
 dsimp only[lE]at hi1
 obtain⟨hi1,hs1⟩:=hi1
 exact Ls hK ⟨(aH 0).wrap r1.z,r1.hl,r1.l,r1.odd⟩
noncomputable def we:cq:=jR (fun us M=>LJ M 14) (bJ bV (dr aO sY)) (fun _ _ _ _=>false)
theorem CD:bR Tryz.prog 79 1 we:=eU (cY (f:=79) (k:=1) (bj xB) wH (by rfl) (by rfl) Nc) ua
noncomputable def ti:=bt xC 1 we 79 []
theorem tW:aV Tryz.prog ti:=aR CD xB
def Bp:XF:=.mk 11 .none (.aft (.seq (g_ 4 [p_ 0 4 (m_ 0),c_ 1 5 78 [.t 4],p_ 2 6 (m_ 1),p_ 3 7 (.bin 5 1 (.t 5) (.t 6))]) (.cond (.t 7) (g_ 4 [p_ 0 8 (m_ 0),p_ 1 9 (n_ 8),p_ 2 10 (f_ 1 9),bl 3 (.st 1 (.t 10) (.c (.bool true)))]) .skip)) [(0,[.upc 0 0 1]),(1,[.upc 0 0 1])])
theorem An:bE Tryz.prog 83 Bp=true:=by kernel_rfl
structure nU where
 r:ah
 t:List Nat
structure Fe where
 hl:Value
 l:List (List UInt8)
 odd:Prop
def qq (p:nU) (r:Fe):Prop:=(r.l=p.r.l.tail∧(r.odd↔p.r.odd∨p.r.l=[]∨¬p.r.l.headD []=p.t.map acX))∧cb r.l
noncomputable def ux (p:nU):IE:=([.ptr 0 0,.str p.t],(aU p.r),3)
noncomputable def xn (p:nU) (K:KE):Bool:=am fun r:Fe=>iP (qq p r) (K (.tup []) (aU ({p.r with hl:=r.hl,l:=r.l,odd:=r.odd}:ah)) 3) true
def oB (p:nU):Prop:=cb p.r.l
theorem Gq {p:nU} {K:KE} (hK:xn p K=true) (r:Fe) (h:qq p r:=by dsimp only[qq]<;>(refine⟨?_,by assumption⟩;first|exact Mn (by assumption) (by assumption)|exact IG (by assumption) (by assumption))):K (.tup []) (aU ({p.r with hl:=r.hl,l:=r.l,odd:=r.odd}:ah)) 3=true:=au h (aG hK r)
theorem RS (p:nU) (K:KE) (hpre:oB p) (hK:xn p K=true):(bW 1 (di ti) cL 600 Bp (ux p).1 (ux p).2.1 (ux p).2.2 K)=true:=by
 refine Eq.trans (b:=(aM (([.ptr 0 0],(aU p.r),3)) iV dh dE fun p1 r1=>iP (¬r1.s=((p.t:List Nat).map acX)) (K (.tup []) (aU ({p1.r with hl:=r1.hl,l:=r1.l,odd:=true=true}:ah)) 3) (K (.tup []) (aU ({p1.r with hl:=r1.hl,l:=r1.l,odd:=r1.odd}:ah)) 3))) (by kernel_rfl) ?_
 dsimp only[oB]at hpre
 refine ay (⟨p.r⟩:gB) rfl (by(try dsimp only[dh]);assumption) fun r1 hi1=> ?_
 dsimp only[dE]at hi1
 obtain⟨hi1,hs1⟩:=hi1
 refine iI (fun hc2=> ?_) (fun hc2=> ?_)
 exact Gq hK ⟨r1.hl,r1.l,true=true⟩
 exact Gq hK ⟨r1.hl,r1.l,r1.odd⟩
noncomputable def BA:cq:=jR (fun us M=>LJ M 14) (bJ ux (dr oB xn)) (fun _ _ _ _=>false)
theorem Ip:bR Tryz.prog 83 1 BA:=eU (cY (f:=83) (k:=1) (bj tW) An (by rfl) (by rfl) RS) ua
noncomputable def xQ:=bt ti 1 BA 83 []
theorem xP:aV Tryz.prog xQ:=aR Ip tW
def Jz:XF:=vX
theorem Ll:bE Tryz.prog 78 Jz=true:=tz
structure mA where
 r:ah
structure Fb where
 s:List UInt8
 hl:Value
 l:List (List UInt8)
 odd:Prop
def lF (p:mA) (r:Fb):Prop:=(r.s=p.r.l.headD []∧r.l=p.r.l.tail∧(r.odd↔p.r.odd∨p.r.l=[]))∧cb r.l
noncomputable def qa (p:mA):IE:=([.ptr 0 0],(iT p.r),3)
noncomputable def xi (p:mA) (K:KE):Bool:=am fun r:Fb=>iP (lF p r) (K (.sy (.str r.s)) (iT ({p.r with hl:=r.hl,l:=r.l,odd:=r.odd}:ah)) 3) true
def jX (p:mA):Prop:=cb p.r.l
theorem Gm {p:mA} {K:KE} (hK:xi p K=true) (r:Fb) (h:lF p r:=by dsimp only[lF]<;>(first|(have e:p.r.l=[]:=acW (by omega);exact⟨by simp[e],hpre⟩)|exact⟨⟨zo (by assumption),yN _,by have e:=Ku (by assumption);simp[e]⟩,uK hpre⟩)):K (.sy (.str r.s)) (iT ({p.r with hl:=r.hl,l:=r.l,odd:=r.odd}:ah)) 3=true:=au h (aG hK r)
theorem RQ (p:mA) (K:KE) (hpre:jX p) (hK:xi p K=true):(bW 1 (di xQ) cL 600 Jz (qa p).1 (qa p).2.1 (qa p).2.2 K)=true:=by
 refine Eq.trans (b:=(iP ((p.r.l.length:Int)=(0:Int)) (K (.sy (.str bF)) (iT ({p.r with odd:=true=true}:ah)) 3) (mP (0≤(0:Int)∧(0:Int)<(p.r.l.length:Int)) (am fun x1:(List UInt8)=>iP (p.r.l[0]?=some x1) (mP (0≤(1:Int)∧(1:Int)≤(p.r.l.length:Int)∧(p.r.l.length:Int)≤(p.r.l.length:Int)) (K (.sy (.str x1)) (iT ({p.r with hl:=Jb p.r.hl 1 1 p.r.l.length,l:=(p.r.l.drop 1).take (p.r.l.length - 1)}:ah)) 3)) true)))) (by kernel_rfl) ?_
 dsimp only[jX]at hpre
 have hlen:=hpre.1
 refine iI (fun hc1=> ?_) (fun hc1=> ?_)
 exact Gm hK ⟨bF,p.r.hl,p.r.l,true=true⟩
 refine er ?_
 refine az (fun x1=> ?_)
 refine iI (fun hi2=> ?_) (fun _=>rfl)
 refine mI (by(first|omega|(simp[eN]<;>omega))) ?_
 exact Gm hK ⟨x1,Jb p.r.hl 1 1 p.r.l.length,(p.r.l.drop 1).take (p.r.l.length - 1),p.r.odd⟩
noncomputable def Bx:cq:=jR (fun us M=>AD M) (bJ qa (dr jX xi)) By
theorem Il:bR Tryz.prog 78 1 Bx:=eU (cY (f:=78) (k:=1) (bj xP) Ll (by rfl) (by rfl) RQ) Im
noncomputable def xI:=bt xQ 1 Bx 78 []
theorem qR:aV Tryz.prog xI:=aR Il xP
def Jh:XF:=vV
theorem Al:bE Tryz.prog 80 Jh=true:=tx
structure la where
 r:ah
 m:Int
structure zG where
 z:Int
 hl:Value
 l:List (List UInt8)
 odd:Prop
def kn (p:la) (r:zG):Prop:=(r.l=p.r.l.tail∧(r.odd↔p.r.odd∨¬cE p.m (p.r.l.headD []) r.z)∧((∃z,cE p.m (p.r.l.headD []) z)→cE p.m (p.r.l.headD []) r.z)∧0≤r.z∧r.z≤18446744073709551615)∧cb r.l
noncomputable def iU (p:la):IE:=([.ptr 0 0,.int 4 p.m],(iT p.r),3)
noncomputable def rT (p:la) (K:KE):Bool:=am fun r:zG=>iP (kn p r) (K (.sy (.int 4 r.z)) (iT ({p.r with hl:=r.hl,l:=r.l,odd:=r.odd}:ah)) 3) true
def hQ (p:la):Prop:=cb p.r.l∧p.m≤18446744073709551615
theorem sC {p:la} {K:KE} (hK:rT p K=true) (r:zG) (h:kn p r:=by dsimp only[kn]<;>(refine⟨?_,by assumption⟩;first|exact DD q3 (by assumption) (by assumption) (by assumption) (by assumption)|exact Ax q3 (by assumption) (by assumption) (by first|exact .inl (by assumption)|exact .inr (by assumption))|exact Aw q3 (by assumption) (by assumption) (by assumption))):K (.sy (.int 4 r.z)) (iT ({p.r with hl:=r.hl,l:=r.l,odd:=r.odd}:ah)) 3=true:=au h (aG hK r)
theorem Ht (p:la) (K:KE) (hpre:hQ p) (hK:rT p K=true):(bW 1 (di xI) cL 600 Jh (iU p).1 (iU p).2.1 (iU p).2.2 K)=true:=by
 refine Eq.trans (b:=(aM (([.ptr 0 0],(iT p.r),3)) qa jX lF fun p1 r1=>mP (r1.s.length≤1000000) (ac (am fun u1:Nat=>iP (Lib.parseMag r1.s= .ok u1∧u1≤18446744073709551615) (iP ((p.m:Int)<(u1:Int)) (K (.sy (.int 4 (u1:Int))) (iT ({p1.r with hl:=r1.hl,l:=r1.l,odd:=true=true}:ah)) 3) (mP (bp 4 (u1:Int)) (iP (¬(Lib.itoa (u1:Int))=r1.s) (K (.sy (.int 4 (u1:Int))) (iT ({p1.r with hl:=r1.hl,l:=r1.l,odd:=true=true}:ah)) 3) (K (.sy (.int 4 (u1:Int))) (iT ({p1.r with hl:=r1.hl,l:=r1.l,odd:=r1.odd}:ah)) 3)))) true) (iP (∀u,¬Lib.parseMag r1.s= .ok u) (am fun z1:Int=>iP (0≤z1∧z1≤18446744073709551615) (am fun e1:Nat=>K (.sy (.int 4 z1)) (iT ({p1.r with hl:=r1.hl,l:=r1.l,odd:=true=true}:ah)) 3) true) true)))) (by kernel_rfl) ?_
 dsimp only[hQ]at hpre
 obtain⟨q1,q3⟩:=hpre
 have q2:=q1.2
 refine ay (⟨p.r⟩:mA) rfl (by(try dsimp only[jX]);assumption) fun r1 hi1=> ?_
 dsimp only[lF]at hi1
 obtain⟨hi1,hs1⟩:=hi1
 refine mI (by exact DC (by assumption) q2) ?_
 refine aE ?_ ?_
 refine az (fun u1=> ?_)
 refine iI (fun hi2=> ?_) (fun _=>rfl)
 refine iI (fun hc3=> ?_) (fun hc3=> ?_)
 exact sC hK ⟨(u1:Int),r1.hl,r1.l,true=true⟩
 refine bG ?_
 refine iI (fun hc4=> ?_) (fun hc4=> ?_)
 exact sC hK ⟨(u1:Int),r1.hl,r1.l,true=true⟩
 exact sC hK ⟨(u1:Int),r1.hl,r1.l,r1.odd⟩
 refine iI (fun hi5=> ?_) (fun _=>rfl)
 refine az (fun z1=> ?_)
 refine iI (fun hi6=> ?_) (fun _=>rfl)
 refine az (fun e1=> ?_)
 exact sC hK ⟨z1,r1.hl,r1.l,true=true⟩
noncomputable def Bv:cq:=jR (fun us M=>AD M) (bJ iU (dr hQ rT)) Bw
theorem Ij:bR Tryz.prog 80 1 Bv:=eU (cY (f:=80) (k:=1) (bj qR) Al (by rfl) (by rfl) Ht) Ik
noncomputable def xA:=bt xI 1 Bv 80 []
theorem qK:aV Tryz.prog xA:=aR Ij qR
theorem SD:bR Tryz.prog 80 1 (bJ iU (dr hQ rT)):=(cY (f:=80) (k:=1) (bj qR) Al (by rfl) (by rfl) Ht)
def CW:XF:=vW
theorem wG:bE Tryz.prog 79 CW=true:=wH
structure ew where
 r:ah
structure sM where
 z:Int
 hl:Value
 l:List (List UInt8)
 odd:Prop
def cS (p:ew) (r:sM):Prop:=(r.l=p.r.l.tail∧(r.odd↔p.r.odd∨¬cE 1099511627776 (p.r.l.headD []) r.z)∧((∃z,cE 1099511627776 (p.r.l.headD []) z)→cE 1099511627776 (p.r.l.headD []) r.z)∧ -9223372036854775808≤r.z∧r.z≤9223372036854775807)∧cb r.l
noncomputable def dJ (p:ew):IE:=([.ptr 0 0],(iT p.r),3)
noncomputable def ol (p:ew) (K:KE):Bool:=am fun r:sM=>iP (cS p r) (K (.sy (.int 0 r.z)) (iT ({p.r with hl:=r.hl,l:=r.l,odd:=r.odd}:ah)) 3) true
def cz (p:ew):Prop:=cb p.r.l
theorem Lr {p:ew} {K:KE} (hK:ol p K=true) (r:sM) (h:cS p r:=by dsimp only[cS]<;>(exact⟨FH (by assumption),by assumption⟩)):K (.sy (.int 0 r.z)) (iT ({p.r with hl:=r.hl,l:=r.l,odd:=r.odd}:ah)) 3=true:=au h (aG hK r)
theorem Cj (p:ew) (K:KE) (hpre:cz p) (hK:ol p K=true):(bW 1 (di xA) cL 600 CW (dJ p).1 (dJ p).2.1 (dJ p).2.2 K)=true:=by
 refine Eq.trans (b:=(aM (([.ptr 0 0,.int 4 (.ofNat 1099511627776)],(iT p.r),3)) iU hQ kn fun p1 r1=>K (.sy (.int 0 ((aH 0).wrap r1.z))) (iT ({p1.r with hl:=r1.hl,l:=r1.l,odd:=r1.odd}:ah)) 3)) (by kernel_rfl) ?_
 dsimp only[cz]at hpre
 refine ay (⟨p.r,(1099511627776:Int)⟩:la) rfl (by(try dsimp only[hQ]);exact⟨by assumption,by decide⟩) fun r1 hi1=> ?_
 dsimp only[kn]at hi1
 obtain⟨hi1,hs1⟩:=hi1
 exact Lr hK ⟨(aH 0).wrap r1.z,r1.hl,r1.l,r1.odd⟩
noncomputable def wc:cq:=jR (fun us M=>AD M) (bJ dJ (dr cz ol)) we
theorem CC:bR Tryz.prog 79 1 wc:=eU (cY (f:=79) (k:=1) (bj qK) wG (by rfl) (by rfl) Cj) CD
noncomputable def th:=bt xA 1 wc 79 []
theorem nC:aV Tryz.prog th:=aR CC qK
theorem NP:bR Tryz.prog 79 1 (bJ dJ (dr cz ol)):=(cY (f:=79) (k:=1) (bj qK) wG (by rfl) (by rfl) Cj)
def JA:XF:=Bp
theorem Am:bE Tryz.prog 83 JA=true:=An
structure fO where
 r:ah
 t:List Nat
structure zH where
 hl:Value
 l:List (List UInt8)
 odd:Prop
def dw (p:fO) (r:zH):Prop:=(r.l=p.r.l.tail∧(r.odd↔p.r.odd∨p.r.l=[]∨¬p.r.l.headD []=p.t.map acX))∧cb r.l
noncomputable def eY (p:fO):IE:=([.ptr 0 0,.str p.t],(iT p.r),3)
noncomputable def rU (p:fO) (K:KE):Bool:=am fun r:zH=>iP (dw p r) (K (.tup []) (iT ({p.r with hl:=r.hl,l:=r.l,odd:=r.odd}:ah)) 3) true
def cJ (p:fO):Prop:=cb p.r.l
theorem Gp {p:fO} {K:KE} (hK:rU p K=true) (r:zH) (h:dw p r:=by dsimp only[dw]<;>(refine⟨?_,by assumption⟩;first|exact Mn (by assumption) (by assumption)|exact IG (by assumption) (by assumption))):K (.tup []) (iT ({p.r with hl:=r.hl,l:=r.l,odd:=r.odd}:ah)) 3=true:=au h (aG hK r)
theorem Hw (p:fO) (K:KE) (hpre:cJ p) (hK:rU p K=true):(bW 1 (di th) cL 600 JA (eY p).1 (eY p).2.1 (eY p).2.2 K)=true:=by
 refine Eq.trans (b:=(aM (([.ptr 0 0],(iT p.r),3)) qa jX lF fun p1 r1=>iP (¬r1.s=((p.t:List Nat).map acX)) (K (.tup []) (iT ({p1.r with hl:=r1.hl,l:=r1.l,odd:=true=true}:ah)) 3) (K (.tup []) (iT ({p1.r with hl:=r1.hl,l:=r1.l,odd:=r1.odd}:ah)) 3))) (by kernel_rfl) ?_
 dsimp only[cJ]at hpre
 refine ay (⟨p.r⟩:mA) rfl (by(try dsimp only[jX]);assumption) fun r1 hi1=> ?_
 dsimp only[lF]at hi1
 obtain⟨hi1,hs1⟩:=hi1
 refine iI (fun hc2=> ?_) (fun hc2=> ?_)
 exact Gp hK ⟨r1.hl,r1.l,true=true⟩
 exact Gp hK ⟨r1.hl,r1.l,r1.odd⟩
noncomputable def Bz:cq:=jR (fun us M=>AD M) (bJ eY (dr cJ rU)) BA
theorem Io:bR Tryz.prog 83 1 Bz:=eU (cY (f:=83) (k:=1) (bj nC) Am (by rfl) (by rfl) Hw) Ip
noncomputable def xO:=bt th 1 Bz 83 []
theorem xN:aV Tryz.prog xO:=aR Io nC
theorem SE:bR Tryz.prog 83 1 (bJ eY (dr cJ rU)):=(cY (f:=83) (k:=1) (bj nC) Am (by rfl) (by rfl) Hw)
def Jy:XF:=vX
theorem Lk:bE Tryz.prog 78 Jy=true:=tz
structure fM where
 r:WdR
structure Fa where
 s:List UInt8
 hl:Value
 l:List (List UInt8)
 odd:Prop
def dm (p:fM) (r:Fa):Prop:=(r.s=p.r.l.headD []∧r.l=p.r.l.tail∧(r.odd↔p.r.odd∨p.r.l=[]))∧cb r.l
noncomputable def gX (p:fM):IE:=([.ptr 0 0],(.node .leaf (some (.blk false 58 2 [[.sy (.imm p.r.hl 1 (List UInt8) p.r.l aP),.sy (.bool p.r.odd)]])) .leaf),1)
noncomputable def xg (p:fM) (K:KE):Bool:=am fun r:Fa=>iP (dm p r) (K (.sy (.str r.s)) (.node .leaf (some (.blk false 58 2 [[.sy (.imm r.hl 1 (List UInt8) r.l aP),.sy (.bool r.odd)]])) .leaf) 1) true
def cI (p:fM):Prop:=cb p.r.l
theorem Gl {p:fM} {K:KE} (hK:xg p K=true) (r:Fa) (h:dm p r:=by dsimp only[dm]<;>(first|(have e:p.r.l=[]:=acW (by omega);exact⟨by simp[e],hpre⟩)|exact⟨⟨zo (by assumption),yN _,by have e:=Ku (by assumption);simp[e]⟩,uK hpre⟩)):K (.sy (.str r.s)) (.node .leaf (some (.blk false 58 2 [[.sy (.imm r.hl 1 (List UInt8) r.l aP),.sy (.bool r.odd)]])) .leaf) 1=true:=au h (aG hK r)
theorem RP (p:fM) (K:KE) (hpre:cI p) (hK:xg p K=true):(bW 1 (di xO) cL 600 Jy (gX p).1 (gX p).2.1 (gX p).2.2 K)=true:=by
 refine Eq.trans (b:=(iP ((p.r.l.length:Int)=(0:Int)) (K (.sy (.str bF)) (.node .leaf (some (.blk false 58 2 [[.sy (.imm p.r.hl 1 (List UInt8) p.r.l aP),.sy (.bool (true=true))]])) .leaf) 1) (mP (0≤(0:Int)∧(0:Int)<(p.r.l.length:Int)) (am fun x1:(List UInt8)=>iP (p.r.l[0]?=some x1) (mP (0≤(1:Int)∧(1:Int)≤(p.r.l.length:Int)∧(p.r.l.length:Int)≤(p.r.l.length:Int)) (K (.sy (.str x1)) (.node .leaf (some (.blk false 58 2 [[.sy (.imm (Jb p.r.hl 1 1 p.r.l.length) 1 (List UInt8) ((p.r.l.drop 1).take (p.r.l.length - 1)) aP),.sy (.bool p.r.odd)]])) .leaf) 1)) true)))) (by kernel_rfl) ?_
 dsimp only[cI]at hpre
 have hlen:=hpre.1
 refine iI (fun hc1=> ?_) (fun hc1=> ?_)
 exact Gl hK ⟨bF,p.r.hl,p.r.l,true=true⟩
 refine er ?_
 refine az (fun x1=> ?_)
 refine iI (fun hi2=> ?_) (fun _=>rfl)
 refine mI (by(first|omega|(simp[eN]<;>omega))) ?_
 exact Gl hK ⟨x1,Jb p.r.hl 1 1 p.r.l.length,(p.r.l.drop 1).take (p.r.l.length - 1),p.r.odd⟩
noncomputable def JZ:cq:=jR (fun us M=>LJ M 2) (bJ gX (dr cI xg)) Bx
theorem SZ:bR Tryz.prog 78 1 JZ:=eU (cY (f:=78) (k:=1) (bj xN) Lk (by rfl) (by rfl) RP) Il
noncomputable def xH:=bt xO 1 JZ 78 []
theorem xG:aV Tryz.prog xH:=aR SZ xN
def Jg:XF:=vV
theorem Lb:bE Tryz.prog 80 Jg=true:=tx
structure kZ where
 r:WdR
 m:Int
structure EU where
 z:Int
 hl:Value
 l:List (List UInt8)
 odd:Prop
def jk (p:kZ) (r:EU):Prop:=(r.l=p.r.l.tail∧(r.odd↔p.r.odd∨¬cE p.m (p.r.l.headD []) r.z)∧((∃z,cE p.m (p.r.l.headD []) z)→cE p.m (p.r.l.headD []) r.z)∧0≤r.z∧r.z≤18446744073709551615)∧cb r.l
noncomputable def nO (p:kZ):IE:=([.ptr 0 0,.int 4 p.m],(.node .leaf (some (.blk false 58 2 [[.sy (.imm p.r.hl 1 (List UInt8) p.r.l aP),.sy (.bool p.r.odd)]])) .leaf),1)
noncomputable def wW (p:kZ) (K:KE):Bool:=am fun r:EU=>iP (jk p r) (K (.sy (.int 4 r.z)) (.node .leaf (some (.blk false 58 2 [[.sy (.imm r.hl 1 (List UInt8) r.l aP),.sy (.bool r.odd)]])) .leaf) 1) true
def hP (p:kZ):Prop:=cb p.r.l∧p.m≤18446744073709551615
theorem sx {p:kZ} {K:KE} (hK:wW p K=true) (r:EU) (h:jk p r:=by dsimp only[jk]<;>(refine⟨?_,by assumption⟩;first|exact DD q3 (by assumption) (by assumption) (by assumption) (by assumption)|exact Ax q3 (by assumption) (by assumption) (by first|exact .inl (by assumption)|exact .inr (by assumption))|exact Aw q3 (by assumption) (by assumption) (by assumption))):K (.sy (.int 4 r.z)) (.node .leaf (some (.blk false 58 2 [[.sy (.imm r.hl 1 (List UInt8) r.l aP),.sy (.bool r.odd)]])) .leaf) 1=true:=au h (aG hK r)
theorem RG (p:kZ) (K:KE) (hpre:hP p) (hK:wW p K=true):(bW 1 (di xH) cL 600 Jg (nO p).1 (nO p).2.1 (nO p).2.2 K)=true:=by
 refine Eq.trans (b:=(aM (([.ptr 0 0],(.node .leaf (some (.blk false 58 2 [[.sy (.imm p.r.hl 1 (List UInt8) p.r.l aP),.sy (.bool p.r.odd)]])) .leaf),1)) gX cI dm fun p1 r1=>mP (r1.s.length≤1000000) (ac (am fun u1:Nat=>iP (Lib.parseMag r1.s= .ok u1∧u1≤18446744073709551615) (iP ((p.m:Int)<(u1:Int)) (K (.sy (.int 4 (u1:Int))) (.node .leaf (some (.blk false 58 2 [[.sy (.imm r1.hl 1 (List UInt8) r1.l aP),.sy (.bool (true=true))]])) .leaf) 1) (mP (bp 4 (u1:Int)) (iP (¬(Lib.itoa (u1:Int))=r1.s) (K (.sy (.int 4 (u1:Int))) (.node .leaf (some (.blk false 58 2 [[.sy (.imm r1.hl 1 (List UInt8) r1.l aP),.sy (.bool (true=true))]])) .leaf) 1) (K (.sy (.int 4 (u1:Int))) (.node .leaf (some (.blk false 58 2 [[.sy (.imm r1.hl 1 (List UInt8) r1.l aP),.sy (.bool r1.odd)]])) .leaf) 1)))) true) (iP (∀u,¬Lib.parseMag r1.s= .ok u) (am fun z1:Int=>iP (0≤z1∧z1≤18446744073709551615) (am fun e1:Nat=>K (.sy (.int 4 z1)) (.node .leaf (some (.blk false 58 2 [[.sy (.imm r1.hl 1 (List UInt8) r1.l aP),.sy (.bool (true=true))]])) .leaf) 1) true) true)))) (by kernel_rfl) ?_
 dsimp only[hP]at hpre
 obtain⟨q1,q3⟩:=hpre
 have q2:=q1.2
 refine ay (⟨p.r⟩:fM) rfl (by(try dsimp only[cI]);assumption) fun r1 hi1=> ?_
 dsimp only[dm]at hi1
 obtain⟨hi1,hs1⟩:=hi1
 refine mI (by exact DC (by assumption) q2) ?_
 refine aE ?_ ?_
 refine az (fun u1=> ?_)
 refine iI (fun hi2=> ?_) (fun _=>rfl)
 refine iI (fun hc3=> ?_) (fun hc3=> ?_)
 exact sx hK ⟨(u1:Int),r1.hl,r1.l,true=true⟩
 refine bG ?_
 refine iI (fun hc4=> ?_) (fun hc4=> ?_)
 exact sx hK ⟨(u1:Int),r1.hl,r1.l,true=true⟩
 exact sx hK ⟨(u1:Int),r1.hl,r1.l,r1.odd⟩
 refine iI (fun hi5=> ?_) (fun _=>rfl)
 refine az (fun z1=> ?_)
 refine iI (fun hi6=> ?_) (fun _=>rfl)
 refine az (fun e1=> ?_)
 exact sx hK ⟨z1,r1.hl,r1.l,true=true⟩
noncomputable def Bu:cq:=jR (fun us M=>LJ M 2) (bJ nO (dr hP wW)) Bv
theorem Ii:bR Tryz.prog 80 1 Bu:=eU (cY (f:=80) (k:=1) (bj xG) Lb (by rfl) (by rfl) RG) Ij
noncomputable def FJ:=bt xH 1 Bu 80 []
theorem Ir:aV Tryz.prog FJ:=aR Ii xG
noncomputable def JV:cq:=fun us M nx K=>aF fun p:fO=>mP ((us,M,nx)=eY p) (mP (cJ p) (am fun r:zH=>iP (dw p r) (K (.tup []) (iT ({p.r with hl:=r.hl,l:=r.l,odd:=r.odd,set:=(Tz M)}:ah)) 3) true))
theorem SQ:bR Tryz.prog 83 1 JV:=by
 intro us xs E ρ G F M nx w K R h1 h2 h3 hk h5
 refine SE us xs E ρ G F M nx w K R h1 h2 h3 ?_ h5
 obtain⟨p,hk1⟩:=bL hk
 obtain⟨e,hk2⟩:=aa hk1
 obtain⟨hp,hk3⟩:=aa hk2
 have e1:us=(eY p).1:=congrArg Prod.fst e
 have e2:M=(eY p).2.1:=congrArg (fun x=>x.2.1) e
 have e3:nx=(eY p).2.2:=congrArg (fun x=>x.2.2) e
 subst e1;subst e2;subst e3
 exact aK p (ba rfl (ba hp hk3))
noncomputable def Gv:cq:=jR (fun us M=>AD M) JV Bz
theorem Qq:bR Tryz.prog 83 1 Gv:=eU SQ Io
noncomputable def CH:=bt FJ 1 Gv 83 []
theorem GG:aV Tryz.prog CH:=aR Qq Ir
noncomputable def Db:cq:=fun us M nx K=>aF fun p:ew=>mP ((us,M,nx)=dJ p) (mP (cz p) (am fun r:sM=>iP (cS p r) (K (.sy (.int 0 r.z)) (iT ({p.r with hl:=r.hl,l:=r.l,odd:=r.odd,set:=(Tz M)}:ah)) 3) true))
theorem Og:bR Tryz.prog 79 1 Db:=by
 intro us xs E ρ G F M nx w K R h1 h2 h3 hk h5
 refine NP us xs E ρ G F M nx w K R h1 h2 h3 ?_ h5
 obtain⟨p,hk1⟩:=bL hk
 obtain⟨e,hk2⟩:=aa hk1
 obtain⟨hp,hk3⟩:=aa hk2
 have e1:us=(dJ p).1:=congrArg Prod.fst e
 have e2:M=(dJ p).2.1:=congrArg (fun x=>x.2.1) e
 have e3:nx=(dJ p).2.2:=congrArg (fun x=>x.2.2) e
 subst e1;subst e2;subst e3
 exact aK p (ba rfl (ba hp hk3))
noncomputable def Aq:cq:=jR (fun us M=>AD M) Db wc
theorem KV:bR Tryz.prog 79 1 Aq:=eU Og CC
noncomputable def xF:=bt CH 1 Aq 79 []
theorem CE:aV Tryz.prog xF:=aR KV GG
noncomputable def JU:cq:=fun us M nx K=>aF fun p:la=>mP ((us,M,nx)=iU p) (mP (hQ p) (am fun r:zG=>iP (kn p r) (K (.sy (.int 4 r.z)) (iT ({p.r with hl:=r.hl,l:=r.l,odd:=r.odd,set:=(Tz M)}:ah)) 3) true))
theorem SP:bR Tryz.prog 80 1 JU:=by
 intro us xs E ρ G F M nx w K R h1 h2 h3 hk h5
 refine SD us xs E ρ G F M nx w K R h1 h2 h3 ?_ h5
 obtain⟨p,hk1⟩:=bL hk
 obtain⟨e,hk2⟩:=aa hk1
 obtain⟨hp,hk3⟩:=aa hk2
 have e1:us=(iU p).1:=congrArg Prod.fst e
 have e2:M=(iU p).2.1:=congrArg (fun x=>x.2.1) e
 have e3:nx=(iU p).2.2:=congrArg (fun x=>x.2.2) e
 subst e1;subst e2;subst e3
 exact aK p (ba rfl (ba hp hk3))
noncomputable def Gu:cq:=jR (fun us M=>AD M) JU Bu
theorem Qp:bR Tryz.prog 80 1 Gu:=eU SP Ii
noncomputable def vo:=bt xF 1 Gu 80 []
theorem wu:aV Tryz.prog vo:=aR Qp CE
end Go.Proofs.Tryz
namespace Go.Proofs.Tryz
open Go.Proofs.YtacomabmhnodlaaGreatDoor (zf nD wL lT qX nE pt)
open Go Go.RowKit Go.Sy
open Go.Eng hiding am
set_option maxRecDepth 1000000
set_option linter.unusedVariables false
set_option maxHeartbeats 4000000
open Go.Txt (wds)
def Gg:XF:=.mk 55 (.ct 2 true 5 3) (.aft (.seq (g_ 2 [e_ 0 2 (.al 124 [.int 1 (.ofNat 0),.int 1 (.ofNat 0),.str [],.str [],.int 0 (.ofNat 0)]),p_ 1 3 (.mv (.c (.bool false)))]) (.seq (g_ 5 [p_ 0 7 (m_ 0),c_ 1 8 47 [.t 7,.c (.str [58])],p_ 2 9 (.bld [.nilS,.bool false] [(0,1)] [.t 8]),e_ 3 4 (.al 58 [.nilS,.bool false]),bl 4 (.st 2 (.t 4) (.t 9))]) (.seq (.pre [.upc 1 0 1] (g_ 5 [c_ 0 10 80 [.t 4,.c (.int 4 (.ofNat 3))],p_ 1 11 (.cnw 1 (.t 10)),p_ 2 12 (.bld [.int 1 (.ofNat 0),.int 1 (.ofNat 0),.str [],.str [],.int 0 (.ofNat 0)] [(0,1)] [.t 11]),e_ 3 5 (.al 124 [.int 1 (.ofNat 0),.int 1 (.ofNat 0),.str [],.str [],.int 0 (.ofNat 0)]),bl 4 (.st 5 (.t 5) (.t 12))])) (.seq (g_ 2 [c_ 0 13 78 [.t 4],p_ 1 6 (m_ 13)]) (.seq (.seq (g_ 2 [p_ 0 14 (f_ 1 5),bl 1 (.st 1 (.t 14) (.c (.int 1 (.ofNat 0))))]) (.block 2 (.loop [2,3,4,5,6,15,16,17,18,19,20,21,22,23,24,25,26,27,28,29,30,31,32,33,34,35,36,37,38,39,40,41,42,43,44,45,46,47,48,49,50,51,52,53,54] (.seq (.seq (g_ 10 [p_ 0 15 (f_ 1 5),r_ 1 16 (l_ 15),p_ 2 17 (.bin 3 0 (.t 16) (.c (.int 1 (.ofNat 4)))),p_ 3 18 (m_ 17),aj 4 19 18 true (f_ 1 5),aT 5 20 18 true (l_ 19),fX 6 21 18 true 91 [.t 20],aj 7 22 18 true (m_ 6),aj 8 23 18 true (.bin 5 1 (.t 21) (.t 22)),p_ 9 24 (.pick (.t 18) (.t 23) (.c (.bool false)))]) (.cond (.t 24) .skip (.exit 2))) (.seq (.block 3 .skip) (g_ 5 [p_ 0 25 (f_ 1 5),r_ 1 26 (l_ 25),p_ 2 27 (.bin 0 0 (.t 26) (.c (.int 1 (.ofNat 1)))),p_ 3 28 (f_ 1 5),bl 4 (.st 1 (.t 28) (.t 27))])))))) (.seq (.seq (g_ 5 [p_ 0 29 (f_ 1 5),r_ 1 30 (l_ 29),c_ 2 31 91 [.t 30],p_ 3 32 (m_ 6),p_ 4 33 (.bin 5 1 (.t 31) (.t 32))]) (.cond (.t 33) (.seq (g_ 3 [r_ 0 34 (.ld true 5 (.t 5)),bl 1 (.st 5 (.t 2) (.t 34)),p_ 2 3 (.mv (.c (.bool false)))]) .ret) .skip)) (.seq (g_ 3 [c_ 0 35 78 [.t 4],p_ 1 36 (f_ 2 5),bl 2 (.st 1 (.t 36) (.t 35))]) (.seq (.seq (g_ 2 [p_ 0 37 (f_ 1 5),r_ 1 38 (l_ 37)]) (.block 4 (.seq (g_ 2 [p_ 0 40 (.bin 3 4 (.t 38) (.c (.int 1 (.ofNat 1)))),p_ 1 39 (m_ 40)]) (.cond (.t 39) (g_ 3 [c_ 0 41 78 [.t 4],p_ 1 42 (f_ 3 5),bl 2 (.st 1 (.t 42) (.t 41))]) (.seq (.seq (g_ 2 [p_ 0 44 (.bin 3 4 (.t 38) (.c (.int 1 (.ofNat 2)))),p_ 1 43 (m_ 44)]) (.cond (.t 43) .skip (g_ 2 [p_ 0 45 (.bin 3 4 (.t 38) (.c (.int 1 (.ofNat 3)))),p_ 1 43 (m_ 45)]))) (.cond (.t 43) (g_ 4 [c_ 0 46 80 [.t 4,.c (.int 4 (.ofNat 9223372036854775807))],p_ 1 47 (.cnw 0 (.t 46)),p_ 2 48 (f_ 4 5),bl 3 (.st 1 (.t 48) (.t 47))]) .skip)))))) (.seq (.pre [.can 0 [2,4,5],.upc 2 0 0,.upc 2 0 1,.upc 2 0 2,.upc 2 0 3,.upc 2 0 4] (h_ 8 [r_ 0 49 (.ld true 5 (.t 5)),c_ 1 50 82 [.t 4],a_ 0 49 (.ld true 5 (.t 5)),p_ 2 51 (m_ 50),aT 3 52 51 true (.ld true 5 (.t 5)),fX 4 53 51 true 71 [.t 52],a_ 0 49 (.ld true 5 (.t 5)),p_ 5 54 (.pick (.t 51) (.t 53) (.c (.bool false))),bl 6 (.st 5 (.t 2) (.t 49)),p_ 7 3 (m_ 54)])) .ret))))))))) [(0,[.upc 0 0 0,.upc 0 0 1,.upc 0 0 2,.upc 0 0 3,.upc 0 0 4,.up 3]),(1,[.upc 0 0 0,.upc 0 0 1,.upc 0 0 2,.upc 0 0 3,.upc 0 0 4,.up 3])])
theorem Jw:bE Tryz.prog 81 Gg=true:=by kernel_rfl
structure lP where
 s:List UInt8
structure Ca where
 p:aB
 q:Prop
def oG (p:lP) (r:Ca):Prop:=rQ p.s r.q ⟨r.p.g,r.p.k,r.p.key,r.p.val,r.p.n⟩
noncomputable def ru (p:lP):IE:=([.sy (.str p.s)],.leaf,0)
noncomputable def vd (p:lP) (K:KE):Bool:=am fun r:Ca=>iP (oG p r) (K (.tup [.agg [.sy (.int 1 r.p.g),.sy (.int 1 r.p.k),.sy (.str r.p.key),.sy (.str r.p.val),.sy (.int 0 r.p.n)],.sy (.bool r.q)]) .leaf 0) true
def mK (p:lP):Prop:=p.s.length≤100000
theorem co {p:lP} {K:KE} (hK:vd p K=true) (r:Ca) (h:oG p r:=by dsimp only[oG]<;>(first|exact Qd (by assumption) (by assumption) (by assumption) (by first|exact LC (Classical.not_not.1 (by assumption))|exact LC (by assumption)|exact LB (Classical.not_not.1 (by assumption))|exact LB (by assumption)|exact LA (Classical.not_not.1 (by assumption))|exact LA (by assumption)|exact Lz (Classical.not_not.1 (by assumption))|exact Lz (by assumption)|exact Ly (Classical.not_not.1 (by assumption))|exact Ly (by assumption)) (by decide) (by simp) (by first|exact Aj (by assumption) (by assumption) (by assumption)|exact Ai (by assumption)|exact Ah (by assumption))|exact Qc (by assumption) (by assumption) (by assumption) (by assumption) (by first|exact LC (Classical.not_not.1 (by assumption))|exact LC (by assumption)|exact LB (Classical.not_not.1 (by assumption))|exact LB (by assumption)|exact LA (Classical.not_not.1 (by assumption))|exact LA (by assumption)|exact Lz (Classical.not_not.1 (by assumption))|exact Lz (by assumption)|exact Ly (Classical.not_not.1 (by assumption))|exact Ly (by assumption)) (by simp) (by first|exact Aj (by assumption) (by assumption) (by assumption)|exact Ai (by assumption)|exact Ah (by assumption))|exact Qb (by assumption) (by assumption) (by assumption) (by assumption) (by first|exact LC (Classical.not_not.1 (by assumption))|exact LC (by assumption)|exact LB (Classical.not_not.1 (by assumption))|exact LB (by assumption)|exact LA (Classical.not_not.1 (by assumption))|exact LA (by assumption)|exact Lz (Classical.not_not.1 (by assumption))|exact Lz (by assumption)|exact Ly (Classical.not_not.1 (by assumption))|exact Ly (by assumption)) (by decide) (by simp) (by first|exact Aj (by assumption) (by assumption) (by assumption)|exact Ai (by assumption)|exact Ah (by assumption))|exact Qa (by assumption) (by assumption) (Xh (by assumption) (by assumption) (by assumption) (by assumption) (by assumption))|(exfalso;contradiction))):K (.tup [.agg [.sy (.int 1 r.p.g),.sy (.int 1 r.p.k),.sy (.str r.p.key),.sy (.str r.p.val),.sy (.int 0 r.p.n)],.sy (.bool r.q)]) .leaf 0=true:=au h (aG hK r)
theorem Pw (p:lP) (K:KE) (hpre:mK p) (hK:vd p K=true):(bW 0 (di vo) cL 600 Gg (ru p).1 (ru p).2.1 (ru p).2.2 K)=true:=by
 refine Eq.trans (b:=(ac (Nat.blt 58 256) (mP (p.s.length≤1000000) (am fun h1:Value=>aM (([.ptr 0 0,.int 4 (.ofNat 3)],(.node .leaf (some (.blk false 58 2 [[.sy (.imm h1 1 (List UInt8) (Txt.wds (acX 58) p.s) aP),.sy (.bool (false=true))]])) .leaf),1)) nO hP jk fun p1 r1=>aM (([.ptr 0 0],(.node .leaf (some (.blk false 58 2 [[.sy (.imm r1.hl 1 (List UInt8) r1.l aP),.sy (.bool r1.odd)]])) .leaf),1)) gX cI dm fun p2 r2=>iP (¬(([114,101,97,100]:List Nat).map acX)=r2.s) (iP (¬(([119,114,105,116,101]:List Nat).map acX)=r2.s) (iP (¬(([97,100,100]:List Nat).map acX)=r2.s) (iP (¬(([116,97,107,101]:List Nat).map acX)=r2.s) (iP (¬(([101,114,97,115,101]:List Nat).map acX)=r2.s) (K (.tup [.agg [.sy (.int 1 ((aH 1).wrap r1.z)),.sy (.int 1 4),.sy (.str bF),.sy (.str bF),.sy (.int 0 0)],.sy (.bool (false=true))]) .leaf 0) (aM (([.ptr 0 0],(.node .leaf (some (.blk false 58 2 [[.sy (.imm r2.hl 1 (List UInt8) r2.l aP),.sy (.bool r2.odd)]])) .leaf),1)) gX cI dm fun p3 r3=>iP (¬r3.odd) (ac (qL [qI 1 ((aH 1).wrap r1.z),qI 1 4,qS r3.s,qS bF,qI 0 0]) (iP ((r3.l.length:Int)=(0:Int)) (aF fun p4:dL=>mP (([.agg [.sy (.int 1 ((aH 1).wrap r1.z)),.sy (.int 1 4),.sy (.str r3.s),.sy (.str bF),.sy (.int 0 0)]],.leaf,0)=iH p4) (am fun r4:jw=>iP (cR p4 r4) (ac (qL [qI 1 ((aH 1).wrap r1.z),qI 1 4,qS r3.s,qS bF,qI 0 0]) (K (.tup [.agg [.sy (.int 1 ((aH 1).wrap r1.z)),.sy (.int 1 4),.sy (.str r3.s),.sy (.str bF),.sy (.int 0 0)],.sy (.bool r4.q)]) .leaf 0)) true)) (ac (qL [qI 1 ((aH 1).wrap r1.z),qI 1 4,qS r3.s,qS bF,qI 0 0]) (K (.tup [.agg [.sy (.int 1 ((aH 1).wrap r1.z)),.sy (.int 1 4),.sy (.str r3.s),.sy (.str bF),.sy (.int 0 0)],.sy (.bool (false=true))]) .leaf 0)))) (ac (qL [qI 1 ((aH 1).wrap r1.z),qI 1 4,qS r3.s,qS bF,qI 0 0]) (ac (qL [qI 1 ((aH 1).wrap r1.z),qI 1 4,qS r3.s,qS bF,qI 0 0]) (K (.tup [.agg [.sy (.int 1 ((aH 1).wrap r1.z)),.sy (.int 1 4),.sy (.str r3.s),.sy (.str bF),.sy (.int 0 0)],.sy (.bool (false=true))]) .leaf 0))))) (iP (¬(([116,97,107,101]:List Nat).map acX)=r2.s) (K (.tup [.agg [.sy (.int 1 ((aH 1).wrap r1.z)),.sy (.int 1 3),.sy (.str bF),.sy (.str bF),.sy (.int 0 0)],.sy (.bool (false=true))]) .leaf 0) (aM (([.ptr 0 0],(.node .leaf (some (.blk false 58 2 [[.sy (.imm r2.hl 1 (List UInt8) r2.l aP),.sy (.bool r2.odd)]])) .leaf),1)) gX cI dm fun p5 r5=>aM (([.ptr 0 0,.int 4 (.ofNat 9223372036854775807)],(.node .leaf (some (.blk false 58 2 [[.sy (.imm r5.hl 1 (List UInt8) r5.l aP),.sy (.bool r5.odd)]])) .leaf),1)) nO hP jk fun p6 r6=>iP (¬r6.odd) (ac (qL [qI 1 ((aH 1).wrap r1.z),qI 1 3,qS r5.s,qS bF,qI 0 ((aH 0).wrap r6.z)]) (iP ((r6.l.length:Int)=(0:Int)) (aF fun p7:dL=>mP (([.agg [.sy (.int 1 ((aH 1).wrap r1.z)),.sy (.int 1 3),.sy (.str r5.s),.sy (.str bF),.sy (.int 0 ((aH 0).wrap r6.z))]],.leaf,0)=iH p7) (am fun r7:jw=>iP (cR p7 r7) (ac (qL [qI 1 ((aH 1).wrap r1.z),qI 1 3,qS r5.s,qS bF,qI 0 ((aH 0).wrap r6.z)]) (K (.tup [.agg [.sy (.int 1 ((aH 1).wrap r1.z)),.sy (.int 1 3),.sy (.str r5.s),.sy (.str bF),.sy (.int 0 ((aH 0).wrap r6.z))],.sy (.bool r7.q)]) .leaf 0)) true)) (ac (qL [qI 1 ((aH 1).wrap r1.z),qI 1 3,qS r5.s,qS bF,qI 0 ((aH 0).wrap r6.z)]) (K (.tup [.agg [.sy (.int 1 ((aH 1).wrap r1.z)),.sy (.int 1 3),.sy (.str r5.s),.sy (.str bF),.sy (.int 0 ((aH 0).wrap r6.z))],.sy (.bool (false=true))]) .leaf 0)))) (ac (qL [qI 1 ((aH 1).wrap r1.z),qI 1 3,qS r5.s,qS bF,qI 0 ((aH 0).wrap r6.z)]) (ac (qL [qI 1 ((aH 1).wrap r1.z),qI 1 3,qS r5.s,qS bF,qI 0 ((aH 0).wrap r6.z)]) (K (.tup [.agg [.sy (.int 1 ((aH 1).wrap r1.z)),.sy (.int 1 3),.sy (.str r5.s),.sy (.str bF),.sy (.int 0 ((aH 0).wrap r6.z))],.sy (.bool (false=true))]) .leaf 0)))))) (iP (¬(([97,100,100]:List Nat).map acX)=r2.s) (K (.tup [.agg [.sy (.int 1 ((aH 1).wrap r1.z)),.sy (.int 1 2),.sy (.str bF),.sy (.str bF),.sy (.int 0 0)],.sy (.bool (false=true))]) .leaf 0) (aM (([.ptr 0 0],(.node .leaf (some (.blk false 58 2 [[.sy (.imm r2.hl 1 (List UInt8) r2.l aP),.sy (.bool r2.odd)]])) .leaf),1)) gX cI dm fun p8 r8=>aM (([.ptr 0 0,.int 4 (.ofNat 9223372036854775807)],(.node .leaf (some (.blk false 58 2 [[.sy (.imm r8.hl 1 (List UInt8) r8.l aP),.sy (.bool r8.odd)]])) .leaf),1)) nO hP jk fun p9 r9=>iP (¬r9.odd) (ac (qL [qI 1 ((aH 1).wrap r1.z),qI 1 2,qS r8.s,qS bF,qI 0 ((aH 0).wrap r9.z)]) (iP ((r9.l.length:Int)=(0:Int)) (aF fun p10:dL=>mP (([.agg [.sy (.int 1 ((aH 1).wrap r1.z)),.sy (.int 1 2),.sy (.str r8.s),.sy (.str bF),.sy (.int 0 ((aH 0).wrap r9.z))]],.leaf,0)=iH p10) (am fun r10:jw=>iP (cR p10 r10) (ac (qL [qI 1 ((aH 1).wrap r1.z),qI 1 2,qS r8.s,qS bF,qI 0 ((aH 0).wrap r9.z)]) (K (.tup [.agg [.sy (.int 1 ((aH 1).wrap r1.z)),.sy (.int 1 2),.sy (.str r8.s),.sy (.str bF),.sy (.int 0 ((aH 0).wrap r9.z))],.sy (.bool r10.q)]) .leaf 0)) true)) (ac (qL [qI 1 ((aH 1).wrap r1.z),qI 1 2,qS r8.s,qS bF,qI 0 ((aH 0).wrap r9.z)]) (K (.tup [.agg [.sy (.int 1 ((aH 1).wrap r1.z)),.sy (.int 1 2),.sy (.str r8.s),.sy (.str bF),.sy (.int 0 ((aH 0).wrap r9.z))],.sy (.bool (false=true))]) .leaf 0)))) (ac (qL [qI 1 ((aH 1).wrap r1.z),qI 1 2,qS r8.s,qS bF,qI 0 ((aH 0).wrap r9.z)]) (ac (qL [qI 1 ((aH 1).wrap r1.z),qI 1 2,qS r8.s,qS bF,qI 0 ((aH 0).wrap r9.z)]) (K (.tup [.agg [.sy (.int 1 ((aH 1).wrap r1.z)),.sy (.int 1 2),.sy (.str r8.s),.sy (.str bF),.sy (.int 0 ((aH 0).wrap r9.z))],.sy (.bool (false=true))]) .leaf 0)))))) (iP (¬(([119,114,105,116,101]:List Nat).map acX)=r2.s) (K (.tup [.agg [.sy (.int 1 ((aH 1).wrap r1.z)),.sy (.int 1 1),.sy (.str bF),.sy (.str bF),.sy (.int 0 0)],.sy (.bool (false=true))]) .leaf 0) (aM (([.ptr 0 0],(.node .leaf (some (.blk false 58 2 [[.sy (.imm r2.hl 1 (List UInt8) r2.l aP),.sy (.bool r2.odd)]])) .leaf),1)) gX cI dm fun p11 r11=>aM (([.ptr 0 0],(.node .leaf (some (.blk false 58 2 [[.sy (.imm r11.hl 1 (List UInt8) r11.l aP),.sy (.bool r11.odd)]])) .leaf),1)) gX cI dm fun p12 r12=>iP (¬r12.odd) (ac (qL [qI 1 ((aH 1).wrap r1.z),qI 1 1,qS r11.s,qS r12.s,qI 0 0]) (iP ((r12.l.length:Int)=(0:Int)) (aF fun p13:dL=>mP (([.agg [.sy (.int 1 ((aH 1).wrap r1.z)),.sy (.int 1 1),.sy (.str r11.s),.sy (.str r12.s),.sy (.int 0 0)]],.leaf,0)=iH p13) (am fun r13:jw=>iP (cR p13 r13) (ac (qL [qI 1 ((aH 1).wrap r1.z),qI 1 1,qS r11.s,qS r12.s,qI 0 0]) (K (.tup [.agg [.sy (.int 1 ((aH 1).wrap r1.z)),.sy (.int 1 1),.sy (.str r11.s),.sy (.str r12.s),.sy (.int 0 0)],.sy (.bool r13.q)]) .leaf 0)) true)) (ac (qL [qI 1 ((aH 1).wrap r1.z),qI 1 1,qS r11.s,qS r12.s,qI 0 0]) (K (.tup [.agg [.sy (.int 1 ((aH 1).wrap r1.z)),.sy (.int 1 1),.sy (.str r11.s),.sy (.str r12.s),.sy (.int 0 0)],.sy (.bool (false=true))]) .leaf 0)))) (ac (qL [qI 1 ((aH 1).wrap r1.z),qI 1 1,qS r11.s,qS r12.s,qI 0 0]) (ac (qL [qI 1 ((aH 1).wrap r1.z),qI 1 1,qS r11.s,qS r12.s,qI 0 0]) (K (.tup [.agg [.sy (.int 1 ((aH 1).wrap r1.z)),.sy (.int 1 1),.sy (.str r11.s),.sy (.str r12.s),.sy (.int 0 0)],.sy (.bool (false=true))]) .leaf 0)))))) (iP (¬(([114,101,97,100]:List Nat).map acX)=r2.s) (K (.tup [.agg [.sy (.int 1 ((aH 1).wrap r1.z)),.sy (.int 1 0),.sy (.str bF),.sy (.str bF),.sy (.int 0 0)],.sy (.bool (false=true))]) .leaf 0) (aM (([.ptr 0 0],(.node .leaf (some (.blk false 58 2 [[.sy (.imm r2.hl 1 (List UInt8) r2.l aP),.sy (.bool r2.odd)]])) .leaf),1)) gX cI dm fun p14 r14=>iP (¬r14.odd) (ac (qL [qI 1 ((aH 1).wrap r1.z),qI 1 0,qS r14.s,qS bF,qI 0 0]) (iP ((r14.l.length:Int)=(0:Int)) (aF fun p15:dL=>mP (([.agg [.sy (.int 1 ((aH 1).wrap r1.z)),.sy (.int 1 0),.sy (.str r14.s),.sy (.str bF),.sy (.int 0 0)]],.leaf,0)=iH p15) (am fun r15:jw=>iP (cR p15 r15) (ac (qL [qI 1 ((aH 1).wrap r1.z),qI 1 0,qS r14.s,qS bF,qI 0 0]) (K (.tup [.agg [.sy (.int 1 ((aH 1).wrap r1.z)),.sy (.int 1 0),.sy (.str r14.s),.sy (.str bF),.sy (.int 0 0)],.sy (.bool r15.q)]) .leaf 0)) true)) (ac (qL [qI 1 ((aH 1).wrap r1.z),qI 1 0,qS r14.s,qS bF,qI 0 0]) (K (.tup [.agg [.sy (.int 1 ((aH 1).wrap r1.z)),.sy (.int 1 0),.sy (.str r14.s),.sy (.str bF),.sy (.int 0 0)],.sy (.bool (false=true))]) .leaf 0)))) (ac (qL [qI 1 ((aH 1).wrap r1.z),qI 1 0,qS r14.s,qS bF,qI 0 0]) (ac (qL [qI 1 ((aH 1).wrap r1.z),qI 1 0,qS r14.s,qS bF,qI 0 0]) (K (.tup [.agg [.sy (.int 1 ((aH 1).wrap r1.z)),.sy (.int 1 0),.sy (.str r14.s),.sy (.str bF),.sy (.int 0 0)],.sy (.bool (false=true))]) .leaf 0))))))))) (by kernel_rfl) ?_
 dsimp only[mK]at hpre
 have hw:cb (Txt.wds (acX 58) p.s):=Fl hpre
 refine aE (rfl) ?_
 refine jE ?_
 refine az (fun h1=> ?_)
 refine ay (⟨⟨h1,(Txt.wds (acX 58) p.s),false=true⟩,(3:Int)⟩:kZ) rfl (by(try dsimp only[hP]);exact⟨by assumption,by decide⟩) fun r1 hi1=> ?_
 dsimp only[jk]at hi1
 obtain⟨hi1,hs1⟩:=hi1
 refine ay (⟨⟨r1.hl,r1.l,r1.odd⟩⟩:fM) rfl (by(try dsimp only[cI]);assumption) fun r2 hi2=> ?_
 dsimp only[dm]at hi2
 obtain⟨hi2,hs2⟩:=hi2
 refine iI (fun hc3=> ?_) (fun hc3=> ?_)
 refine iI (fun hc4=> ?_) (fun hc4=> ?_)
 refine iI (fun hc5=> ?_) (fun hc5=> ?_)
 refine iI (fun hc6=> ?_) (fun hc6=> ?_)
 refine iI (fun hc7=> ?_) (fun hc7=> ?_)
 exact co hK ⟨⟨(aH 1).wrap r1.z,(4:Int),bF,bF,(0:Int)⟩,false=true⟩
 refine ay (⟨⟨r2.hl,r2.l,r2.odd⟩⟩:fM) rfl (by(try dsimp only[cI]);assumption) fun r3 hi8=> ?_
 dsimp only[dm]at hi8
 obtain⟨hi8,hs8⟩:=hi8
 refine iI (fun hc9=> ?_) (fun hc9=> ?_)
 refine aE (by simp[qL,qI,qS,qY,aC]) ?_
 refine iI (fun hc10=> ?_) (fun hc10=> ?_)
 refine cU (⟨⟨(aH 1).wrap r1.z,(4:Int),r3.s,bF,(0:Int)⟩⟩:dL) rfl fun r4 hi11=> ?_
 dsimp only[cR]at hi11
 refine aE (by simp[qL,qI,qS,qY,aC]) ?_
 exact co hK ⟨⟨(aH 1).wrap r1.z,(4:Int),r3.s,bF,(0:Int)⟩,r4.q⟩
 refine aE (by simp[qL,qI,qS,qY,aC]) ?_
 exact co hK ⟨⟨(aH 1).wrap r1.z,(4:Int),r3.s,bF,(0:Int)⟩,false=true⟩
 refine aE (by simp[qL,qI,qS,qY,aC]) ?_
 refine aE (by simp[qL,qI,qS,qY,aC]) ?_
 exact co hK ⟨⟨(aH 1).wrap r1.z,(4:Int),r3.s,bF,(0:Int)⟩,false=true⟩
 refine iI (fun hc12=> ?_) (fun hc12=> ?_)
 exact co hK ⟨⟨(aH 1).wrap r1.z,(3:Int),bF,bF,(0:Int)⟩,false=true⟩
 refine ay (⟨⟨r2.hl,r2.l,r2.odd⟩⟩:fM) rfl (by(try dsimp only[cI]);assumption) fun r5 hi13=> ?_
 dsimp only[dm]at hi13
 obtain⟨hi13,hs13⟩:=hi13
 refine ay (⟨⟨r5.hl,r5.l,r5.odd⟩,(9223372036854775807:Int)⟩:kZ) rfl (by(try dsimp only[hP]);exact⟨by assumption,by decide⟩) fun r6 hi14=> ?_
 dsimp only[jk]at hi14
 obtain⟨hi14,hs14⟩:=hi14
 refine iI (fun hc15=> ?_) (fun hc15=> ?_)
 refine aE (by simp[qL,qI,qS,qY,aC]) ?_
 refine iI (fun hc16=> ?_) (fun hc16=> ?_)
 refine cU (⟨⟨(aH 1).wrap r1.z,(3:Int),r5.s,bF,(aH 0).wrap r6.z⟩⟩:dL) rfl fun r7 hi17=> ?_
 dsimp only[cR]at hi17
 refine aE (by simp[qL,qI,qS,qY,aC]) ?_
 exact co hK ⟨⟨(aH 1).wrap r1.z,(3:Int),r5.s,bF,(aH 0).wrap r6.z⟩,r7.q⟩
 refine aE (by simp[qL,qI,qS,qY,aC]) ?_
 exact co hK ⟨⟨(aH 1).wrap r1.z,(3:Int),r5.s,bF,(aH 0).wrap r6.z⟩,false=true⟩
 refine aE (by simp[qL,qI,qS,qY,aC]) ?_
 refine aE (by simp[qL,qI,qS,qY,aC]) ?_
 exact co hK ⟨⟨(aH 1).wrap r1.z,(3:Int),r5.s,bF,(aH 0).wrap r6.z⟩,false=true⟩
 refine iI (fun hc18=> ?_) (fun hc18=> ?_)
 exact co hK ⟨⟨(aH 1).wrap r1.z,(2:Int),bF,bF,(0:Int)⟩,false=true⟩
 refine ay (⟨⟨r2.hl,r2.l,r2.odd⟩⟩:fM) rfl (by(try dsimp only[cI]);assumption) fun r8 hi19=> ?_
 dsimp only[dm]at hi19
 obtain⟨hi19,hs19⟩:=hi19
 refine ay (⟨⟨r8.hl,r8.l,r8.odd⟩,(9223372036854775807:Int)⟩:kZ) rfl (by(try dsimp only[hP]);exact⟨by assumption,by decide⟩) fun r9 hi20=> ?_
 dsimp only[jk]at hi20
 obtain⟨hi20,hs20⟩:=hi20
 refine iI (fun hc21=> ?_) (fun hc21=> ?_)
 refine aE (by simp[qL,qI,qS,qY,aC]) ?_
 refine iI (fun hc22=> ?_) (fun hc22=> ?_)
 refine cU (⟨⟨(aH 1).wrap r1.z,(2:Int),r8.s,bF,(aH 0).wrap r9.z⟩⟩:dL) rfl fun r10 hi23=> ?_
 dsimp only[cR]at hi23
 refine aE (by simp[qL,qI,qS,qY,aC]) ?_
 exact co hK ⟨⟨(aH 1).wrap r1.z,(2:Int),r8.s,bF,(aH 0).wrap r9.z⟩,r10.q⟩
 refine aE (by simp[qL,qI,qS,qY,aC]) ?_
 exact co hK ⟨⟨(aH 1).wrap r1.z,(2:Int),r8.s,bF,(aH 0).wrap r9.z⟩,false=true⟩
 refine aE (by simp[qL,qI,qS,qY,aC]) ?_
 refine aE (by simp[qL,qI,qS,qY,aC]) ?_
 exact co hK ⟨⟨(aH 1).wrap r1.z,(2:Int),r8.s,bF,(aH 0).wrap r9.z⟩,false=true⟩
 refine iI (fun hc24=> ?_) (fun hc24=> ?_)
 exact co hK ⟨⟨(aH 1).wrap r1.z,(1:Int),bF,bF,(0:Int)⟩,false=true⟩
 refine ay (⟨⟨r2.hl,r2.l,r2.odd⟩⟩:fM) rfl (by(try dsimp only[cI]);assumption) fun r11 hi25=> ?_
 dsimp only[dm]at hi25
 obtain⟨hi25,hs25⟩:=hi25
 refine ay (⟨⟨r11.hl,r11.l,r11.odd⟩⟩:fM) rfl (by(try dsimp only[cI]);assumption) fun r12 hi26=> ?_
 dsimp only[dm]at hi26
 obtain⟨hi26,hs26⟩:=hi26
 refine iI (fun hc27=> ?_) (fun hc27=> ?_)
 refine aE (by simp[qL,qI,qS,qY,aC]) ?_
 refine iI (fun hc28=> ?_) (fun hc28=> ?_)
 refine cU (⟨⟨(aH 1).wrap r1.z,(1:Int),r11.s,r12.s,(0:Int)⟩⟩:dL) rfl fun r13 hi29=> ?_
 dsimp only[cR]at hi29
 refine aE (by simp[qL,qI,qS,qY,aC]) ?_
 exact co hK ⟨⟨(aH 1).wrap r1.z,(1:Int),r11.s,r12.s,(0:Int)⟩,r13.q⟩
 refine aE (by simp[qL,qI,qS,qY,aC]) ?_
 exact co hK ⟨⟨(aH 1).wrap r1.z,(1:Int),r11.s,r12.s,(0:Int)⟩,false=true⟩
 refine aE (by simp[qL,qI,qS,qY,aC]) ?_
 refine aE (by simp[qL,qI,qS,qY,aC]) ?_
 exact co hK ⟨⟨(aH 1).wrap r1.z,(1:Int),r11.s,r12.s,(0:Int)⟩,false=true⟩
 refine iI (fun hc30=> ?_) (fun hc30=> ?_)
 exact co hK ⟨⟨(aH 1).wrap r1.z,(0:Int),bF,bF,(0:Int)⟩,false=true⟩
 refine ay (⟨⟨r2.hl,r2.l,r2.odd⟩⟩:fM) rfl (by(try dsimp only[cI]);assumption) fun r14 hi31=> ?_
 dsimp only[dm]at hi31
 obtain⟨hi31,hs31⟩:=hi31
 refine iI (fun hc32=> ?_) (fun hc32=> ?_)
 refine aE (by simp[qL,qI,qS,qY,aC]) ?_
 refine iI (fun hc33=> ?_) (fun hc33=> ?_)
 refine cU (⟨⟨(aH 1).wrap r1.z,(0:Int),r14.s,bF,(0:Int)⟩⟩:dL) rfl fun r15 hi34=> ?_
 dsimp only[cR]at hi34
 refine aE (by simp[qL,qI,qS,qY,aC]) ?_
 exact co hK ⟨⟨(aH 1).wrap r1.z,(0:Int),r14.s,bF,(0:Int)⟩,r15.q⟩
 refine aE (by simp[qL,qI,qS,qY,aC]) ?_
 exact co hK ⟨⟨(aH 1).wrap r1.z,(0:Int),r14.s,bF,(0:Int)⟩,false=true⟩
 refine aE (by simp[qL,qI,qS,qY,aC]) ?_
 refine aE (by simp[qL,qI,qS,qY,aC]) ?_
 exact co hK ⟨⟨(aH 1).wrap r1.z,(0:Int),r14.s,bF,(0:Int)⟩,false=true⟩
noncomputable def vz:=bt vo 0 (bJ ru (dr mK vd)) 81 [(0,22)]
theorem wA:aV Tryz.prog vz:=aR (cY (f:=81) (k:=0) (bj wu) Jw (by rfl) (by rfl) Pw) wu
theorem qg {r t:ah} {l1 l2:TX} {o1 o2 q:Prop} {w:List UInt8} {z m:Int} (i:Int) (hi:r.set=i) (h1:CK r.l l1 r.odd o1 w) (hw:w=pz i) (h2:Bc m l1 l2 o1 o2 z) (hm:m=sn i) (ho:¬r.odd)
  (hq:q↔(¬o2∧l2=[])∧r.gs≠[]) (ht:dB t=⟨r.gs,mD ⟨r.clients,r.window,r.deadline,r.pace,r.again,r.bag,r.first⟩ i z,r.os.map be,i+1⟩):(q→Cl (dB r) r.l (dB t))∧(¬q→∀b,¬Cl (dB r) r.l b):=by
 subst hi;subst hm
 rw[ht]
 exact Vu (a:=dB r) h1 hw h2 ho hq
theorem hgA {α:Type} {o:Prop} {l:TX} {s u v:List UInt8} {gs:List α} {x:α} (h1:¬o) (h2:(l.length:Int)=0) (h3:s=u∨s=v):((gs++[x]).length:Int)≤4↔(¬o∧l=[])∧(s=u∨s=v)∧(gs.length:Int)+1≤4:=by
 rw[acA,List.length_singleton]
 exact⟨fun h=>⟨⟨h1,acW (by omega)⟩,h3,by omega⟩,fun h=>by omega⟩
theorem FV {o A S:Prop} (h:¬¬o):false=true↔(¬o∧A)∧S:=⟨fun q=>(by cases q),fun q=>absurd q.1.1 h⟩
theorem FU {o S:Prop} {l:TX} (h:¬(l.length:Int)=0):false=true↔(¬o∧l=[])∧S:=⟨fun q=>(by cases q),fun q=>absurd (by rw[q.1.2];rfl) h⟩
theorem hgD {A S:Prop} {s u v:List UInt8} (h1:¬s=u) (h2:¬s=v):false=true↔A∧(s=u∨s=v)∧S:=⟨fun q=>(by cases q),fun q=>(q.2.1.elim h1 h2).elim⟩
theorem Jc {α:Type} {o:Prop} {l:TX} {gs:List α} (h1:¬o) (h2:(l.length:Int)=0):(0:Int)<(gs.length:Int)↔(¬o∧l=[])∧gs≠[]:=
 ⟨fun h=>⟨⟨h1,acW (by omega)⟩,fun q=>by rw[q]at h;simp at h⟩,fun h=>by have:=List.length_pos_iff.2 h.2;omega⟩
def xU:XF:=.mk 61 (.one 2) (.aft (.seq (g_ 1 [p_ 0 2 (.mv (.c (.bool false)))]) (.seq (g_ 4 [p_ 0 5 (m_ 0),p_ 1 6 (n_ 5),p_ 2 7 (f_ 0 6),c_ 3 8 83 [.t 7,.c (.str [103,114,111,117,112])]]) (.seq (.reg true 11 (.split 3 9 (.split 7 9 (.leaf [p_ 0 9 (m_ 0),p_ 1 10 (n_ 9),p_ 2 11 (f_ 0 10),p_ 4 13 (m_ 0),p_ 5 14 (n_ 13),p_ 6 15 (f_ 0 14),c_ 3 12 79 [.t 11],c_ 7 16 79 [.t 15],p_ 8 17 (.bld [.int 0 (.ofNat 0),.int 0 (.ofNat 0),.bool false] [(0,1),(1,1)] [.t 12,.t 16]),e_ 9 3 (.al 82 [.int 0 (.ofNat 0),.int 0 (.ofNat 0),.bool false]),bl 10 (.st 3 (.t 3) (.t 17))]) (.leaf [p_ 0 9 (m_ 0),p_ 1 10 (n_ 9),p_ 2 11 (f_ 0 10),p_ 4 13 (m_ 0),p_ 5 14 (n_ 13),p_ 6 15 (f_ 0 14),c_ 3 12 79 [.t 11],e_ 9 3 (.al 82 [.int 0 (.ofNat 0),.int 0 (.ofNat 0),.bool false]),c_ 7 16 79 [.t 15],p_ 8 17 (.bld [.int 0 (.ofNat 0),.int 0 (.ofNat 0),.bool false] [(0,1),(1,1)] [.t 12,.t 16]),bl 10 (.st 3 (.t 3) (.t 17))])) (.leaf [p_ 0 9 (m_ 0),p_ 1 10 (n_ 9),p_ 2 11 (f_ 0 10),p_ 4 13 (m_ 0),p_ 5 14 (n_ 13),p_ 6 15 (f_ 0 14),e_ 9 3 (.al 82 [.int 0 (.ofNat 0),.int 0 (.ofNat 0),.bool false]),c_ 3 12 79 [.t 11],c_ 7 16 79 [.t 15],p_ 8 17 (.bld [.int 0 (.ofNat 0),.int 0 (.ofNat 0),.bool false] [(0,1),(1,1)] [.t 12,.t 16]),bl 10 (.st 3 (.t 3) (.t 17))]))) (.seq (g_ 5 [p_ 0 18 (m_ 0),p_ 1 19 (n_ 18),p_ 2 20 (f_ 0 19),c_ 3 21 78 [.t 20],p_ 4 4 (m_ 21)]) (.seq (g_ 4 [p_ 0 22 (m_ 4),p_ 1 23 (.bin 5 0 (.t 22) (.c (.str [99,104,101,99,107]))),p_ 2 24 (f_ 2 3),bl 3 (.st 1 (.t 24) (.t 23))]) (.seq (h_ 15 [p_ 0 25 (m_ 0),p_ 1 26 (m_ 0),p_ 2 27 (n_ 26),p_ 3 28 (f_ 2 27),p_ 4 29 (f_ 0 28),p_ 5 30 (f_ 0 29),r_ 6 31 (l_ 30),r_ 7 32 (.ld true 3 (.t 3)),e_ 8 33 (.bsl 82 3 1 [.int 0 (.ofNat 0),.int 0 (.ofNat 0),.bool false] [(0,3)] [.t 32]),a_ 6 31 (l_ 30),e_ 9 34 (.app 82 3 24 (.t 31) (.t 33)),p_ 10 35 (n_ 25),p_ 11 36 (f_ 2 35),p_ 12 37 (f_ 0 36),p_ 13 38 (f_ 0 37),bl 14 (.st 1 (.t 38) (.t 34))]) (.seq (g_ 23 [p_ 0 39 (m_ 0),p_ 1 40 (n_ 39),p_ 2 41 (f_ 0 40),c_ 3 42 82 [.t 41],p_ 4 43 (m_ 42),aj 5 44 43 true (f_ 2 3),aT 6 45 43 true (l_ 44),aj 7 46 43 true (m_ 45),aj 8 47 46 false (m_ 4),aj 9 48 46 false (.bin 5 0 (.t 47) (.c (.str [112,108,97,105,110]))),aj 10 49 43 true (.pick (.t 46) (.c (.bool true)) (.t 48)),p_ 11 50 (.pick (.t 43) (.t 49) (.c (.bool false))),p_ 12 51 (m_ 50),aj 13 52 51 true (m_ 0),aj 14 53 51 true (n_ 52),aj 15 54 51 true (f_ 2 53),aj 16 55 51 true (f_ 0 54),aj 17 56 51 true (f_ 0 55),aT 18 57 51 true (l_ 56),aj 19 58 51 true (k_ 57),aj 20 59 51 true (.bin 3 1 (.t 58) (i_ 4)),p_ 21 60 (.pick (.t 51) (.t 59) (.c (.bool false))),p_ 22 2 (m_ 60)]) .ret))))))) [(0,[.upc 0 0 0,.upc 0 0 1,.upc 0 0 2,.upc 0 0 3,.upc 0 0 4,.upc 0 0 5,.upc 0 0 6,.upc 0 0 7,.upc 0 0 8,.upc 0 0 9,.upc 0 0 10,.upc 0 0 11,.upc 0 0 12,.upc 0 0 13,.up 2]),(1,[.upc 0 0 0,.upc 0 0 1,.upc 0 0 2,.upc 0 0 3,.upc 0 0 4,.upc 0 0 5,.upc 0 0 6,.upc 0 0 7,.upc 0 0 8,.upc 0 0 9,.upc 0 0 10,.upc 0 0 11,.upc 0 0 12,.upc 0 0 13,.up 2])])
theorem CU:bE Tryz.prog 49 xU=true:=by kernel_rfl
structure iJ where
 r:ah
structure tH where
 t:ah
 q:Prop
def kp (p:iJ) (r:tH):Prop:=(r.t.line=p.r.line∧r.t.op=p.r.op∧r.t.os=p.r.os∧r.t.set=p.r.set)∧((r.q→Jf (dB p.r) p.r.l (dB r.t))∧(¬r.q→∀b,¬Jf (dB p.r) p.r.l b))
noncomputable def lz (p:iJ):IE:=([.ptr 0 0],(aU p.r),3)
noncomputable def oS (p:iJ) (K:KE):Bool:=am fun r:tH=>iP (kp p r) (K (.sy (.bool r.q)) (aU r.t) 3) true
def jC (p:iJ):Prop:=cb p.r.l∧¬p.r.odd∧p.r.gs.length≤4
theorem cw {p:iJ} {K:KE} (hK:oS p K=true) (r:tH) (h:kp p r:=by dsimp only[kp]<;>(exact⟨⟨rfl,rfl,rfl,rfl⟩,Wv (a:=dB p.r) (u:=t_3) (v:=t_5) (by assumption) (by decide) (by assumption) (by assumption) (by assumption) q2 (by decide) (by decide) (by first|exact hgA (by assumption) (by assumption) (.inl (by assumption))|exact hgA (by assumption) (by assumption) (.inr (by assumption))|exact FV (by assumption)|exact FU (by assumption)|exact hgD (by assumption) (by assumption))⟩)):K (.sy (.bool r.q)) (aU r.t) 3=true:=au h (aG hK r)
theorem Hu (p:iJ) (K:KE) (hpre:jC p) (hK:oS p K=true):(bW 1 (di vz) cL 600 xU (lz p).1 (lz p).2.1 (lz p).2.2 K)=true:=by
 refine Eq.trans (b:=(aM (([.ptr 0 0,.str [103,114,111,117,112]],(aU p.r),3)) ux oB qq fun p1 r1=>ac (ac (aM (([.ptr 0 0],(aU ({p1.r with hl:=r1.hl,l:=r1.l,odd:=r1.odd}:ah)),3)) bV aO aS fun p2 r2=>aM (([.ptr 0 0],(aU ({p2.r with hl:=r2.hl,l:=r2.l,odd:=r2.odd}:ah)),3)) bV aO aS fun p3 r3=>aM (([.ptr 0 0],(aU ({p3.r with hl:=r3.hl,l:=r3.l,odd:=r3.odd}:ah)),3)) iV dh dE fun p4 r4=>mP (((.prow 14 p4.r.gs.length):SY)=(.prow 14 p4.r.gs.length)) (mP (p4.r.gs.length=p4.r.gs.length) (aF fun m1:List aw=>mP (iL (m1.map aD) [[.sint 0 r2.z,.sint 0 r3.z,.sbool (r4.s=t_3)]]) (mP (eN 24 (p4.r.gs.length+m1.length)) (iP (¬r4.odd) (iP ((r4.l.length:Int)=(0:Int)) (iP (r4.s=t_3) (K (.sy (.bool (((p4.r.gs++m1).length:Int)≤(4:Int)))) (aU ({p4.r with hl:=r4.hl,l:=r4.l,odd:=r4.odd,gs:=p4.r.gs++m1}:ah)) 3) (iP (r4.s=t_5) (K (.sy (.bool (((p4.r.gs++m1).length:Int)≤(4:Int)))) (aU ({p4.r with hl:=r4.hl,l:=r4.l,odd:=r4.odd,gs:=p4.r.gs++m1}:ah)) 3) (K (.sy (.bool (false=true))) (aU ({p4.r with hl:=r4.hl,l:=r4.l,odd:=r4.odd,gs:=p4.r.gs++m1}:ah)) 3))) (K (.sy (.bool (false=true))) (aU ({p4.r with hl:=r4.hl,l:=r4.l,odd:=r4.odd,gs:=p4.r.gs++m1}:ah)) 3)) (K (.sy (.bool (false=true))) (aU ({p4.r with hl:=r4.hl,l:=r4.l,odd:=r4.odd,gs:=p4.r.gs++m1}:ah)) 3)))))) (aM (([.ptr 0 0],(aU ({p1.r with hl:=r1.hl,l:=r1.l,odd:=r1.odd}:ah)),3)) bV aO aS fun p5 r5=>aM (([.ptr 0 0],(aU ({p5.r with hl:=r5.hl,l:=r5.l,odd:=r5.odd}:ah)),3)) bV aO aS fun p6 r6=>aM (([.ptr 0 0],(aU ({p6.r with hl:=r6.hl,l:=r6.l,odd:=r6.odd}:ah)),3)) iV dh dE fun p7 r7=>mP (((.prow 14 p7.r.gs.length):SY)=(.prow 14 p7.r.gs.length)) (mP (p7.r.gs.length=p7.r.gs.length) (aF fun m2:List aw=>mP (iL (m2.map aD) [[.sint 0 r5.z,.sint 0 r6.z,.sbool (r7.s=t_3)]]) (mP (eN 24 (p7.r.gs.length+m2.length)) (iP (¬r7.odd) (iP ((r7.l.length:Int)=(0:Int)) (iP (r7.s=t_3) (K (.sy (.bool (((p7.r.gs++m2).length:Int)≤(4:Int)))) (aU ({p7.r with hl:=r7.hl,l:=r7.l,odd:=r7.odd,gs:=p7.r.gs++m2}:ah)) 3) (iP (r7.s=t_5) (K (.sy (.bool (((p7.r.gs++m2).length:Int)≤(4:Int)))) (aU ({p7.r with hl:=r7.hl,l:=r7.l,odd:=r7.odd,gs:=p7.r.gs++m2}:ah)) 3) (K (.sy (.bool (false=true))) (aU ({p7.r with hl:=r7.hl,l:=r7.l,odd:=r7.odd,gs:=p7.r.gs++m2}:ah)) 3))) (K (.sy (.bool (false=true))) (aU ({p7.r with hl:=r7.hl,l:=r7.l,odd:=r7.odd,gs:=p7.r.gs++m2}:ah)) 3)) (K (.sy (.bool (false=true))) (aU ({p7.r with hl:=r7.hl,l:=r7.l,odd:=r7.odd,gs:=p7.r.gs++m2}:ah)) 3))))))) (aM (([.ptr 0 0],(aU ({p1.r with hl:=r1.hl,l:=r1.l,odd:=r1.odd}:ah)),3)) bV aO aS fun p8 r8=>aM (([.ptr 0 0],(aU ({p8.r with hl:=r8.hl,l:=r8.l,odd:=r8.odd}:ah)),3)) bV aO aS fun p9 r9=>aM (([.ptr 0 0],(aU ({p9.r with hl:=r9.hl,l:=r9.l,odd:=r9.odd}:ah)),3)) iV dh dE fun p10 r10=>mP (((.prow 14 p10.r.gs.length):SY)=(.prow 14 p10.r.gs.length)) (mP (p10.r.gs.length=p10.r.gs.length) (aF fun m3:List aw=>mP (iL (m3.map aD) [[.sint 0 r8.z,.sint 0 r9.z,.sbool (r10.s=t_3)]]) (mP (eN 24 (p10.r.gs.length+m3.length)) (iP (¬r10.odd) (iP ((r10.l.length:Int)=(0:Int)) (iP (r10.s=t_3) (K (.sy (.bool (((p10.r.gs++m3).length:Int)≤(4:Int)))) (aU ({p10.r with hl:=r10.hl,l:=r10.l,odd:=r10.odd,gs:=p10.r.gs++m3}:ah)) 3) (iP (r10.s=t_5) (K (.sy (.bool (((p10.r.gs++m3).length:Int)≤(4:Int)))) (aU ({p10.r with hl:=r10.hl,l:=r10.l,odd:=r10.odd,gs:=p10.r.gs++m3}:ah)) 3) (K (.sy (.bool (false=true))) (aU ({p10.r with hl:=r10.hl,l:=r10.l,odd:=r10.odd,gs:=p10.r.gs++m3}:ah)) 3))) (K (.sy (.bool (false=true))) (aU ({p10.r with hl:=r10.hl,l:=r10.l,odd:=r10.odd,gs:=p10.r.gs++m3}:ah)) 3)) (K (.sy (.bool (false=true))) (aU ({p10.r with hl:=r10.hl,l:=r10.l,odd:=r10.odd,gs:=p10.r.gs++m3}:ah)) 3)))))))) (by kernel_rfl) ?_
 dsimp only[jC]at hpre
 obtain⟨q1,q2,q3⟩:=hpre
 refine ay (⟨p.r,([103,114,111,117,112]:List Nat)⟩:nU) rfl (by(try dsimp only[oB]);assumption) fun r1 hi1=> ?_
 dsimp only[qq]at hi1
 obtain⟨hi1,hs1⟩:=hi1
 refine aE ?_ ?_
 refine aE ?_ ?_
 refine ay (⟨({p.r with hl:=r1.hl,l:=r1.l,odd:=r1.odd}:ah)⟩:bH) rfl (by(try dsimp only[aO]);assumption) fun r2 hi2=> ?_
 dsimp only[aS]at hi2
 obtain⟨hi2,hs2⟩:=hi2
 refine ay (⟨({({p.r with hl:=r1.hl,l:=r1.l,odd:=r1.odd}:ah) with hl:=r2.hl,l:=r2.l,odd:=r2.odd}:ah)⟩:bH) rfl (by(try dsimp only[aO]);assumption) fun r3 hi3=> ?_
 dsimp only[aS]at hi3
 obtain⟨hi3,hs3⟩:=hi3
 refine ay (⟨({({({p.r with hl:=r1.hl,l:=r1.l,odd:=r1.odd}:ah) with hl:=r2.hl,l:=r2.l,odd:=r2.odd}:ah) with hl:=r3.hl,l:=r3.l,odd:=r3.odd}:ah)⟩:gB) rfl (by(try dsimp only[dh]);assumption) fun r4 hi4=> ?_
 dsimp only[dE]at hi4
 obtain⟨hi4,hs4⟩:=hi4
 refine aL (aL ?_)
 refine aK [(⟨r2.z,r3.z,r4.s=t_3⟩:aw)] ?_
 refine xS (mI (by(try dsimp only);(first|omega|(simp[eN]<;>omega))) ?_)
 refine iI (fun hc5=> ?_) (fun hc5=> ?_)
 refine iI (fun hc6=> ?_) (fun hc6=> ?_)
 refine iI (fun hc7=> ?_) (fun hc7=> ?_)
 exact cw hK ⟨({({({({p.r with hl:=r1.hl,l:=r1.l,odd:=r1.odd}:ah) with hl:=r2.hl,l:=r2.l,odd:=r2.odd}:ah) with hl:=r3.hl,l:=r3.l,odd:=r3.odd}:ah) with hl:=r4.hl,l:=r4.l,odd:=r4.odd,gs:=p.r.gs++[(⟨r2.z,r3.z,r4.s=t_3⟩:aw)]}:ah),((p.r.gs++[(⟨r2.z,r3.z,r4.s=t_3⟩:aw)]).length:Int)≤(4:Int)⟩
 refine iI (fun hc8=> ?_) (fun hc8=> ?_)
 exact cw hK ⟨({({({({p.r with hl:=r1.hl,l:=r1.l,odd:=r1.odd}:ah) with hl:=r2.hl,l:=r2.l,odd:=r2.odd}:ah) with hl:=r3.hl,l:=r3.l,odd:=r3.odd}:ah) with hl:=r4.hl,l:=r4.l,odd:=r4.odd,gs:=p.r.gs++[(⟨r2.z,r3.z,r4.s=t_3⟩:aw)]}:ah),((p.r.gs++[(⟨r2.z,r3.z,r4.s=t_3⟩:aw)]).length:Int)≤(4:Int)⟩
 exact cw hK ⟨({({({({p.r with hl:=r1.hl,l:=r1.l,odd:=r1.odd}:ah) with hl:=r2.hl,l:=r2.l,odd:=r2.odd}:ah) with hl:=r3.hl,l:=r3.l,odd:=r3.odd}:ah) with hl:=r4.hl,l:=r4.l,odd:=r4.odd,gs:=p.r.gs++[(⟨r2.z,r3.z,r4.s=t_3⟩:aw)]}:ah),false=true⟩
 exact cw hK ⟨({({({({p.r with hl:=r1.hl,l:=r1.l,odd:=r1.odd}:ah) with hl:=r2.hl,l:=r2.l,odd:=r2.odd}:ah) with hl:=r3.hl,l:=r3.l,odd:=r3.odd}:ah) with hl:=r4.hl,l:=r4.l,odd:=r4.odd,gs:=p.r.gs++[(⟨r2.z,r3.z,r4.s=t_3⟩:aw)]}:ah),false=true⟩
 exact cw hK ⟨({({({({p.r with hl:=r1.hl,l:=r1.l,odd:=r1.odd}:ah) with hl:=r2.hl,l:=r2.l,odd:=r2.odd}:ah) with hl:=r3.hl,l:=r3.l,odd:=r3.odd}:ah) with hl:=r4.hl,l:=r4.l,odd:=r4.odd,gs:=p.r.gs++[(⟨r2.z,r3.z,r4.s=t_3⟩:aw)]}:ah),false=true⟩
 refine ay (⟨({p.r with hl:=r1.hl,l:=r1.l,odd:=r1.odd}:ah)⟩:bH) rfl (by(try dsimp only[aO]);assumption) fun r5 hi9=> ?_
 dsimp only[aS]at hi9
 obtain⟨hi9,hs9⟩:=hi9
 refine ay (⟨({({p.r with hl:=r1.hl,l:=r1.l,odd:=r1.odd}:ah) with hl:=r5.hl,l:=r5.l,odd:=r5.odd}:ah)⟩:bH) rfl (by(try dsimp only[aO]);assumption) fun r6 hi10=> ?_
 dsimp only[aS]at hi10
 obtain⟨hi10,hs10⟩:=hi10
 refine ay (⟨({({({p.r with hl:=r1.hl,l:=r1.l,odd:=r1.odd}:ah) with hl:=r5.hl,l:=r5.l,odd:=r5.odd}:ah) with hl:=r6.hl,l:=r6.l,odd:=r6.odd}:ah)⟩:gB) rfl (by(try dsimp only[dh]);assumption) fun r7 hi11=> ?_
 dsimp only[dE]at hi11
 obtain⟨hi11,hs11⟩:=hi11
 refine aL (aL ?_)
 refine aK [(⟨r5.z,r6.z,r7.s=t_3⟩:aw)] ?_
 refine xS (mI (by(try dsimp only);(first|omega|(simp[eN]<;>omega))) ?_)
 refine iI (fun hc12=> ?_) (fun hc12=> ?_)
 refine iI (fun hc13=> ?_) (fun hc13=> ?_)
 refine iI (fun hc14=> ?_) (fun hc14=> ?_)
 exact cw hK ⟨({({({({p.r with hl:=r1.hl,l:=r1.l,odd:=r1.odd}:ah) with hl:=r5.hl,l:=r5.l,odd:=r5.odd}:ah) with hl:=r6.hl,l:=r6.l,odd:=r6.odd}:ah) with hl:=r7.hl,l:=r7.l,odd:=r7.odd,gs:=p.r.gs++[(⟨r5.z,r6.z,r7.s=t_3⟩:aw)]}:ah),((p.r.gs++[(⟨r5.z,r6.z,r7.s=t_3⟩:aw)]).length:Int)≤(4:Int)⟩
 refine iI (fun hc15=> ?_) (fun hc15=> ?_)
 exact cw hK ⟨({({({({p.r with hl:=r1.hl,l:=r1.l,odd:=r1.odd}:ah) with hl:=r5.hl,l:=r5.l,odd:=r5.odd}:ah) with hl:=r6.hl,l:=r6.l,odd:=r6.odd}:ah) with hl:=r7.hl,l:=r7.l,odd:=r7.odd,gs:=p.r.gs++[(⟨r5.z,r6.z,r7.s=t_3⟩:aw)]}:ah),((p.r.gs++[(⟨r5.z,r6.z,r7.s=t_3⟩:aw)]).length:Int)≤(4:Int)⟩
 exact cw hK ⟨({({({({p.r with hl:=r1.hl,l:=r1.l,odd:=r1.odd}:ah) with hl:=r5.hl,l:=r5.l,odd:=r5.odd}:ah) with hl:=r6.hl,l:=r6.l,odd:=r6.odd}:ah) with hl:=r7.hl,l:=r7.l,odd:=r7.odd,gs:=p.r.gs++[(⟨r5.z,r6.z,r7.s=t_3⟩:aw)]}:ah),false=true⟩
 exact cw hK ⟨({({({({p.r with hl:=r1.hl,l:=r1.l,odd:=r1.odd}:ah) with hl:=r5.hl,l:=r5.l,odd:=r5.odd}:ah) with hl:=r6.hl,l:=r6.l,odd:=r6.odd}:ah) with hl:=r7.hl,l:=r7.l,odd:=r7.odd,gs:=p.r.gs++[(⟨r5.z,r6.z,r7.s=t_3⟩:aw)]}:ah),false=true⟩
 exact cw hK ⟨({({({({p.r with hl:=r1.hl,l:=r1.l,odd:=r1.odd}:ah) with hl:=r5.hl,l:=r5.l,odd:=r5.odd}:ah) with hl:=r6.hl,l:=r6.l,odd:=r6.odd}:ah) with hl:=r7.hl,l:=r7.l,odd:=r7.odd,gs:=p.r.gs++[(⟨r5.z,r6.z,r7.s=t_3⟩:aw)]}:ah),false=true⟩
 refine ay (⟨({p.r with hl:=r1.hl,l:=r1.l,odd:=r1.odd}:ah)⟩:bH) rfl (by(try dsimp only[aO]);assumption) fun r8 hi16=> ?_
 dsimp only[aS]at hi16
 obtain⟨hi16,hs16⟩:=hi16
 refine ay (⟨({({p.r with hl:=r1.hl,l:=r1.l,odd:=r1.odd}:ah) with hl:=r8.hl,l:=r8.l,odd:=r8.odd}:ah)⟩:bH) rfl (by(try dsimp only[aO]);assumption) fun r9 hi17=> ?_
 dsimp only[aS]at hi17
 obtain⟨hi17,hs17⟩:=hi17
 refine ay (⟨({({({p.r with hl:=r1.hl,l:=r1.l,odd:=r1.odd}:ah) with hl:=r8.hl,l:=r8.l,odd:=r8.odd}:ah) with hl:=r9.hl,l:=r9.l,odd:=r9.odd}:ah)⟩:gB) rfl (by(try dsimp only[dh]);assumption) fun r10 hi18=> ?_
 dsimp only[dE]at hi18
 obtain⟨hi18,hs18⟩:=hi18
 refine aL (aL ?_)
 refine aK [(⟨r8.z,r9.z,r10.s=t_3⟩:aw)] ?_
 refine xS (mI (by(try dsimp only);(first|omega|(simp[eN]<;>omega))) ?_)
 refine iI (fun hc19=> ?_) (fun hc19=> ?_)
 refine iI (fun hc20=> ?_) (fun hc20=> ?_)
 refine iI (fun hc21=> ?_) (fun hc21=> ?_)
 exact cw hK ⟨({({({({p.r with hl:=r1.hl,l:=r1.l,odd:=r1.odd}:ah) with hl:=r8.hl,l:=r8.l,odd:=r8.odd}:ah) with hl:=r9.hl,l:=r9.l,odd:=r9.odd}:ah) with hl:=r10.hl,l:=r10.l,odd:=r10.odd,gs:=p.r.gs++[(⟨r8.z,r9.z,r10.s=t_3⟩:aw)]}:ah),((p.r.gs++[(⟨r8.z,r9.z,r10.s=t_3⟩:aw)]).length:Int)≤(4:Int)⟩
 refine iI (fun hc22=> ?_) (fun hc22=> ?_)
 exact cw hK ⟨({({({({p.r with hl:=r1.hl,l:=r1.l,odd:=r1.odd}:ah) with hl:=r8.hl,l:=r8.l,odd:=r8.odd}:ah) with hl:=r9.hl,l:=r9.l,odd:=r9.odd}:ah) with hl:=r10.hl,l:=r10.l,odd:=r10.odd,gs:=p.r.gs++[(⟨r8.z,r9.z,r10.s=t_3⟩:aw)]}:ah),((p.r.gs++[(⟨r8.z,r9.z,r10.s=t_3⟩:aw)]).length:Int)≤(4:Int)⟩
 exact cw hK ⟨({({({({p.r with hl:=r1.hl,l:=r1.l,odd:=r1.odd}:ah) with hl:=r8.hl,l:=r8.l,odd:=r8.odd}:ah) with hl:=r9.hl,l:=r9.l,odd:=r9.odd}:ah) with hl:=r10.hl,l:=r10.l,odd:=r10.odd,gs:=p.r.gs++[(⟨r8.z,r9.z,r10.s=t_3⟩:aw)]}:ah),false=true⟩
 exact cw hK ⟨({({({({p.r with hl:=r1.hl,l:=r1.l,odd:=r1.odd}:ah) with hl:=r8.hl,l:=r8.l,odd:=r8.odd}:ah) with hl:=r9.hl,l:=r9.l,odd:=r9.odd}:ah) with hl:=r10.hl,l:=r10.l,odd:=r10.odd,gs:=p.r.gs++[(⟨r8.z,r9.z,r10.s=t_3⟩:aw)]}:ah),false=true⟩
 exact cw hK ⟨({({({({p.r with hl:=r1.hl,l:=r1.l,odd:=r1.odd}:ah) with hl:=r8.hl,l:=r8.l,odd:=r8.odd}:ah) with hl:=r9.hl,l:=r9.l,odd:=r9.odd}:ah) with hl:=r10.hl,l:=r10.l,odd:=r10.odd,gs:=p.r.gs++[(⟨r8.z,r9.z,r10.s=t_3⟩:aw)]}:ah),false=true⟩
noncomputable def oX:=bt vz 1 (bJ lz (dr jC oS)) 49 []
theorem qO:aV Tryz.prog oX:=aR (cY (f:=49) (k:=1) (bj wA) CU (by rfl) (by rfl) Hu) wA
def ug:XF:=.mk 85 (.one 2) (.pre [.fixc 0 0 11 7] (.aft (.seq (g_ 1 [p_ 0 2 (.mv (.c (.bool false)))]) (.seq (g_ 6 [p_ 0 4 (m_ 0),p_ 1 5 (n_ 4),p_ 2 6 (f_ 2 5),p_ 3 7 (f_ 0 6),c_ 4 8 37 [.t 7],p_ 5 3 (m_ 8)]) (.seq (.seq (g_ 7 [p_ 0 9 (m_ 0),p_ 1 10 (n_ 9),p_ 2 11 (f_ 11 10),r_ 3 12 (l_ 11),p_ 4 13 (m_ 3),p_ 5 14 (k_ 13),p_ 6 15 (.bin 3 0 (.t 12) (.t 14))]) (.cond (.t 15) (.seq (h_ 12 [p_ 0 16 (m_ 0),p_ 1 17 (n_ 16),p_ 2 18 (f_ 0 17),p_ 3 19 (m_ 3),p_ 4 20 (m_ 0),p_ 5 21 (n_ 20),p_ 6 22 (f_ 11 21),r_ 7 23 (l_ 22),p_ 8 24 (.ixs 2 (.t 19) (.t 23)),p_ 9 25 (f_ 0 24),r_ 10 26 (l_ 25),c_ 11 27 83 [.t 18,.t 26]]) (h_ 14 [p_ 0 28 (m_ 3),p_ 1 29 (m_ 0),p_ 2 30 (n_ 29),p_ 3 31 (f_ 11 30),r_ 4 32 (l_ 31),p_ 5 33 (.ixs 2 (.t 28) (.t 32)),p_ 6 34 (f_ 1 33),r_ 7 35 (l_ 34),p_ 8 36 (m_ 0),p_ 9 37 (n_ 36),p_ 10 38 (f_ 0 37),c_ 11 39 79 [.t 38],a_ 4 32 (l_ 31),a_ 7 35 (l_ 34),p_ 12 40 (n_ 35),bl 13 (.st 1 (.t 40) (.t 39))])) (.seq (g_ 4 [p_ 0 41 (m_ 0),p_ 1 42 (n_ 41),p_ 2 43 (f_ 0 42),c_ 3 44 83 [.t 43,.c (.str [102,105,114,115,116])]]) (g_ 10 [p_ 0 45 (m_ 0),p_ 1 46 (m_ 0),p_ 2 47 (n_ 46),p_ 3 48 (f_ 0 47),c_ 4 49 80 [.t 48,.c (.int 4 (.ofNat 18446744073709551615))],p_ 5 50 (n_ 45),p_ 6 51 (f_ 2 50),p_ 7 52 (f_ 0 51),p_ 8 53 (f_ 7 52),bl 9 (.st 1 (.t 53) (.t 49))])))) (.seq (g_ 8 [p_ 0 54 (m_ 0),p_ 1 55 (n_ 54),p_ 2 56 (f_ 11 55),r_ 3 57 (l_ 56),p_ 4 58 (.bin 0 0 (.t 57) (i_ 1)),p_ 5 59 (n_ 54),p_ 6 60 (f_ 11 59),bl 7 (.st 1 (.t 60) (.t 58))]) (.seq (g_ 11 [p_ 0 61 (m_ 0),p_ 1 62 (m_ 0),p_ 2 63 (n_ 62),p_ 3 64 (f_ 11 63),r_ 4 65 (l_ 64),p_ 5 66 (m_ 3),p_ 6 67 (k_ 66),p_ 7 68 (.bin 3 2 (.t 65) (.t 67)),p_ 8 69 (n_ 61),p_ 9 70 (f_ 12 69),bl 10 (.st 1 (.t 70) (.t 68))]) (.seq (g_ 15 [p_ 0 71 (m_ 0),p_ 1 72 (n_ 71),p_ 2 73 (f_ 0 72),c_ 3 74 82 [.t 73],p_ 4 75 (m_ 74),aj 5 76 75 true (m_ 0),aj 6 77 75 true (n_ 76),aj 7 78 75 true (f_ 2 77),aj 8 79 75 true (f_ 0 78),aj 9 80 75 true (f_ 0 79),aT 10 81 75 true (l_ 80),aj 11 82 75 true (k_ 81),aj 12 83 75 true (.bin 3 2 (.t 82) (i_ 0)),p_ 13 84 (.pick (.t 75) (.t 83) (.c (.bool false))),p_ 14 2 (m_ 84)]) .ret)))))) [(0,[.upc 0 0 0,.upc 0 0 1,.upc 0 0 2,.upc 0 0 3,.upc 0 0 4,.upc 0 0 5,.upc 0 0 6,.upc 0 0 7,.upc 0 0 8,.upc 0 0 9,.upc 0 0 10,.upc 0 0 11,.upc 0 0 12,.upc 0 0 13,.up 2]),(1,[.upc 0 0 0,.upc 0 0 1,.upc 0 0 2,.upc 0 0 3,.upc 0 0 4,.upc 0 0 5,.upc 0 0 6,.upc 0 0 7,.upc 0 0 8,.upc 0 0 9,.upc 0 0 10,.upc 0 0 11,.upc 0 0 12,.upc 0 0 13,.up 2])]))
theorem zM:bE Tryz.prog 50 ug=true:=by kernel_rfl
structure ff where
 r:ah
structure pc where
 t:ah
 q:Prop
def fj (p:ff) (r:pc):Prop:=(r.t.line=p.r.line∧r.t.os=p.r.os∧r.t.gs=p.r.gs∧r.t.set=p.r.set+1∧(r.t.op↔r.t.set=7))∧((r.q→Cl (dB p.r) p.r.l (dB r.t))∧(¬r.q→∀b,¬Cl (dB p.r) p.r.l b))
noncomputable def gW (p:ff):IE:=([.ptr 0 0],(aU p.r),3)
noncomputable def mQ (p:ff) (K:KE):Bool:=am fun r:pc=>iP (fj p r) (K (.sy (.bool r.q)) (aU r.t) 3) true
def eI (p:ff):Prop:=cb p.r.l∧¬p.r.odd∧0≤p.r.set∧p.r.set≤6
theorem bg {p:ff} {K:KE} (hK:mQ p K=true) (r:pc) (h:fj p r:=by dsimp only[fj]<;>(first|exact⟨⟨rfl,rfl,rfl,by omega,by simp⟩,qg 0 (by assumption) (by assumption) (by decide) (numN.X (by assumption)) rfl q2 (by first|exact Jc (by assumption) (by assumption)|exact FV (by assumption)|exact FU (by assumption)) (by simp[dB,mD])⟩|exact⟨⟨rfl,rfl,rfl,by omega,by simp⟩,qg 1 (by assumption) (by assumption) (by decide) (numN.X (by assumption)) rfl q2 (by first|exact Jc (by assumption) (by assumption)|exact FV (by assumption)|exact FU (by assumption)) (by simp[dB,mD])⟩|exact⟨⟨rfl,rfl,rfl,by omega,by simp⟩,qg 2 (by assumption) (by assumption) (by decide) (numN.X (by assumption)) rfl q2 (by first|exact Jc (by assumption) (by assumption)|exact FV (by assumption)|exact FU (by assumption)) (by simp[dB,mD])⟩|exact⟨⟨rfl,rfl,rfl,by omega,by simp⟩,qg 3 (by assumption) (by assumption) (by decide) (numN.X (by assumption)) rfl q2 (by first|exact Jc (by assumption) (by assumption)|exact FV (by assumption)|exact FU (by assumption)) (by simp[dB,mD])⟩|exact⟨⟨rfl,rfl,rfl,by omega,by simp⟩,qg 4 (by assumption) (by assumption) (by decide) (numN.X (by assumption)) rfl q2 (by first|exact Jc (by assumption) (by assumption)|exact FV (by assumption)|exact FU (by assumption)) (by simp[dB,mD])⟩|exact⟨⟨rfl,rfl,rfl,by omega,by simp⟩,qg 5 (by assumption) (by assumption) (by decide) (numN.X (by assumption)) rfl q2 (by first|exact Jc (by assumption) (by assumption)|exact FV (by assumption)|exact FU (by assumption)) (by simp[dB,mD])⟩|exact⟨⟨rfl,rfl,rfl,by omega,by simp⟩,qg 6 (by assumption) (by assumption) (by decide) (numH.X (by assumption)) rfl q2 (by first|exact Jc (by assumption) (by assumption)|exact FV (by assumption)|exact FU (by assumption)) (by simp[dB,mD])⟩)):K (.sy (.bool r.q)) (aU r.t) 3=true:=au h (aG hK r)
theorem DE (p:ff) (K:KE) (hpre:eI p) (hK:mQ p K=true):(bW 1 (di oX) cL 600 ug (gW p).1 (gW p).2.1 (gW p).2.2 K)=true:=by
 refine Eq.trans (b:=(iP (p.r.set=0) (aM (([.ptr 0 0,.str [99,108,105,101,110,116,115]],(.node (.node .leaf (some (.prow 82 3 aw p.r.gs aD)) .leaf) (some (.blk false 60 14 [[.sy (.imm p.r.hl 1 (List UInt8) p.r.l aP),.sy (.bool p.r.odd),.sy (.prow 1 p.r.gs.length),.sy (.int 0 p.r.clients),.sy (.int 0 p.r.window),.sy (.int 0 p.r.deadline),.sy (.int 0 p.r.pace),.sy (.int 0 p.r.again),.sy (.int 0 p.r.bag),.sy (.int 4 p.r.first),.sy (.prow 2 p.r.os.length),.int 0 (.ofNat 0),.sy (.bool p.r.op),.sy (.int 0 p.r.line)]])) (.node .leaf (some (.prow 54 9 ax p.r.os aI)) .leaf)),3)) eY cJ dw fun p13 r13=>aM (([.ptr 0 0],(.node (.node .leaf (some (.prow 82 3 aw p13.r.gs aD)) .leaf) (some (.blk false 60 14 [[.sy (.imm r13.hl 1 (List UInt8) r13.l aP),.sy (.bool r13.odd),.sy (.prow 1 p13.r.gs.length),.sy (.int 0 p13.r.clients),.sy (.int 0 p13.r.window),.sy (.int 0 p13.r.deadline),.sy (.int 0 p13.r.pace),.sy (.int 0 p13.r.again),.sy (.int 0 p13.r.bag),.sy (.int 4 p13.r.first),.sy (.prow 2 p13.r.os.length),.int 0 (.ofNat 0),.sy (.bool p13.r.op),.sy (.int 0 p13.r.line)]])) (.node .leaf (some (.prow 54 9 ax p13.r.os aI)) .leaf)),3)) dJ cz cS fun p14 r14=>iP (¬r14.odd) (iP ((r14.l.length:Int)=(0:Int)) (K (.sy (.bool ((0:Int)<(p14.r.gs.length:Int)))) (aU ({p14.r with hl:=r14.hl,l:=r14.l,odd:=r14.odd,clients:=r14.z,set:=(1:Int),op:=false=true}:ah)) 3) (K (.sy (.bool (false=true))) (aU ({p14.r with hl:=r14.hl,l:=r14.l,odd:=r14.odd,clients:=r14.z,set:=(1:Int),op:=false=true}:ah)) 3)) (K (.sy (.bool (false=true))) (aU ({p14.r with hl:=r14.hl,l:=r14.l,odd:=r14.odd,clients:=r14.z,set:=(1:Int),op:=false=true}:ah)) 3)) (iP (p.r.set=1) (aM (([.ptr 0 0,.str [119,105,110,100,111,119]],(.node (.node .leaf (some (.prow 82 3 aw p.r.gs aD)) .leaf) (some (.blk false 60 14 [[.sy (.imm p.r.hl 1 (List UInt8) p.r.l aP),.sy (.bool p.r.odd),.sy (.prow 1 p.r.gs.length),.sy (.int 0 p.r.clients),.sy (.int 0 p.r.window),.sy (.int 0 p.r.deadline),.sy (.int 0 p.r.pace),.sy (.int 0 p.r.again),.sy (.int 0 p.r.bag),.sy (.int 4 p.r.first),.sy (.prow 2 p.r.os.length),.int 0 (.ofNat 1),.sy (.bool p.r.op),.sy (.int 0 p.r.line)]])) (.node .leaf (some (.prow 54 9 ax p.r.os aI)) .leaf)),3)) eY cJ dw fun p11 r11=>aM (([.ptr 0 0],(.node (.node .leaf (some (.prow 82 3 aw p11.r.gs aD)) .leaf) (some (.blk false 60 14 [[.sy (.imm r11.hl 1 (List UInt8) r11.l aP),.sy (.bool r11.odd),.sy (.prow 1 p11.r.gs.length),.sy (.int 0 p11.r.clients),.sy (.int 0 p11.r.window),.sy (.int 0 p11.r.deadline),.sy (.int 0 p11.r.pace),.sy (.int 0 p11.r.again),.sy (.int 0 p11.r.bag),.sy (.int 4 p11.r.first),.sy (.prow 2 p11.r.os.length),.int 0 (.ofNat 1),.sy (.bool p11.r.op),.sy (.int 0 p11.r.line)]])) (.node .leaf (some (.prow 54 9 ax p11.r.os aI)) .leaf)),3)) dJ cz cS fun p12 r12=>iP (¬r12.odd) (iP ((r12.l.length:Int)=(0:Int)) (K (.sy (.bool ((0:Int)<(p12.r.gs.length:Int)))) (aU ({p12.r with hl:=r12.hl,l:=r12.l,odd:=r12.odd,window:=r12.z,set:=(2:Int),op:=false=true}:ah)) 3) (K (.sy (.bool (false=true))) (aU ({p12.r with hl:=r12.hl,l:=r12.l,odd:=r12.odd,window:=r12.z,set:=(2:Int),op:=false=true}:ah)) 3)) (K (.sy (.bool (false=true))) (aU ({p12.r with hl:=r12.hl,l:=r12.l,odd:=r12.odd,window:=r12.z,set:=(2:Int),op:=false=true}:ah)) 3)) (iP (p.r.set=2) (aM (([.ptr 0 0,.str [100,101,97,100,108,105,110,101]],(.node (.node .leaf (some (.prow 82 3 aw p.r.gs aD)) .leaf) (some (.blk false 60 14 [[.sy (.imm p.r.hl 1 (List UInt8) p.r.l aP),.sy (.bool p.r.odd),.sy (.prow 1 p.r.gs.length),.sy (.int 0 p.r.clients),.sy (.int 0 p.r.window),.sy (.int 0 p.r.deadline),.sy (.int 0 p.r.pace),.sy (.int 0 p.r.again),.sy (.int 0 p.r.bag),.sy (.int 4 p.r.first),.sy (.prow 2 p.r.os.length),.int 0 (.ofNat 2),.sy (.bool p.r.op),.sy (.int 0 p.r.line)]])) (.node .leaf (some (.prow 54 9 ax p.r.os aI)) .leaf)),3)) eY cJ dw fun p9 r9=>aM (([.ptr 0 0],(.node (.node .leaf (some (.prow 82 3 aw p9.r.gs aD)) .leaf) (some (.blk false 60 14 [[.sy (.imm r9.hl 1 (List UInt8) r9.l aP),.sy (.bool r9.odd),.sy (.prow 1 p9.r.gs.length),.sy (.int 0 p9.r.clients),.sy (.int 0 p9.r.window),.sy (.int 0 p9.r.deadline),.sy (.int 0 p9.r.pace),.sy (.int 0 p9.r.again),.sy (.int 0 p9.r.bag),.sy (.int 4 p9.r.first),.sy (.prow 2 p9.r.os.length),.int 0 (.ofNat 2),.sy (.bool p9.r.op),.sy (.int 0 p9.r.line)]])) (.node .leaf (some (.prow 54 9 ax p9.r.os aI)) .leaf)),3)) dJ cz cS fun p10 r10=>iP (¬r10.odd) (iP ((r10.l.length:Int)=(0:Int)) (K (.sy (.bool ((0:Int)<(p10.r.gs.length:Int)))) (aU ({p10.r with hl:=r10.hl,l:=r10.l,odd:=r10.odd,deadline:=r10.z,set:=(3:Int),op:=false=true}:ah)) 3) (K (.sy (.bool (false=true))) (aU ({p10.r with hl:=r10.hl,l:=r10.l,odd:=r10.odd,deadline:=r10.z,set:=(3:Int),op:=false=true}:ah)) 3)) (K (.sy (.bool (false=true))) (aU ({p10.r with hl:=r10.hl,l:=r10.l,odd:=r10.odd,deadline:=r10.z,set:=(3:Int),op:=false=true}:ah)) 3)) (iP (p.r.set=3) (aM (([.ptr 0 0,.str [112,97,99,101]],(.node (.node .leaf (some (.prow 82 3 aw p.r.gs aD)) .leaf) (some (.blk false 60 14 [[.sy (.imm p.r.hl 1 (List UInt8) p.r.l aP),.sy (.bool p.r.odd),.sy (.prow 1 p.r.gs.length),.sy (.int 0 p.r.clients),.sy (.int 0 p.r.window),.sy (.int 0 p.r.deadline),.sy (.int 0 p.r.pace),.sy (.int 0 p.r.again),.sy (.int 0 p.r.bag),.sy (.int 4 p.r.first),.sy (.prow 2 p.r.os.length),.int 0 (.ofNat 3),.sy (.bool p.r.op),.sy (.int 0 p.r.line)]])) (.node .leaf (some (.prow 54 9 ax p.r.os aI)) .leaf)),3)) eY cJ dw fun p7 r7=>aM (([.ptr 0 0],(.node (.node .leaf (some (.prow 82 3 aw p7.r.gs aD)) .leaf) (some (.blk false 60 14 [[.sy (.imm r7.hl 1 (List UInt8) r7.l aP),.sy (.bool r7.odd),.sy (.prow 1 p7.r.gs.length),.sy (.int 0 p7.r.clients),.sy (.int 0 p7.r.window),.sy (.int 0 p7.r.deadline),.sy (.int 0 p7.r.pace),.sy (.int 0 p7.r.again),.sy (.int 0 p7.r.bag),.sy (.int 4 p7.r.first),.sy (.prow 2 p7.r.os.length),.int 0 (.ofNat 3),.sy (.bool p7.r.op),.sy (.int 0 p7.r.line)]])) (.node .leaf (some (.prow 54 9 ax p7.r.os aI)) .leaf)),3)) dJ cz cS fun p8 r8=>iP (¬r8.odd) (iP ((r8.l.length:Int)=(0:Int)) (K (.sy (.bool ((0:Int)<(p8.r.gs.length:Int)))) (aU ({p8.r with hl:=r8.hl,l:=r8.l,odd:=r8.odd,pace:=r8.z,set:=(4:Int),op:=false=true}:ah)) 3) (K (.sy (.bool (false=true))) (aU ({p8.r with hl:=r8.hl,l:=r8.l,odd:=r8.odd,pace:=r8.z,set:=(4:Int),op:=false=true}:ah)) 3)) (K (.sy (.bool (false=true))) (aU ({p8.r with hl:=r8.hl,l:=r8.l,odd:=r8.odd,pace:=r8.z,set:=(4:Int),op:=false=true}:ah)) 3)) (iP (p.r.set=4) (aM (([.ptr 0 0,.str [97,103,97,105,110]],(.node (.node .leaf (some (.prow 82 3 aw p.r.gs aD)) .leaf) (some (.blk false 60 14 [[.sy (.imm p.r.hl 1 (List UInt8) p.r.l aP),.sy (.bool p.r.odd),.sy (.prow 1 p.r.gs.length),.sy (.int 0 p.r.clients),.sy (.int 0 p.r.window),.sy (.int 0 p.r.deadline),.sy (.int 0 p.r.pace),.sy (.int 0 p.r.again),.sy (.int 0 p.r.bag),.sy (.int 4 p.r.first),.sy (.prow 2 p.r.os.length),.int 0 (.ofNat 4),.sy (.bool p.r.op),.sy (.int 0 p.r.line)]])) (.node .leaf (some (.prow 54 9 ax p.r.os aI)) .leaf)),3)) eY cJ dw fun p5 r5=>aM (([.ptr 0 0],(.node (.node .leaf (some (.prow 82 3 aw p5.r.gs aD)) .leaf) (some (.blk false 60 14 [[.sy (.imm r5.hl 1 (List UInt8) r5.l aP),.sy (.bool r5.odd),.sy (.prow 1 p5.r.gs.length),.sy (.int 0 p5.r.clients),.sy (.int 0 p5.r.window),.sy (.int 0 p5.r.deadline),.sy (.int 0 p5.r.pace),.sy (.int 0 p5.r.again),.sy (.int 0 p5.r.bag),.sy (.int 4 p5.r.first),.sy (.prow 2 p5.r.os.length),.int 0 (.ofNat 4),.sy (.bool p5.r.op),.sy (.int 0 p5.r.line)]])) (.node .leaf (some (.prow 54 9 ax p5.r.os aI)) .leaf)),3)) dJ cz cS fun p6 r6=>iP (¬r6.odd) (iP ((r6.l.length:Int)=(0:Int)) (K (.sy (.bool ((0:Int)<(p6.r.gs.length:Int)))) (aU ({p6.r with hl:=r6.hl,l:=r6.l,odd:=r6.odd,again:=r6.z,set:=(5:Int),op:=false=true}:ah)) 3) (K (.sy (.bool (false=true))) (aU ({p6.r with hl:=r6.hl,l:=r6.l,odd:=r6.odd,again:=r6.z,set:=(5:Int),op:=false=true}:ah)) 3)) (K (.sy (.bool (false=true))) (aU ({p6.r with hl:=r6.hl,l:=r6.l,odd:=r6.odd,again:=r6.z,set:=(5:Int),op:=false=true}:ah)) 3)) (iP (p.r.set=5) (aM (([.ptr 0 0,.str [98,97,103]],(.node (.node .leaf (some (.prow 82 3 aw p.r.gs aD)) .leaf) (some (.blk false 60 14 [[.sy (.imm p.r.hl 1 (List UInt8) p.r.l aP),.sy (.bool p.r.odd),.sy (.prow 1 p.r.gs.length),.sy (.int 0 p.r.clients),.sy (.int 0 p.r.window),.sy (.int 0 p.r.deadline),.sy (.int 0 p.r.pace),.sy (.int 0 p.r.again),.sy (.int 0 p.r.bag),.sy (.int 4 p.r.first),.sy (.prow 2 p.r.os.length),.int 0 (.ofNat 5),.sy (.bool p.r.op),.sy (.int 0 p.r.line)]])) (.node .leaf (some (.prow 54 9 ax p.r.os aI)) .leaf)),3)) eY cJ dw fun p3 r3=>aM (([.ptr 0 0],(.node (.node .leaf (some (.prow 82 3 aw p3.r.gs aD)) .leaf) (some (.blk false 60 14 [[.sy (.imm r3.hl 1 (List UInt8) r3.l aP),.sy (.bool r3.odd),.sy (.prow 1 p3.r.gs.length),.sy (.int 0 p3.r.clients),.sy (.int 0 p3.r.window),.sy (.int 0 p3.r.deadline),.sy (.int 0 p3.r.pace),.sy (.int 0 p3.r.again),.sy (.int 0 p3.r.bag),.sy (.int 4 p3.r.first),.sy (.prow 2 p3.r.os.length),.int 0 (.ofNat 5),.sy (.bool p3.r.op),.sy (.int 0 p3.r.line)]])) (.node .leaf (some (.prow 54 9 ax p3.r.os aI)) .leaf)),3)) dJ cz cS fun p4 r4=>iP (¬r4.odd) (iP ((r4.l.length:Int)=(0:Int)) (K (.sy (.bool ((0:Int)<(p4.r.gs.length:Int)))) (aU ({p4.r with hl:=r4.hl,l:=r4.l,odd:=r4.odd,bag:=r4.z,set:=(6:Int),op:=false=true}:ah)) 3) (K (.sy (.bool (false=true))) (aU ({p4.r with hl:=r4.hl,l:=r4.l,odd:=r4.odd,bag:=r4.z,set:=(6:Int),op:=false=true}:ah)) 3)) (K (.sy (.bool (false=true))) (aU ({p4.r with hl:=r4.hl,l:=r4.l,odd:=r4.odd,bag:=r4.z,set:=(6:Int),op:=false=true}:ah)) 3)) (iP (p.r.set=6) (aM (([.ptr 0 0,.str [102,105,114,115,116]],(.node (.node .leaf (some (.prow 82 3 aw p.r.gs aD)) .leaf) (some (.blk false 60 14 [[.sy (.imm p.r.hl 1 (List UInt8) p.r.l aP),.sy (.bool p.r.odd),.sy (.prow 1 p.r.gs.length),.sy (.int 0 p.r.clients),.sy (.int 0 p.r.window),.sy (.int 0 p.r.deadline),.sy (.int 0 p.r.pace),.sy (.int 0 p.r.again),.sy (.int 0 p.r.bag),.sy (.int 4 p.r.first),.sy (.prow 2 p.r.os.length),.int 0 (.ofNat 6),.sy (.bool p.r.op),.sy (.int 0 p.r.line)]])) (.node .leaf (some (.prow 54 9 ax p.r.os aI)) .leaf)),3)) eY cJ dw fun p1 r1=>aM (([.ptr 0 0,.int 4 (.ofNat 18446744073709551615)],(.node (.node .leaf (some (.prow 82 3 aw p1.r.gs aD)) .leaf) (some (.blk false 60 14 [[.sy (.imm r1.hl 1 (List UInt8) r1.l aP),.sy (.bool r1.odd),.sy (.prow 1 p1.r.gs.length),.sy (.int 0 p1.r.clients),.sy (.int 0 p1.r.window),.sy (.int 0 p1.r.deadline),.sy (.int 0 p1.r.pace),.sy (.int 0 p1.r.again),.sy (.int 0 p1.r.bag),.sy (.int 4 p1.r.first),.sy (.prow 2 p1.r.os.length),.int 0 (.ofNat 6),.sy (.bool p1.r.op),.sy (.int 0 p1.r.line)]])) (.node .leaf (some (.prow 54 9 ax p1.r.os aI)) .leaf)),3)) iU hQ kn fun p2 r2=>iP (¬r2.odd) (iP ((r2.l.length:Int)=(0:Int)) (K (.sy (.bool ((0:Int)<(p2.r.gs.length:Int)))) (aU ({p2.r with hl:=r2.hl,l:=r2.l,odd:=r2.odd,first:=r2.z,set:=(7:Int),op:=true=true}:ah)) 3) (K (.sy (.bool (false=true))) (aU ({p2.r with hl:=r2.hl,l:=r2.l,odd:=r2.odd,first:=r2.z,set:=(7:Int),op:=true=true}:ah)) 3)) (K (.sy (.bool (false=true))) (aU ({p2.r with hl:=r2.hl,l:=r2.l,odd:=r2.odd,first:=r2.z,set:=(7:Int),op:=true=true}:ah)) 3)) (mP (False) (true)))))))))) (by kernel_rfl) ?_
 dsimp only[eI]at hpre
 obtain⟨q1,q2,q3,q4⟩:=hpre
 refine iI (fun hc1=> ?_) (fun hc1=> ?_)
 refine ay (⟨({p.r with set:=(0:Int)}:ah),([99,108,105,101,110,116,115]:List Nat)⟩:fO) rfl (by(try dsimp only[cJ]);assumption) fun r13 hi2=> ?_
 dsimp only[dw]at hi2
 obtain⟨hi2,hs2⟩:=hi2
 refine ay (⟨({({p.r with set:=(0:Int)}:ah) with hl:=r13.hl,l:=r13.l,odd:=r13.odd,set:=(0:Int)}:ah)⟩:ew) rfl (by(try dsimp only[cz]);assumption) fun r14 hi3=> ?_
 dsimp only[cS]at hi3
 obtain⟨hi3,hs3⟩:=hi3
 refine iI (fun hc4=> ?_) (fun hc4=> ?_)
 refine iI (fun hc5=> ?_) (fun hc5=> ?_)
 exact bg hK ⟨({({({p.r with set:=(0:Int)}:ah) with hl:=r13.hl,l:=r13.l,odd:=r13.odd,set:=(0:Int)}:ah) with hl:=r14.hl,l:=r14.l,odd:=r14.odd,clients:=r14.z,set:=(1:Int),op:=false=true}:ah),(0:Int)<(p.r.gs.length:Int)⟩
 exact bg hK ⟨({({({p.r with set:=(0:Int)}:ah) with hl:=r13.hl,l:=r13.l,odd:=r13.odd,set:=(0:Int)}:ah) with hl:=r14.hl,l:=r14.l,odd:=r14.odd,clients:=r14.z,set:=(1:Int),op:=false=true}:ah),false=true⟩
 exact bg hK ⟨({({({p.r with set:=(0:Int)}:ah) with hl:=r13.hl,l:=r13.l,odd:=r13.odd,set:=(0:Int)}:ah) with hl:=r14.hl,l:=r14.l,odd:=r14.odd,clients:=r14.z,set:=(1:Int),op:=false=true}:ah),false=true⟩
 refine iI (fun hc6=> ?_) (fun hc6=> ?_)
 refine ay (⟨({p.r with set:=(1:Int)}:ah),([119,105,110,100,111,119]:List Nat)⟩:fO) rfl (by(try dsimp only[cJ]);assumption) fun r11 hi7=> ?_
 dsimp only[dw]at hi7
 obtain⟨hi7,hs7⟩:=hi7
 refine ay (⟨({({p.r with set:=(1:Int)}:ah) with hl:=r11.hl,l:=r11.l,odd:=r11.odd,set:=(1:Int)}:ah)⟩:ew) rfl (by(try dsimp only[cz]);assumption) fun r12 hi8=> ?_
 dsimp only[cS]at hi8
 obtain⟨hi8,hs8⟩:=hi8
 refine iI (fun hc9=> ?_) (fun hc9=> ?_)
 refine iI (fun hc10=> ?_) (fun hc10=> ?_)
 exact bg hK ⟨({({({p.r with set:=(1:Int)}:ah) with hl:=r11.hl,l:=r11.l,odd:=r11.odd,set:=(1:Int)}:ah) with hl:=r12.hl,l:=r12.l,odd:=r12.odd,window:=r12.z,set:=(2:Int),op:=false=true}:ah),(0:Int)<(p.r.gs.length:Int)⟩
 exact bg hK ⟨({({({p.r with set:=(1:Int)}:ah) with hl:=r11.hl,l:=r11.l,odd:=r11.odd,set:=(1:Int)}:ah) with hl:=r12.hl,l:=r12.l,odd:=r12.odd,window:=r12.z,set:=(2:Int),op:=false=true}:ah),false=true⟩
 exact bg hK ⟨({({({p.r with set:=(1:Int)}:ah) with hl:=r11.hl,l:=r11.l,odd:=r11.odd,set:=(1:Int)}:ah) with hl:=r12.hl,l:=r12.l,odd:=r12.odd,window:=r12.z,set:=(2:Int),op:=false=true}:ah),false=true⟩
 refine iI (fun hc11=> ?_) (fun hc11=> ?_)
 refine ay (⟨({p.r with set:=(2:Int)}:ah),([100,101,97,100,108,105,110,101]:List Nat)⟩:fO) rfl (by(try dsimp only[cJ]);assumption) fun r9 hi12=> ?_
 dsimp only[dw]at hi12
 obtain⟨hi12,hs12⟩:=hi12
 refine ay (⟨({({p.r with set:=(2:Int)}:ah) with hl:=r9.hl,l:=r9.l,odd:=r9.odd,set:=(2:Int)}:ah)⟩:ew) rfl (by(try dsimp only[cz]);assumption) fun r10 hi13=> ?_
 dsimp only[cS]at hi13
 obtain⟨hi13,hs13⟩:=hi13
 refine iI (fun hc14=> ?_) (fun hc14=> ?_)
 refine iI (fun hc15=> ?_) (fun hc15=> ?_)
 exact bg hK ⟨({({({p.r with set:=(2:Int)}:ah) with hl:=r9.hl,l:=r9.l,odd:=r9.odd,set:=(2:Int)}:ah) with hl:=r10.hl,l:=r10.l,odd:=r10.odd,deadline:=r10.z,set:=(3:Int),op:=false=true}:ah),(0:Int)<(p.r.gs.length:Int)⟩
 exact bg hK ⟨({({({p.r with set:=(2:Int)}:ah) with hl:=r9.hl,l:=r9.l,odd:=r9.odd,set:=(2:Int)}:ah) with hl:=r10.hl,l:=r10.l,odd:=r10.odd,deadline:=r10.z,set:=(3:Int),op:=false=true}:ah),false=true⟩
 exact bg hK ⟨({({({p.r with set:=(2:Int)}:ah) with hl:=r9.hl,l:=r9.l,odd:=r9.odd,set:=(2:Int)}:ah) with hl:=r10.hl,l:=r10.l,odd:=r10.odd,deadline:=r10.z,set:=(3:Int),op:=false=true}:ah),false=true⟩
 refine iI (fun hc16=> ?_) (fun hc16=> ?_)
 refine ay (⟨({p.r with set:=(3:Int)}:ah),([112,97,99,101]:List Nat)⟩:fO) rfl (by(try dsimp only[cJ]);assumption) fun r7 hi17=> ?_
 dsimp only[dw]at hi17
 obtain⟨hi17,hs17⟩:=hi17
 refine ay (⟨({({p.r with set:=(3:Int)}:ah) with hl:=r7.hl,l:=r7.l,odd:=r7.odd,set:=(3:Int)}:ah)⟩:ew) rfl (by(try dsimp only[cz]);assumption) fun r8 hi18=> ?_
 dsimp only[cS]at hi18
 obtain⟨hi18,hs18⟩:=hi18
 refine iI (fun hc19=> ?_) (fun hc19=> ?_)
 refine iI (fun hc20=> ?_) (fun hc20=> ?_)
 exact bg hK ⟨({({({p.r with set:=(3:Int)}:ah) with hl:=r7.hl,l:=r7.l,odd:=r7.odd,set:=(3:Int)}:ah) with hl:=r8.hl,l:=r8.l,odd:=r8.odd,pace:=r8.z,set:=(4:Int),op:=false=true}:ah),(0:Int)<(p.r.gs.length:Int)⟩
 exact bg hK ⟨({({({p.r with set:=(3:Int)}:ah) with hl:=r7.hl,l:=r7.l,odd:=r7.odd,set:=(3:Int)}:ah) with hl:=r8.hl,l:=r8.l,odd:=r8.odd,pace:=r8.z,set:=(4:Int),op:=false=true}:ah),false=true⟩
 exact bg hK ⟨({({({p.r with set:=(3:Int)}:ah) with hl:=r7.hl,l:=r7.l,odd:=r7.odd,set:=(3:Int)}:ah) with hl:=r8.hl,l:=r8.l,odd:=r8.odd,pace:=r8.z,set:=(4:Int),op:=false=true}:ah),false=true⟩
 refine iI (fun hc21=> ?_) (fun hc21=> ?_)
 refine ay (⟨({p.r with set:=(4:Int)}:ah),([97,103,97,105,110]:List Nat)⟩:fO) rfl (by(try dsimp only[cJ]);assumption) fun r5 hi22=> ?_
 dsimp only[dw]at hi22
 obtain⟨hi22,hs22⟩:=hi22
 refine ay (⟨({({p.r with set:=(4:Int)}:ah) with hl:=r5.hl,l:=r5.l,odd:=r5.odd,set:=(4:Int)}:ah)⟩:ew) rfl (by(try dsimp only[cz]);assumption) fun r6 hi23=> ?_
 dsimp only[cS]at hi23
 obtain⟨hi23,hs23⟩:=hi23
 refine iI (fun hc24=> ?_) (fun hc24=> ?_)
 refine iI (fun hc25=> ?_) (fun hc25=> ?_)
 exact bg hK ⟨({({({p.r with set:=(4:Int)}:ah) with hl:=r5.hl,l:=r5.l,odd:=r5.odd,set:=(4:Int)}:ah) with hl:=r6.hl,l:=r6.l,odd:=r6.odd,again:=r6.z,set:=(5:Int),op:=false=true}:ah),(0:Int)<(p.r.gs.length:Int)⟩
 exact bg hK ⟨({({({p.r with set:=(4:Int)}:ah) with hl:=r5.hl,l:=r5.l,odd:=r5.odd,set:=(4:Int)}:ah) with hl:=r6.hl,l:=r6.l,odd:=r6.odd,again:=r6.z,set:=(5:Int),op:=false=true}:ah),false=true⟩
 exact bg hK ⟨({({({p.r with set:=(4:Int)}:ah) with hl:=r5.hl,l:=r5.l,odd:=r5.odd,set:=(4:Int)}:ah) with hl:=r6.hl,l:=r6.l,odd:=r6.odd,again:=r6.z,set:=(5:Int),op:=false=true}:ah),false=true⟩
 refine iI (fun hc26=> ?_) (fun hc26=> ?_)
 refine ay (⟨({p.r with set:=(5:Int)}:ah),([98,97,103]:List Nat)⟩:fO) rfl (by(try dsimp only[cJ]);assumption) fun r3 hi27=> ?_
 dsimp only[dw]at hi27
 obtain⟨hi27,hs27⟩:=hi27
 refine ay (⟨({({p.r with set:=(5:Int)}:ah) with hl:=r3.hl,l:=r3.l,odd:=r3.odd,set:=(5:Int)}:ah)⟩:ew) rfl (by(try dsimp only[cz]);assumption) fun r4 hi28=> ?_
 dsimp only[cS]at hi28
 obtain⟨hi28,hs28⟩:=hi28
 refine iI (fun hc29=> ?_) (fun hc29=> ?_)
 refine iI (fun hc30=> ?_) (fun hc30=> ?_)
 exact bg hK ⟨({({({p.r with set:=(5:Int)}:ah) with hl:=r3.hl,l:=r3.l,odd:=r3.odd,set:=(5:Int)}:ah) with hl:=r4.hl,l:=r4.l,odd:=r4.odd,bag:=r4.z,set:=(6:Int),op:=false=true}:ah),(0:Int)<(p.r.gs.length:Int)⟩
 exact bg hK ⟨({({({p.r with set:=(5:Int)}:ah) with hl:=r3.hl,l:=r3.l,odd:=r3.odd,set:=(5:Int)}:ah) with hl:=r4.hl,l:=r4.l,odd:=r4.odd,bag:=r4.z,set:=(6:Int),op:=false=true}:ah),false=true⟩
 exact bg hK ⟨({({({p.r with set:=(5:Int)}:ah) with hl:=r3.hl,l:=r3.l,odd:=r3.odd,set:=(5:Int)}:ah) with hl:=r4.hl,l:=r4.l,odd:=r4.odd,bag:=r4.z,set:=(6:Int),op:=false=true}:ah),false=true⟩
 refine iI (fun hc31=> ?_) (fun hc31=> ?_)
 refine ay (⟨({p.r with set:=(6:Int)}:ah),([102,105,114,115,116]:List Nat)⟩:fO) rfl (by(try dsimp only[cJ]);assumption) fun r1 hi32=> ?_
 dsimp only[dw]at hi32
 obtain⟨hi32,hs32⟩:=hi32
 refine ay (⟨({({p.r with set:=(6:Int)}:ah) with hl:=r1.hl,l:=r1.l,odd:=r1.odd,set:=(6:Int)}:ah),(18446744073709551615:Int)⟩:la) rfl (by(try dsimp only[hQ]);exact⟨by assumption,by decide⟩) fun r2 hi33=> ?_
 dsimp only[kn]at hi33
 obtain⟨hi33,hs33⟩:=hi33
 refine iI (fun hc34=> ?_) (fun hc34=> ?_)
 refine iI (fun hc35=> ?_) (fun hc35=> ?_)
 exact bg hK ⟨({({({p.r with set:=(6:Int)}:ah) with hl:=r1.hl,l:=r1.l,odd:=r1.odd,set:=(6:Int)}:ah) with hl:=r2.hl,l:=r2.l,odd:=r2.odd,first:=r2.z,set:=(7:Int),op:=true=true}:ah),(0:Int)<(p.r.gs.length:Int)⟩
 exact bg hK ⟨({({({p.r with set:=(6:Int)}:ah) with hl:=r1.hl,l:=r1.l,odd:=r1.odd,set:=(6:Int)}:ah) with hl:=r2.hl,l:=r2.l,odd:=r2.odd,first:=r2.z,set:=(7:Int),op:=true=true}:ah),false=true⟩
 exact bg hK ⟨({({({p.r with set:=(6:Int)}:ah) with hl:=r1.hl,l:=r1.l,odd:=r1.odd,set:=(6:Int)}:ah) with hl:=r2.hl,l:=r2.l,odd:=r2.odd,first:=r2.z,set:=(7:Int),op:=true=true}:ah),false=true⟩
 refine jE ?_
 rfl
noncomputable def ig:=bt oX 1 (bJ gW (dr eI mQ)) 50 []
theorem ie:aV Tryz.prog ig:=aR (cY (f:=50) (k:=1) (bj qO) zM (by rfl) (by rfl) DE) qO
structure MU where
 kind:Int
 x:Int
 y:Int
 i:Int
 at_:Int
 mode:Int
 mask:Int
def PQ (o:ax) (n:MU):Prop:=eG o n.kind n.x n.y n.i n.at_ n.mode n.mask
def Ut (r t:ah) (n:MU) (q:Prop):Prop:=(t.line=r.line∧t.set=r.set∧t.op=r.op∧t.gs=r.gs)∧
 (q→(t.os.length=r.os.length+1∧((∀x∈r.os,x.ps.length≤10)→∀x∈t.os,x.ps.length≤10))∧∃o',cQ o'∧PQ o' n∧¬r.odd∧r.l=o'.ps.map bd∧dB t={dB r with os:=(dB r).os++[be o']})∧
 (¬q→∀o',cQ o'→PQ o' n→¬(¬r.odd∧r.l=o'.ps.map bd))
theorem aap {o:ax} (h:cn o):o.ps.length≤10:=by
 unfold cn at h
 rcases h with h|h|h|h|h|h|h|h|h|h|h|h
 ·have:=h.2.2.2.2.2.2.2.1.2.1;omega
 all_goals
  have e:o.ps=[]:=by simp only[h]
  rw[e];simp
def Ag (l l2:TX) (odd odd2:Prop) (k:Int) (ps ps2:List aB):Prop:=(∃qs,ps2=ps++qs∧(∀p∈qs,gS p)∧l=qs.map bd++l2∧(¬k=0→qs=[]))∧(odd2↔odd)∧(odd∨¬k=0∨l2=[])∧ps2.length+l2.length≤1000000∧cb l2
theorem VW {l l1 l2:TX} {odd odd1 odd2:Prop} {k:Int} {ps ps2:List aB} {p:aB} {x:List UInt8} (h1:dp l l1 odd odd1 x) (hl:l≠[]) (hk:k=0) (hp:gS p∧x=bd p) (h:Ag l1 l2 odd1 odd2 k (ps++[p]) ps2):Ag l l2 odd odd2 k ps ps2:=by
 obtain⟨rfl,rfl,h2⟩:=h1
 obtain⟨⟨qs,a1,a2,a3,_⟩,b,c,d⟩:=h
 have e:odd1↔odd:=by rw[h2];simp[hl]
 refine⟨⟨p::qs,by rw[a1];simp,?_,?_,fun q=>absurd hk q⟩,b.trans e,?_,d⟩
 ·intro y hy
  rcases List.mem_cons.1 hy with rfl|hy
  ·exact hp.1
  ·exact a2 y hy
 ·have e3:=ul hl
  rw[List.map_cons,acI,←a3,←hp.2]
  exact e3
 ·rw[←e];exact c
theorem Et {l:TX} {odd:Prop} {k:Int} {ps:List aB} (h:odd∨¬k=0∨(l.length:Int)=0∨¬(0:Int)<l.length) (h2:ps.length+l.length≤1000000) (h3:cb l):Ag l l odd odd k ps ps:=
 ⟨⟨[],by simp,fun p hp=>(by cases hp),by simp,fun _=>rfl⟩,Iff.rfl,by
  rcases h with h|h|h|h
  ·exact .inl h
  ·exact .inr (.inl h)
  ·exact .inr (.inr (acW (by omega)))
  ·exact .inr (.inr (acW (by omega))),h2,h3⟩
theorem aaP {l l1:TX} {o o1:Prop} {x:List UInt8} {ps:List aB} {p:aB} (h:dp l l1 o o1 x) (hl:(0:Int)<l.length) (g:ps.length+l.length≤1000000):(ps++[p]).length+l1.length≤1000000:=by
 rw[h.2.1,List.length_tail,acA,List.length_singleton];omega
theorem abX {l l1:TX} {o o1:Prop} {x:List UInt8} (h:dp l l1 o o1 x) (hl:(0:Int)<l.length):l1.length<l.length:=by
 rw[h.2.1,List.length_tail];omega
theorem UC {l:TX} (hl:(0:Int)<l.length):l≠[]:=fun q=>by rw[q]at hl;simp at hl
theorem aaQ {l l1:TX} {o o1 q:Prop} {s:List UInt8} {p:aB} (h:dp l l1 o o1 s) (hl:(0:Int)<l.length) (h5:rQ s q p) (h6:¬q):∃x∈l,∀p,gS p→¬x=bd p:=
 ⟨s,by rw[h.1,ul (UC hl)];exact List.mem_cons_self,h5.2 h6⟩
theorem aaO {l l1:TX} {o o1:Prop} {s:List UInt8} {R:List UInt8→Prop} (h:dp l l1 o o1 s) (k:∃x∈l1,R x):∃x∈l,R x:=by
 obtain⟨x,hx,k⟩:=k
 rw[h.2.1]at hx
 exact⟨x,List.mem_of_mem_tail hx,k⟩
theorem Om {l l2:TX} {odd odd2:Prop} {k:Int} {ps ps2:List aB} (h:Ag l l2 odd odd2 k ps ps2):ps2.length≤1000000:=by have:=h.2.2.2.1;omega
theorem Bf {α:Type} {l:List α} (h:¬(0:Int)<l.length):l=[]:=acW (by omega)
theorem qw {α:Type} {P Q:α→Prop} {K:α→Bool} (h:(am fun r=>iP (P r) (K r) true)=true) (hw:∀r,Q r→P r):(am fun r=>iP (Q r) (K r) true)=true:=az fun r=>iI (fun hz=>au (hw r hz) (aG h r)) (fun _=>rfl)
theorem uO {r t:ah} {n:MU} {l2:TX} {odd2 q:Prop} {O:ax} (hs:(t.line=r.line∧t.set=r.set∧t.op=r.op∧t.gs=r.gs)∧(t.clients=r.clients∧t.window=r.window∧t.deadline=r.deadline∧t.pace=r.pace∧t.again=r.again∧t.bag=r.bag∧t.first=r.first)∧t.os=r.os++[O])
  (hn:O.kind=n.kind∧O.x=n.x∧O.y=n.y∧O.i=n.i∧O.at_=n.at_∧O.mode=n.mode∧O.mask=n.mask) (hm:0≤n.mask∧n.mask≤4294967295)
  (hlp:Ag r.l l2 r.odd odd2 n.kind [] O.ps)
  (hgr:(O.ps=[]∧O.grp=0)∨∃p,O.ps[0]?=some p∧O.grp=p.g) (hq:q↔¬odd2∧l2=[]∧cn O):Ut r t n q:=by
 obtain⟨h1,h2,h3⟩:=hs
 obtain⟨n1,n2,n3,n4,n5,n6,n7⟩:=hn
 obtain⟨⟨qs,w1,hps,hl,hk⟩,hodd,hstop,_,_⟩:=hlp
 obtain rfl:O.ps=qs:=by simpa using w1
 obtain⟨a,b⟩:=ZQ (a:=dB r) (O:=O) hps hl hodd (by rw[n1];exact hstop) (by rw[n1];exact hk) hgr (by rw[n7];exact hm) hq
 have e:dB t={dB r with os:=(dB r).os++[be O]}:=by
  obtain⟨_,e2,_,e4⟩:=h1
  obtain⟨c1,c2,c3,c4,c5,c6,c7⟩:=h2
  simp[dB,e2,e4,c1,c2,c3,c4,c5,c6,c7,h3]
 refine⟨h1,fun hq'=> ?_,fun hn' o' k1 k2=> ?_⟩
 ·refine⟨⟨by rw[h3];simp,fun k x hx=> ?_⟩,?_⟩
  ·rw[h3]at hx
   rcases List.mem_append.1 hx with hx|hx
   ·exact k x hx
   ·rw[List.mem_singleton.1 hx];exact aap (hq.1 hq').2.2
  ·obtain⟨o',k1,k2,k3,k4,k5⟩:=a hq'
   refine⟨o',k1,?_,k3,k4,e.trans k5⟩
   unfold PQ
   rw[←n1,←n2,←n3,←n4,←n5,←n6,←n7]
   exact k2
 ·refine b hn' o' k1 ?_
  unfold PQ at k2
  rw[n1,n2,n3,n4,n5,n6,n7]
  exact k2
theorem uP {r t:ah} {n:MU} {x:List UInt8} (hs:t.line=r.line∧t.set=r.set∧t.op=r.op∧t.gs=r.gs) (hx:x∈r.l) (h:∀p,gS p→¬x=bd p):Ut r t n (false=true):=
 ⟨hs,fun q=>(by cases q),fun _=>ZR (SN:=fun o=>PQ o n) hx h⟩
def EN:XC:=(.aft (.seq (.seq (g_ 20 [p_ 0 39 (m_ 0),p_ 1 40 (n_ 39),p_ 2 41 (f_ 0 40),p_ 3 42 (f_ 1 41),r_ 4 43 (l_ 42),p_ 5 44 (.un 0 (.t 43)),p_ 6 45 (m_ 44),aj 7 46 45 true (f_ 0 3),aT 8 47 45 true (l_ 46),aj 9 48 45 true (.bin 3 4 (.t 47) (i_ 0)),p_ 10 49 (.pick (.t 45) (.t 48) (.c (.bool false))),p_ 11 50 (m_ 49),aj 12 51 50 true (m_ 0),aj 13 52 50 true (n_ 51),aj 14 53 50 true (f_ 0 52),aj 15 54 50 true (f_ 0 53),aT 16 55 50 true (l_ 54),aj 17 56 50 true (k_ 55),aj 18 57 50 true (.bin 3 2 (.t 56) (i_ 0)),p_ 19 58 (.pick (.t 50) (.t 57) (.c (.bool false)))]) (.cond (.t 58) .skip (.exit 4))) (.block 5 (.seq (g_ 11 [p_ 0 60 (m_ 0),p_ 1 61 (n_ 60),p_ 2 62 (f_ 0 61),c_ 3 63 78 [.t 62],c_ 4 64 81 [.t 63],p_ 5 59 (m_ 64),p_ 6 65 (.ext 0 (.t 59)),p_ 7 66 (.ext 1 (.t 59)),e_ 8 6 (.al 124 [.int 1 (.ofNat 0),.int 1 (.ofNat 0),.str [],.str [],.int 0 (.ofNat 0)]),bl 9 (.st 5 (.t 6) (.t 65)),p_ 10 7 (m_ 66)]) (.seq (.seq (g_ 2 [p_ 0 67 (m_ 7),p_ 1 68 (.un 0 (.t 67))]) (.cond (.t 68) (.seq (g_ 1 [p_ 0 2 (.mv (.c (.bool false)))]) .ret) .skip)) (g_ 7 [p_ 0 69 (f_ 8 3),r_ 1 70 (l_ 69),r_ 2 71 (.ld true 5 (.t 6)),e_ 3 72 (.bsl 124 5 1 [.int 1 (.ofNat 0),.int 1 (.ofNat 0),.str [],.str [],.int 0 (.ofNat 0)] [(0,5)] [.t 71]),e_ 4 73 (.app 124 5 48 (.t 70) (.t 72)),p_ 5 74 (f_ 8 3),bl 6 (.st 1 (.t 74) (.t 73))]))))) [(0,[.can 1 [0,3]]),(1,[.can 1 [2]]),(4,[.can 1 [0,3]])])
def EM:XC:=(.aft (.seq (.block 4 (.pre [.can 1 [0,3],.cell 1 0 8 124 5 aB encP,.can 1 [0,3]] (.inv 0 EN))) (.seq (.seq (g_ 4 [p_ 0 75 (f_ 8 3),r_ 1 76 (l_ 75),p_ 2 77 (k_ 76),p_ 3 78 (.bin 3 2 (.t 77) (i_ 0))]) (.cond (.t 78) (g_ 7 [p_ 0 79 (f_ 8 3),r_ 1 80 (l_ 79),p_ 2 81 (.ixs 5 (.t 80) (i_ 0)),p_ 3 82 (f_ 0 81),r_ 4 83 (l_ 82),p_ 5 84 (f_ 7 3),bl 6 (.st 1 (.t 84) (.t 83))]) .skip)) (.seq (.pre [.can 1 [0,3],.upc 1 0 7,.frzc 1 0 8] (h_ 13 [p_ 0 85 (m_ 0),p_ 1 86 (m_ 0),p_ 2 87 (n_ 86),p_ 3 88 (f_ 2 87),p_ 4 89 (f_ 8 88),r_ 5 90 (l_ 89),r_ 6 91 (.ld true 9 (.t 3)),e_ 7 92 (.bsl 54 9 1 [.int 0 (.ofNat 0),.int 0 (.ofNat 0),.int 0 (.ofNat 0),.int 0 (.ofNat 0),.int 0 (.ofNat 0),.int 0 (.ofNat 0),.int 3 (.ofNat 0),.int 1 (.ofNat 0),.nilS] [(0,9)] [.t 91]),a_ 5 90 (l_ 89),e_ 8 93 (.app 54 9 80 (.t 90) (.t 92)),p_ 9 94 (n_ 85),p_ 10 95 (f_ 2 94),p_ 11 96 (f_ 8 95),bl 12 (.st 1 (.t 96) (.t 93))])) (.seq (g_ 9 [p_ 0 97 (m_ 0),p_ 1 98 (n_ 97),p_ 2 99 (f_ 0 98),c_ 3 100 82 [.t 99],p_ 4 101 (m_ 100),aT 5 102 101 true (.ld true 9 (.t 3)),fX 6 103 101 true 40 [.t 102],p_ 7 104 (.pick (.t 101) (.t 103) (.c (.bool false))),p_ 8 2 (m_ 104)]) .ret)))) [(0,[.can 1 [2]]),(1,[.up 2,.can 1 [2]])])
def Gf:XF:=.mk 105 (.one 2) (.aft (.seq (g_ 1 [p_ 0 2 (.mv (.c (.bool false)))]) (.seq (g_ 8 [p_ 0 8 (m_ 0),p_ 1 9 (n_ 8),p_ 2 10 (f_ 0 9),c_ 3 11 78 [.t 10],c_ 4 12 77 [.t 11],p_ 5 13 (.bld [.int 0 (.ofNat 0),.int 0 (.ofNat 0),.int 0 (.ofNat 0),.int 0 (.ofNat 0),.int 0 (.ofNat 0),.int 0 (.ofNat 0),.int 3 (.ofNat 0),.int 1 (.ofNat 0),.nilS] [(0,1)] [.t 12]),e_ 6 3 (.al 54 [.int 0 (.ofNat 0),.int 0 (.ofNat 0),.int 0 (.ofNat 0),.int 0 (.ofNat 0),.int 0 (.ofNat 0),.int 0 (.ofNat 0),.int 3 (.ofNat 0),.int 1 (.ofNat 0),.nilS]),bl 7 (.st 9 (.t 3) (.t 13))]) (.seq (.seq (g_ 3 [p_ 0 14 (f_ 0 3),r_ 1 15 (l_ 14),p_ 2 16 (.bin 3 4 (.t 15) (.c (.int 0 (.negSucc 0))))]) (.cond (.t 16) (.seq (g_ 1 [p_ 0 2 (.mv (.c (.bool false)))]) .ret) .skip)) (.seq (.seq (g_ 3 [c_ 0 17 63 [.t 3],p_ 1 18 (k_ 17),p_ 2 19 (.mv (i_ 0))]) (.block 2 (.loop [0,2,3,5,6,7,17,18,19,20,21,22,23,24,25,26,27,28,29,30,31,32,33,34,35,36,37,38,39,40,41,42,43,44,45,46,47,48,49,50,51,52,53,54,55,56,57,58,59,60,61,62,63,64,65,66,67,68,69,70,71,72,73,74,75,76,77,78,79,80,81,82,83,84,85,86,87,88,89,90,91,92,93,94,95,96,97,98,99,100,101,102,103,104] (.seq (g_ 1 [p_ 0 20 (.bin 3 0 (.t 19) (.t 18))]) (.seq (.cond (.t 20) .skip (.exit 2)) (.seq (.block 3 (.seq (g_ 3 [p_ 0 21 (.ixs 1 (.t 17) (.t 19)),r_ 1 22 (l_ 21),p_ 2 5 (m_ 22)]) (g_ 7 [p_ 0 23 (m_ 5),p_ 1 24 (m_ 0),p_ 2 25 (n_ 24),p_ 3 26 (f_ 0 25),c_ 4 27 79 [.t 26],p_ 5 28 (n_ 23),bl 6 (.st 1 (.t 28) (.t 27))]))) (g_ 2 [p_ 0 29 (.bin 0 0 (.t 19) (i_ 1)),p_ 1 19 (m_ 29)]))))))) (.seq (.seq (g_ 3 [p_ 0 30 (f_ 0 3),r_ 1 31 (l_ 30),p_ 2 32 (.bin 3 4 (.t 31) (i_ 5))]) (.cond (.t 32) (g_ 7 [p_ 0 33 (m_ 0),p_ 1 34 (n_ 33),p_ 2 35 (f_ 0 34),c_ 3 36 80 [.t 35,.c (.int 4 (.ofNat 4294967295))],p_ 4 37 (.cnw 3 (.t 36)),p_ 5 38 (f_ 6 3),bl 6 (.st 1 (.t 38) (.t 37))]) .skip)) (.pre [.can 1 [0,3],.upc 1 0 0,.upc 1 0 1,.upc 1 0 2,.upc 1 0 3,.upc 1 0 4,.upc 1 0 5,.upc 1 0 6] (.spc 1 EM))))))) [(0,[.up 2]),(1,[.up 2])])
theorem Js:bE Tryz.prog 48 Gf=true:=by kernel_rfl
structure iW where
 r:ah
 n:MU
 ps:List aB
structure uu where
 hl:Value
 l:List (List UInt8)
 odd:Prop
 ps:List aB
structure zI where
 hl:Value
 l:List (List UInt8)
 odd:Prop
def LV (p:iW) (r:uu):Prop:=Ag p.r.l r.l p.r.odd r.odd p.n.kind p.ps r.ps
def HN (p:iW) (r:zI):Prop:=∃x∈p.r.l,∀p,gS p→¬x=bd p
noncomputable def nc (p:iW):IL:=((.cons 3 (.ptr 1 0) (.cons 0 (.ptr 0 0) .nil)),(.node (.node (.node .leaf (some (.prow 54 9 ax p.r.os aI)) .leaf) (some (.blk false 54 9 [[.sy (.int 0 p.n.kind),.sy (.int 0 p.n.x),.sy (.int 0 p.n.y),.sy (.int 0 p.n.i),.sy (.int 0 p.n.at_),.sy (.int 0 p.n.mode),.sy (.int 3 p.n.mask),.int 1 (.ofNat 0),.sy (.prow 4 p.ps.length)]])) .leaf) (some (.blk false 60 14 [[.sy (.imm p.r.hl 1 (List UInt8) p.r.l aP),.sy (.bool p.r.odd),.sy (.prow 2 p.r.gs.length),.sy (.int 0 p.r.clients),.sy (.int 0 p.r.window),.sy (.int 0 p.r.deadline),.sy (.int 0 p.r.pace),.sy (.int 0 p.r.again),.sy (.int 0 p.r.bag),.sy (.int 4 p.r.first),.sy (.prow 3 p.r.os.length),.sy (.int 0 p.r.set),.sy (.bool p.r.op),.sy (.int 0 p.r.line)]])) (.node (.node .leaf (some (.prow 124 5 aB p.ps encP)) .leaf) (some (.prow 82 3 aw p.r.gs aD)) .leaf)),5)
noncomputable def AT (p:iW) (K:KC):Bool:=ac (am fun r:uu=>iP (LV p r) (K 4 (.cons 3 (.ptr 1 0) (.cons 0 (.ptr 0 0) .nil)) (.node (.node (.node .leaf (some (.prow 54 9 ax p.r.os aI)) .leaf) (some (.blk false 54 9 [[.sy (.int 0 p.n.kind),.sy (.int 0 p.n.x),.sy (.int 0 p.n.y),.sy (.int 0 p.n.i),.sy (.int 0 p.n.at_),.sy (.int 0 p.n.mode),.sy (.int 3 p.n.mask),.int 1 (.ofNat 0),.sy (.prow 4 r.ps.length)]])) .leaf) (some (.blk false 60 14 [[.sy (.imm r.hl 1 (List UInt8) r.l aP),.sy (.bool r.odd),.sy (.prow 2 p.r.gs.length),.sy (.int 0 p.r.clients),.sy (.int 0 p.r.window),.sy (.int 0 p.r.deadline),.sy (.int 0 p.r.pace),.sy (.int 0 p.r.again),.sy (.int 0 p.r.bag),.sy (.int 4 p.r.first),.sy (.prow 3 p.r.os.length),.sy (.int 0 p.r.set),.sy (.bool p.r.op),.sy (.int 0 p.r.line)]])) (.node (.node .leaf (some (.prow 124 5 aB r.ps encP)) .leaf) (some (.prow 82 3 aw p.r.gs aD)) .leaf)) 5) true) (am fun r:zI=>iP (HN p r) (K 1 (.cons 2 (.bool false) .nil) (aU ({p.r with hl:=r.hl,l:=r.l,odd:=r.odd}:ah)) 3) true)
def lC (p:iW):Prop:=cb p.r.l∧p.ps.length+p.r.l.length≤1000000
noncomputable def yP (p:iW) (K:KC):Bool:=ac (aC (lC p)) (AT p K)
structure eu where
 r:ah
 n:MU
structure KF where
 t:ah
 q:Prop
def bY (p:eu) (r:KF):Prop:=Ut p.r r.t p.n r.q
noncomputable def eT (p:eu):IL:=((.cons 3 (.ptr 1 0) (.cons 0 (.ptr 0 0) .nil)),(.node (.node (.node .leaf (some (.prow 54 9 ax p.r.os aI)) .leaf) (some (.blk false 54 9 [[.sy (.int 0 p.n.kind),.sy (.int 0 p.n.x),.sy (.int 0 p.n.y),.sy (.int 0 p.n.i),.sy (.int 0 p.n.at_),.sy (.int 0 p.n.mode),.sy (.int 3 p.n.mask),.int 1 (.ofNat 0),.nilS]])) .leaf) (some (.blk false 60 14 [[.sy (.imm p.r.hl 1 (List UInt8) p.r.l aP),.sy (.bool p.r.odd),.sy (.prow 2 p.r.gs.length),.sy (.int 0 p.r.clients),.sy (.int 0 p.r.window),.sy (.int 0 p.r.deadline),.sy (.int 0 p.r.pace),.sy (.int 0 p.r.again),.sy (.int 0 p.r.bag),.sy (.int 4 p.r.first),.sy (.prow 3 p.r.os.length),.sy (.int 0 p.r.set),.sy (.bool p.r.op),.sy (.int 0 p.r.line)]])) (.node .leaf (some (.prow 82 3 aw p.r.gs aD)) .leaf)),4)
noncomputable def AQ (p:eu) (K:KC):Bool:=am fun r:KF=>iP (bY p r) (K 1 (.cons 2 (.sy (.bool r.q)) .nil) (aU r.t) 3) true
def ch (p:eu):Prop:=cb p.r.l∧p.r.os.length≤99999∧0≤p.n.mask∧p.n.mask≤4294967295
theorem lJ {p:eu} {K:KC} (hK:AQ p K=true) (r:KF) (h:bY p r):K 1 (.cons 2 (.sy (.bool r.q)) .nil) (aU r.t) 3=true:=au h (aG hK r)
noncomputable def Vn (p:eu) (K:KC):Bool:=ac (aC (ch p)) (AQ p K)
noncomputable def mc:fE:=fun j S M nx K=>(Bool.rec ((Bool.rec (false) (aF fun p:eu=>ac (aC ((S,M,nx)=eT p)) (Vn p K)) (Nat.beq j 1))) (aF fun p:iW=>ac (aC ((S,M,nx)=nc p)) (yP p K)) (Nat.beq j 0))
def kM (p:iW):Nat:=p.r.l.length
noncomputable def MN (s:IL) (n:Nat) (K:KC):Bool:=aF fun q=>mP (s=nc q∧kM q<n) (yP q K)
theorem WN {p q:iW} {K:KC} {s:IL} (hm:kM q<kM p:=by dsimp only[kM]<;>(exact abX (by assumption) (by assumption))) (hp:lC q:=by dsimp only[lC]<;>(exact⟨by assumption,aaP (by assumption) (by assumption) g2⟩)) (hK:AT q K=true:=by exact(aE (qw hK0 fun r hz=>VW (by assumption) (UC (by assumption)) (by assumption) ((by assumption:rQ _ _ _).1 (Classical.not_not.1 (by assumption))) hz) (qw hK1 fun r hz=>aaO (by assumption) hz))) (e:s=nc q:=by rfl):MN s (kM p) K=true:=aK q (ba ⟨e,hm⟩ (ba hp hK))
theorem Vd (p:iW) (K:KC) (hpre:lC p) (hK:AT p K=true):(cO (di ig) mc 600 EN (nc p).1 (nc p).2.1 (nc p).2.2 (fun e S M nx=>Nat.casesOn e (aF fun q:iW=>ac (aC ((S,M,nx)=nc q∧kM q<kM p)) (yP q K)) (fun e2=>K (Nat.succ e2) S M nx)))=true:=by
 refine Eq.trans (b:=(let z0:Bool:=(K 4 (.cons 3 (.ptr 1 0) (.cons 0 (.ptr 0 0) .nil)) (.node (.node (.node .leaf (some (.prow 54 9 ax p.r.os aI)) .leaf) (some (.blk false 54 9 [[.sy (.int 0 p.n.kind),.sy (.int 0 p.n.x),.sy (.int 0 p.n.y),.sy (.int 0 p.n.i),.sy (.int 0 p.n.at_),.sy (.int 0 p.n.mode),.sy (.int 3 p.n.mask),.int 1 (.ofNat 0),.sy (.prow 4 p.ps.length)]])) .leaf) (some (.blk false 60 14 [[.sy (.imm p.r.hl 1 (List UInt8) p.r.l aP),.sy (.bool p.r.odd),.sy (.prow 2 p.r.gs.length),.sy (.int 0 p.r.clients),.sy (.int 0 p.r.window),.sy (.int 0 p.r.deadline),.sy (.int 0 p.r.pace),.sy (.int 0 p.r.again),.sy (.int 0 p.r.bag),.sy (.int 4 p.r.first),.sy (.prow 3 p.r.os.length),.sy (.int 0 p.r.set),.sy (.bool p.r.op),.sy (.int 0 p.r.line)]])) (.node (.node .leaf (some (.prow 124 5 aB p.ps encP)) .leaf) (some (.prow 82 3 aw p.r.gs aD)) .leaf)) 5);iP (¬p.r.odd) (iP (p.n.kind=(0:Int)) (iP ((0:Int)<(p.r.l.length:Int)) (aM (([.ptr 0 0],(aU p.r),3)) iV dh dE fun p1 r1=>aM (([.sy (.str r1.s)],.leaf,0)) ru mK oG fun p2 r2=>iP (¬r2.q) (K 1 (.cons 2 (.bool false) .nil) (aU ({p1.r with hl:=r1.hl,l:=r1.l,odd:=r1.odd}:ah)) 3) (mP (p.ps.length=p.ps.length) (aF fun m1:List aB=>mP (iL (m1.map encP) [[.sint 1 r2.p.g,.sint 1 r2.p.k,.sstr r2.p.key,.sstr r2.p.val,.sint 0 r2.p.n]]) (mP (eN 48 (p.ps.length+m1.length)) (MN ((.cons 3 (.ptr 1 0) (.cons 0 (.ptr 0 0) .nil)),(.node (.node (.node .leaf (some (.prow 54 9 ax p1.r.os aI)) .leaf) (some (.blk false 54 9 [[.sy (.int 0 p.n.kind),.sy (.int 0 p.n.x),.sy (.int 0 p.n.y),.sy (.int 0 p.n.i),.sy (.int 0 p.n.at_),.sy (.int 0 p.n.mode),.sy (.int 3 p.n.mask),.int 1 (.ofNat 0),.sy (.prow 4 ((p.ps++m1).length))]])) .leaf) (some (.blk false 60 14 [[.sy (.imm r1.hl 1 (List UInt8) r1.l aP),.sy (.bool r1.odd),.sy (.prow 2 p1.r.gs.length),.sy (.int 0 p1.r.clients),.sy (.int 0 p1.r.window),.sy (.int 0 p1.r.deadline),.sy (.int 0 p1.r.pace),.sy (.int 0 p1.r.again),.sy (.int 0 p1.r.bag),.sy (.int 4 p1.r.first),.sy (.prow 3 p1.r.os.length),.sy (.int 0 p1.r.set),.sy (.bool p1.r.op),.sy (.int 0 p1.r.line)]])) (.node (.node .leaf (some (.prow 124 5 aB (p.ps++m1) encP)) .leaf) (some (.prow 82 3 aw p1.r.gs aD)) .leaf)),5) (kM p) K))))) z0) z0) z0)) (by kernel_rfl) ?_
 obtain⟨hK0,hKr0⟩:=ai hK
 have hK1:=hKr0
 dsimp only[lC]at hpre
 obtain⟨g1,g2⟩:=hpre
 refine iI (fun hc1=> ?_) (fun hc1=> ?_)
 refine iI (fun hc2=> ?_) (fun hc2=> ?_)
 refine iI (fun hc3=> ?_) (fun hc3=> ?_)
 refine ay (⟨p.r⟩:gB) rfl (by(try dsimp only[dh]);assumption) fun r1 hi4=> ?_
 dsimp only[dE]at hi4
 obtain⟨hi4,hs4⟩:=hi4
 refine ay (⟨r1.s⟩:lP) rfl (by(try dsimp only[mK]);first|omega|exact Sj (by assumption) (by assumption)) fun r2 hi5=> ?_
 dsimp only[oG]at hi5
 refine iI (fun hc6=> ?_) (fun hc6=> ?_)
 exact au (show∃x∈p.r.l,∀p,gS p→¬x=bd p from(by exact aaQ (by assumption) (by omega) (by assumption) (by assumption))) (aG hK1 (⟨r1.hl,r1.l,r1.odd⟩:zI))
 refine aL ?_
 refine aK [r2.p] ?_
 refine xS (mI (by(try dsimp only);(first|omega|(simp[eN]<;>omega))) ?_)
 exact WN (q:=⟨({p.r with hl:=r1.hl,l:=r1.l,odd:=r1.odd}:ah),p.n,p.ps++[r2.p]⟩)
 exact au (show Ag p.r.l p.r.l p.r.odd p.r.odd p.n.kind p.ps p.ps from(by exact Et (by first|exact .inl (Classical.not_not.1 (by assumption))|exact .inl (by assumption)|exact .inr (.inl (by assumption))|exact .inr (.inr (.inr (by assumption)))) (by omega) (by assumption))) (aG hK0 (⟨p.r.hl,p.r.l,p.r.odd,p.ps⟩:uu))
 exact au (show Ag p.r.l p.r.l p.r.odd p.r.odd p.n.kind p.ps p.ps from(by exact Et (by first|exact .inl (Classical.not_not.1 (by assumption))|exact .inl (by assumption)|exact .inr (.inl (by assumption))|exact .inr (.inr (.inr (by assumption)))) (by omega) (by assumption))) (aG hK0 (⟨p.r.hl,p.r.l,p.r.odd,p.ps⟩:uu))
 exact au (show Ag p.r.l p.r.l p.r.odd p.r.odd p.n.kind p.ps p.ps from(by exact Et (by first|exact .inl (Classical.not_not.1 (by assumption))|exact .inl (by assumption)|exact .inr (.inl (by assumption))|exact .inr (.inr (.inr (by assumption)))) (by omega) (by assumption))) (aG hK0 (⟨p.r.hl,p.r.l,p.r.odd,p.ps⟩:uu))
theorem VY:dI Tryz.prog 105 1 mc true 0 EN:=by
 exact eM (lf:=600) bm (bj ie) (by rfl) nc kM yP (fun b j x h=>by cases h) (fun S M nx K h=>by obtain⟨p,h⟩:=bL h;exact⟨p,(aa h).1,(aa h).2⟩) (fun p K h=>Vd p K (aa h).1 (aa h).2)
theorem Vc (p:eu) (K:KC) (hpre:ch p) (hK:AQ p K=true):(cO (di ig) mc 600 EM (eT p).1 (eT p).2.1 (eT p).2.2 K)=true:=by
 refine Eq.trans (b:=(mP ((.nilS:AV)=(.nilS:AV)) (aF fun p1:iW=>mP (((.cons 3 (.ptr 1 0) (.cons 0 (.ptr 0 0) .nil)),(.node (.node (.node .leaf (some (.prow 54 9 ax p.r.os aI)) .leaf) (some (.blk false 54 9 [[.sy (.int 0 p.n.kind),.sy (.int 0 p.n.x),.sy (.int 0 p.n.y),.sy (.int 0 p.n.i),.sy (.int 0 p.n.at_),.sy (.int 0 p.n.mode),.sy (.int 3 p.n.mask),.int 1 (.ofNat 0),.sy (.prow 4 0)]])) .leaf) (some (.blk false 60 14 [[.sy (.imm p.r.hl 1 (List UInt8) p.r.l aP),.sy (.bool p.r.odd),.sy (.prow 2 p.r.gs.length),.sy (.int 0 p.r.clients),.sy (.int 0 p.r.window),.sy (.int 0 p.r.deadline),.sy (.int 0 p.r.pace),.sy (.int 0 p.r.again),.sy (.int 0 p.r.bag),.sy (.int 4 p.r.first),.sy (.prow 3 p.r.os.length),.sy (.int 0 p.r.set),.sy (.bool p.r.op),.sy (.int 0 p.r.line)]])) (.node (.node .leaf (some (.prow 124 5 aB ([]:List aB) encP)) .leaf) (some (.prow 82 3 aw p.r.gs aD)) .leaf)),5)=nc p1) (mP (lC p1) (ac (am fun r2:uu=>iP (LV p1 r2) (iP ((0:Int)<(r2.ps.length:Int)) (mP (0≤(0:Int)∧(0:Int)<(r2.ps.length:Int)) (mP (0<r2.ps.length) (am fun x1:aB=>iP (r2.ps[0]?=some x1) (mP (r2.ps.length=r2.ps.length) (am fun h1:Value=>mP ((.sy (.prow 4 r2.ps.length):AV)=(.sy (.prow 4 r2.ps.length):AV)) (mP (((.prow 3 p1.r.os.length):SY)=(.prow 3 p1.r.os.length)) (mP (p1.r.os.length=p1.r.os.length) (aF fun m1:List ax=>mP (iL (m1.map aI) [[.sint 0 p1.n.kind,.sint 0 p1.n.x,.sint 0 p1.n.y,.sint 0 p1.n.i,.sint 0 p1.n.at_,.sint 0 p1.n.mode,.sint 3 p1.n.mask,.sint 1 x1.g,.imm h1 5 aB r2.ps encP]]) (mP (eN 80 (p1.r.os.length+m1.length)) (iP (¬r2.odd) (iP ((r2.l.length:Int)=(0:Int)) (aM (([.agg [.sy (.int 0 p1.n.kind),.sy (.int 0 p1.n.x),.sy (.int 0 p1.n.y),.sy (.int 0 p1.n.i),.sy (.int 0 p1.n.at_),.sy (.int 0 p1.n.mode),.sy (.int 3 p1.n.mask),.sy (.int 1 x1.g),.sy (.imm h1 5 aB r2.ps encP)]],.leaf,0)) nQ ia jm fun p2 r3=>K 1 (.cons 2 (.sy (.bool r3.q)) .nil) (aU ({p1.r with hl:=r2.hl,l:=r2.l,odd:=r2.odd,os:=p1.r.os++m1}:ah)) 3) (K 1 (.cons 2 (.sy (.bool (false=true))) .nil) (aU ({p1.r with hl:=r2.hl,l:=r2.l,odd:=r2.odd,os:=p1.r.os++m1}:ah)) 3)) (K 1 (.cons 2 (.sy (.bool (false=true))) .nil) (aU ({p1.r with hl:=r2.hl,l:=r2.l,odd:=r2.odd,os:=p1.r.os++m1}:ah)) 3)))))))) true))) (mP (r2.ps.length=r2.ps.length) (am fun h2:Value=>mP ((.sy (.prow 4 r2.ps.length):AV)=(.sy (.prow 4 r2.ps.length):AV)) (mP (((.prow 3 p1.r.os.length):SY)=(.prow 3 p1.r.os.length)) (mP (p1.r.os.length=p1.r.os.length) (aF fun m2:List ax=>mP (iL (m2.map aI) [[.sint 0 p1.n.kind,.sint 0 p1.n.x,.sint 0 p1.n.y,.sint 0 p1.n.i,.sint 0 p1.n.at_,.sint 0 p1.n.mode,.sint 3 p1.n.mask,.sint 1 0,.imm h2 5 aB r2.ps encP]]) (mP (eN 80 (p1.r.os.length+m2.length)) (iP (¬r2.odd) (iP ((r2.l.length:Int)=(0:Int)) (aM (([.agg [.sy (.int 0 p1.n.kind),.sy (.int 0 p1.n.x),.sy (.int 0 p1.n.y),.sy (.int 0 p1.n.i),.sy (.int 0 p1.n.at_),.sy (.int 0 p1.n.mode),.sy (.int 3 p1.n.mask),.sy (.int 1 0),.sy (.imm h2 5 aB r2.ps encP)]],.leaf,0)) nQ ia jm fun p4 r5=>K 1 (.cons 2 (.sy (.bool r5.q)) .nil) (aU ({p1.r with hl:=r2.hl,l:=r2.l,odd:=r2.odd,os:=p1.r.os++m2}:ah)) 3) (K 1 (.cons 2 (.sy (.bool (false=true))) .nil) (aU ({p1.r with hl:=r2.hl,l:=r2.l,odd:=r2.odd,os:=p1.r.os++m2}:ah)) 3)) (K 1 (.cons 2 (.sy (.bool (false=true))) .nil) (aU ({p1.r with hl:=r2.hl,l:=r2.l,odd:=r2.odd,os:=p1.r.os++m2}:ah)) 3))))))))) true) (am fun r1:zI=>iP (HN p1 r1) (K 1 (.cons 2 (.sy (.bool (false=true))) .nil) (aU ({p1.r with hl:=r1.hl,l:=r1.l,odd:=r1.odd}:ah)) 3) true)))))) (by kernel_rfl) ?_
 dsimp only[ch]at hpre
 obtain⟨g1,g3,g4,g5⟩:=hpre
 refine aL ?_
 refine dx (⟨p.r,p.n,([]:List aB)⟩:iW) rfl (by(try dsimp only[lC]);exact⟨by assumption,by have:=(by assumption:cb p.r.l).1;simp;omega⟩) ?_
 refine aE ?_ ?_
 refine az (fun r2=> ?_)
 refine iI (p:=Ag p.r.l r2.l p.r.odd r2.odd p.n.kind ([]:List aB) r2.ps) (fun hi1=> ?_) (fun _=>rfl)
 refine iI (fun hc2=> ?_) (fun hc2=> ?_)
 refine er (jE ?_)
 refine az (fun x1=> ?_)
 refine iI (fun hi3=> ?_) (fun _=>rfl)
 refine aL ?_
 refine az (fun h1=> ?_)
 refine aL (aL (aL ?_))
 refine aK [(⟨p.n.kind,p.n.x,p.n.y,p.n.i,p.n.at_,p.n.mode,p.n.mask,x1.g,h1,r2.ps⟩:ax)] ?_
 refine xS ?_
 refine mI (by(try dsimp only);(first|omega|(simp[eN]<;>omega))) ?_
 refine iI (fun hc4=> ?_) (fun hc4=> ?_)
 refine iI (fun hc5=> ?_) (fun hc5=> ?_)
 refine ay (⟨⟨p.n.kind,p.n.x,p.n.y,p.n.i,p.n.at_,p.n.mode,p.n.mask,x1.g,h1,r2.ps⟩⟩:lc) rfl (by(try dsimp only[ia]);first|omega|exact Om (by assumption)) fun r3 hi6=> ?_
 dsimp only[jm]at hi6
 exact lJ hK ⟨({p.r with hl:=r2.hl,l:=r2.l,odd:=r2.odd,os:=p.r.os++[(⟨p.n.kind,p.n.x,p.n.y,p.n.i,p.n.at_,p.n.mode,p.n.mask,x1.g,h1,r2.ps⟩:ax)]}:ah),r3.q⟩ (by dsimp only[bY]<;>(first|exact uO ⟨⟨rfl,rfl,rfl,rfl⟩,⟨rfl,rfl,rfl,rfl,rfl,rfl,rfl⟩,rfl⟩ ⟨rfl,rfl,rfl,rfl,rfl,rfl,rfl⟩ ⟨g4,g5⟩ (by assumption) (by first|exact .inr ⟨_,by assumption,rfl⟩|exact .inl ⟨Bf (by assumption),rfl⟩) (by first|exact Aj (by assumption) (by assumption) (by assumption)|exact Ai (by assumption)|exact Ah (by assumption))|(obtain⟨x,hx,hz⟩:=(by assumption:∃x∈p.r.l,∀p,gS p→¬x=bd p);exact uP ⟨rfl,rfl,rfl,rfl⟩ hx hz)))
 exact lJ hK ⟨({p.r with hl:=r2.hl,l:=r2.l,odd:=r2.odd,os:=p.r.os++[(⟨p.n.kind,p.n.x,p.n.y,p.n.i,p.n.at_,p.n.mode,p.n.mask,x1.g,h1,r2.ps⟩:ax)]}:ah),false=true⟩ (by dsimp only[bY]<;>(first|exact uO ⟨⟨rfl,rfl,rfl,rfl⟩,⟨rfl,rfl,rfl,rfl,rfl,rfl,rfl⟩,rfl⟩ ⟨rfl,rfl,rfl,rfl,rfl,rfl,rfl⟩ ⟨g4,g5⟩ (by assumption) (by first|exact .inr ⟨_,by assumption,rfl⟩|exact .inl ⟨Bf (by assumption),rfl⟩) (by first|exact Aj (by assumption) (by assumption) (by assumption)|exact Ai (by assumption)|exact Ah (by assumption))|(obtain⟨x,hx,hz⟩:=(by assumption:∃x∈p.r.l,∀p,gS p→¬x=bd p);exact uP ⟨rfl,rfl,rfl,rfl⟩ hx hz)))
 exact lJ hK ⟨({p.r with hl:=r2.hl,l:=r2.l,odd:=r2.odd,os:=p.r.os++[(⟨p.n.kind,p.n.x,p.n.y,p.n.i,p.n.at_,p.n.mode,p.n.mask,x1.g,h1,r2.ps⟩:ax)]}:ah),false=true⟩ (by dsimp only[bY]<;>(first|exact uO ⟨⟨rfl,rfl,rfl,rfl⟩,⟨rfl,rfl,rfl,rfl,rfl,rfl,rfl⟩,rfl⟩ ⟨rfl,rfl,rfl,rfl,rfl,rfl,rfl⟩ ⟨g4,g5⟩ (by assumption) (by first|exact .inr ⟨_,by assumption,rfl⟩|exact .inl ⟨Bf (by assumption),rfl⟩) (by first|exact Aj (by assumption) (by assumption) (by assumption)|exact Ai (by assumption)|exact Ah (by assumption))|(obtain⟨x,hx,hz⟩:=(by assumption:∃x∈p.r.l,∀p,gS p→¬x=bd p);exact uP ⟨rfl,rfl,rfl,rfl⟩ hx hz)))
 refine aL ?_
 refine az (fun h2=> ?_)
 refine aL (aL (aL ?_))
 refine aK [(⟨p.n.kind,p.n.x,p.n.y,p.n.i,p.n.at_,p.n.mode,p.n.mask,0,h2,r2.ps⟩:ax)] ?_
 refine xS ?_
 refine mI (by(try dsimp only);(first|omega|(simp[eN]<;>omega))) ?_
 refine iI (fun hc7=> ?_) (fun hc7=> ?_)
 refine iI (fun hc8=> ?_) (fun hc8=> ?_)
 refine ay (⟨⟨p.n.kind,p.n.x,p.n.y,p.n.i,p.n.at_,p.n.mode,p.n.mask,(0:Int),h2,r2.ps⟩⟩:lc) rfl (by(try dsimp only[ia]);first|omega|exact Om (by assumption)) fun r5 hi9=> ?_
 dsimp only[jm]at hi9
 exact lJ hK ⟨({p.r with hl:=r2.hl,l:=r2.l,odd:=r2.odd,os:=p.r.os++[(⟨p.n.kind,p.n.x,p.n.y,p.n.i,p.n.at_,p.n.mode,p.n.mask,0,h2,r2.ps⟩:ax)]}:ah),r5.q⟩ (by dsimp only[bY]<;>(first|exact uO ⟨⟨rfl,rfl,rfl,rfl⟩,⟨rfl,rfl,rfl,rfl,rfl,rfl,rfl⟩,rfl⟩ ⟨rfl,rfl,rfl,rfl,rfl,rfl,rfl⟩ ⟨g4,g5⟩ (by assumption) (by first|exact .inr ⟨_,by assumption,rfl⟩|exact .inl ⟨Bf (by assumption),rfl⟩) (by first|exact Aj (by assumption) (by assumption) (by assumption)|exact Ai (by assumption)|exact Ah (by assumption))|(obtain⟨x,hx,hz⟩:=(by assumption:∃x∈p.r.l,∀p,gS p→¬x=bd p);exact uP ⟨rfl,rfl,rfl,rfl⟩ hx hz)))
 exact lJ hK ⟨({p.r with hl:=r2.hl,l:=r2.l,odd:=r2.odd,os:=p.r.os++[(⟨p.n.kind,p.n.x,p.n.y,p.n.i,p.n.at_,p.n.mode,p.n.mask,0,h2,r2.ps⟩:ax)]}:ah),false=true⟩ (by dsimp only[bY]<;>(first|exact uO ⟨⟨rfl,rfl,rfl,rfl⟩,⟨rfl,rfl,rfl,rfl,rfl,rfl,rfl⟩,rfl⟩ ⟨rfl,rfl,rfl,rfl,rfl,rfl,rfl⟩ ⟨g4,g5⟩ (by assumption) (by first|exact .inr ⟨_,by assumption,rfl⟩|exact .inl ⟨Bf (by assumption),rfl⟩) (by first|exact Aj (by assumption) (by assumption) (by assumption)|exact Ai (by assumption)|exact Ah (by assumption))|(obtain⟨x,hx,hz⟩:=(by assumption:∃x∈p.r.l,∀p,gS p→¬x=bd p);exact uP ⟨rfl,rfl,rfl,rfl⟩ hx hz)))
 exact lJ hK ⟨({p.r with hl:=r2.hl,l:=r2.l,odd:=r2.odd,os:=p.r.os++[(⟨p.n.kind,p.n.x,p.n.y,p.n.i,p.n.at_,p.n.mode,p.n.mask,0,h2,r2.ps⟩:ax)]}:ah),false=true⟩ (by dsimp only[bY]<;>(first|exact uO ⟨⟨rfl,rfl,rfl,rfl⟩,⟨rfl,rfl,rfl,rfl,rfl,rfl,rfl⟩,rfl⟩ ⟨rfl,rfl,rfl,rfl,rfl,rfl,rfl⟩ ⟨g4,g5⟩ (by assumption) (by first|exact .inr ⟨_,by assumption,rfl⟩|exact .inl ⟨Bf (by assumption),rfl⟩) (by first|exact Aj (by assumption) (by assumption) (by assumption)|exact Ai (by assumption)|exact Ah (by assumption))|(obtain⟨x,hx,hz⟩:=(by assumption:∃x∈p.r.l,∀p,gS p→¬x=bd p);exact uP ⟨rfl,rfl,rfl,rfl⟩ hx hz)))
 refine az (fun r1=> ?_)
 refine iI (p:=∃x∈p.r.l,∀p,gS p→¬x=bd p) (fun hi10=> ?_) (fun _=>rfl)
 exact lJ hK ⟨({p.r with hl:=r1.hl,l:=r1.l,odd:=r1.odd}:ah),false=true⟩ (by dsimp only[bY]<;>(first|exact uO ⟨⟨rfl,rfl,rfl,rfl⟩,⟨rfl,rfl,rfl,rfl,rfl,rfl,rfl⟩,rfl⟩ ⟨rfl,rfl,rfl,rfl,rfl,rfl,rfl⟩ ⟨g4,g5⟩ (by assumption) (by first|exact .inr ⟨_,by assumption,rfl⟩|exact .inl ⟨Bf (by assumption),rfl⟩) (by first|exact Aj (by assumption) (by assumption) (by assumption)|exact Ai (by assumption)|exact Ah (by assumption))|(obtain⟨x,hx,hz⟩:=(by assumption:∃x∈p.r.l,∀p,gS p→¬x=bd p);exact uP ⟨rfl,rfl,rfl,rfl⟩ hx hz)))
theorem VX:dI Tryz.prog 105 1 mc false 1 EM:=by
 refine abJ (lf:=600) bm (bj ie) (by rfl) (fun b j x h=>(cy VY (fun h=>(by cases h)) h)) (fun S M nx K h=> ?_)
 obtain⟨p,h⟩:=bL h
 obtain⟨e,h9⟩:=aa h
 clear h
 have e1:S=(eT p).1:=congrArg Prod.fst e
 have e2:M=(eT p).2.1:=congrArg (fun x=>x.2.1) e
 have e3:nx=(eT p).2.2:=congrArg (fun x=>x.2.2) e
 subst e1;subst e2;subst e3
 exact Vc p K (aa h9).1 (aa h9).2
structure lO where
 r:ah
structure BZ where
 t:ah
 q:Prop
def oF (p:lO) (r:BZ):Prop:=(r.t.line=p.r.line∧r.t.set=p.r.set∧r.t.op=p.r.op∧r.t.gs=p.r.gs)∧((r.q→(r.t.os.length=p.r.os.length+1∧((∀x∈p.r.os,x.ps.length≤10)→∀x∈r.t.os,x.ps.length≤10))∧gx (dB p.r) p.r.l (dB r.t))∧(¬r.q→∀b,¬gx (dB p.r) p.r.l b))
noncomputable def rr (p:lO):IE:=([.ptr 0 0],(aU p.r),3)
noncomputable def vb (p:lO) (K:KE):Bool:=am fun r:BZ=>iP (oF p r) (K (.sy (.bool r.q)) (aU r.t) 3) true
def mJ (p:lO):Prop:=cb p.r.l∧¬p.r.odd∧p.r.os.length≤99999
theorem dR {p:lO} {K:KE} (hK:vb p K=true) (r:BZ) (h:oF p r:=by dsimp only[oF]<;>(first|(have hro:=(by assumption:Ut _ _ _ _);first|exact⟨hro.1,abV (by assumption) (by assumption) (by assumption) (by assumption) q2 hro.2⟩|exact⟨hro.1,abU (by assumption) (by assumption) (by assumption) (by assumption) q2 hro.2⟩|exact⟨hro.1,abT (by assumption) (by assumption) (by assumption) q2 hro.2⟩|exact⟨hro.1,abS (by assumption) (by assumption) (by assumption) q2 hro.2⟩|exact⟨hro.1,abR (by assumption) (by assumption) (by assumption) q2 hro.2⟩|exact⟨hro.1,abQ (by assumption) (by assumption) (by assumption) (by assumption) (by assumption) q2 hro.2⟩|exact⟨hro.1,abP (by assumption) (by assumption) (by assumption) q2 hro.2⟩|exact⟨hro.1,abO (by assumption) (by assumption) (by assumption) (by assumption) q2 hro.2⟩|exact⟨hro.1,abN (by assumption) (by assumption) (by assumption) q2 hro.2⟩|exact⟨hro.1,abM (by assumption) (by assumption) (by assumption) q2 hro.2⟩|exact⟨hro.1,aaj (by assumption) (by assumption) (by assumption) q2 hro.2⟩|exact⟨hro.1,aai (by assumption) (by assumption) (by assumption) q2 hro.2⟩)|exact⟨⟨rfl,rfl,rfl,rfl⟩,fun q=>(by cases q),fun _=>VD (by assumption) (WZ (by assumption) (by assumption) (by assumption) (by assumption) (by assumption) (by assumption) (by assumption) (by assumption) (by assumption) (by assumption) (by assumption) (by assumption))⟩)):K (.sy (.bool r.q)) (aU r.t) 3=true:=au h (aG hK r)
theorem Pv (p:lO) (K:KE) (hpre:mJ p) (hK:vb p K=true):(bW 1 (di ig) mc 600 Gf (rr p).1 (rr p).2.1 (rr p).2.2 K)=true:=by
 refine Eq.trans (b:=(aM (([.ptr 0 0],(aU p.r),3)) iV dh dE fun p1 r1=>iP (ND=r1.s) (aM (([.ptr 0 0],(aU ({p1.r with hl:=r1.hl,l:=r1.l,odd:=r1.odd}:ah)),3)) bV aO aS fun p2 r2=>aM (([.ptr 0 0],(aU ({p2.r with hl:=r2.hl,l:=r2.l,odd:=r2.odd}:ah)),3)) bV aO aS fun p3 r3=>aM (((.cons 3 (.ptr 1 0) (.cons 0 (.ptr 0 0) .nil)),(.node (.node (.node .leaf (some (.prow 54 9 ax p3.r.os aI)) .leaf) (some (.blk false 54 9 [[.sy (.int 0 0),.sy (.int 0 r2.z),.sy (.int 0 0),.sy (.int 0 0),.sy (.int 0 0),.sy (.int 0 r3.z),.sy (.int 3 0),.int 1 (.ofNat 0),.nilS]])) .leaf) (some (.blk false 60 14 [[.sy (.imm r3.hl 1 (List UInt8) r3.l aP),.sy (.bool r3.odd),.sy (.prow 2 p3.r.gs.length),.sy (.int 0 p3.r.clients),.sy (.int 0 p3.r.window),.sy (.int 0 p3.r.deadline),.sy (.int 0 p3.r.pace),.sy (.int 0 p3.r.again),.sy (.int 0 p3.r.bag),.sy (.int 4 p3.r.first),.sy (.prow 3 p3.r.os.length),.sy (.int 0 p3.r.set),.sy (.bool p3.r.op),.sy (.int 0 p3.r.line)]])) (.node .leaf (some (.prow 82 3 aw p3.r.gs aD)) .leaf)),4)) eT ch bY fun p4 r4=>K (.sy (.bool r4.q)) (aU r4.t) 3) (iP (NC=r1.s) (aM (([.ptr 0 0],(aU ({p1.r with hl:=r1.hl,l:=r1.l,odd:=r1.odd}:ah)),3)) bV aO aS fun p5 r5=>aM (([.ptr 0 0],(aU ({p5.r with hl:=r5.hl,l:=r5.l,odd:=r5.odd}:ah)),3)) bV aO aS fun p6 r6=>aM (((.cons 3 (.ptr 1 0) (.cons 0 (.ptr 0 0) .nil)),(.node (.node (.node .leaf (some (.prow 54 9 ax p6.r.os aI)) .leaf) (some (.blk false 54 9 [[.sy (.int 0 1),.sy (.int 0 r5.z),.sy (.int 0 r6.z),.sy (.int 0 0),.sy (.int 0 0),.sy (.int 0 0),.sy (.int 3 0),.int 1 (.ofNat 0),.nilS]])) .leaf) (some (.blk false 60 14 [[.sy (.imm r6.hl 1 (List UInt8) r6.l aP),.sy (.bool r6.odd),.sy (.prow 2 p6.r.gs.length),.sy (.int 0 p6.r.clients),.sy (.int 0 p6.r.window),.sy (.int 0 p6.r.deadline),.sy (.int 0 p6.r.pace),.sy (.int 0 p6.r.again),.sy (.int 0 p6.r.bag),.sy (.int 4 p6.r.first),.sy (.prow 3 p6.r.os.length),.sy (.int 0 p6.r.set),.sy (.bool p6.r.op),.sy (.int 0 p6.r.line)]])) (.node .leaf (some (.prow 82 3 aw p6.r.gs aD)) .leaf)),4)) eT ch bY fun p7 r7=>K (.sy (.bool r7.q)) (aU r7.t) 3) (iP (NB=r1.s) (aM (([.ptr 0 0],(aU ({p1.r with hl:=r1.hl,l:=r1.l,odd:=r1.odd}:ah)),3)) bV aO aS fun p8 r8=>aM (((.cons 3 (.ptr 1 0) (.cons 0 (.ptr 0 0) .nil)),(.node (.node (.node .leaf (some (.prow 54 9 ax p8.r.os aI)) .leaf) (some (.blk false 54 9 [[.sy (.int 0 2),.sy (.int 0 0),.sy (.int 0 0),.sy (.int 0 r8.z),.sy (.int 0 0),.sy (.int 0 0),.sy (.int 3 0),.int 1 (.ofNat 0),.nilS]])) .leaf) (some (.blk false 60 14 [[.sy (.imm r8.hl 1 (List UInt8) r8.l aP),.sy (.bool r8.odd),.sy (.prow 2 p8.r.gs.length),.sy (.int 0 p8.r.clients),.sy (.int 0 p8.r.window),.sy (.int 0 p8.r.deadline),.sy (.int 0 p8.r.pace),.sy (.int 0 p8.r.again),.sy (.int 0 p8.r.bag),.sy (.int 4 p8.r.first),.sy (.prow 3 p8.r.os.length),.sy (.int 0 p8.r.set),.sy (.bool p8.r.op),.sy (.int 0 p8.r.line)]])) (.node .leaf (some (.prow 82 3 aw p8.r.gs aD)) .leaf)),4)) eT ch bY fun p9 r9=>K (.sy (.bool r9.q)) (aU r9.t) 3) (iP (NA=r1.s) (aM (([.ptr 0 0],(aU ({p1.r with hl:=r1.hl,l:=r1.l,odd:=r1.odd}:ah)),3)) bV aO aS fun p10 r10=>aM (((.cons 3 (.ptr 1 0) (.cons 0 (.ptr 0 0) .nil)),(.node (.node (.node .leaf (some (.prow 54 9 ax p10.r.os aI)) .leaf) (some (.blk false 54 9 [[.sy (.int 0 3),.sy (.int 0 0),.sy (.int 0 0),.sy (.int 0 r10.z),.sy (.int 0 0),.sy (.int 0 0),.sy (.int 3 0),.int 1 (.ofNat 0),.nilS]])) .leaf) (some (.blk false 60 14 [[.sy (.imm r10.hl 1 (List UInt8) r10.l aP),.sy (.bool r10.odd),.sy (.prow 2 p10.r.gs.length),.sy (.int 0 p10.r.clients),.sy (.int 0 p10.r.window),.sy (.int 0 p10.r.deadline),.sy (.int 0 p10.r.pace),.sy (.int 0 p10.r.again),.sy (.int 0 p10.r.bag),.sy (.int 4 p10.r.first),.sy (.prow 3 p10.r.os.length),.sy (.int 0 p10.r.set),.sy (.bool p10.r.op),.sy (.int 0 p10.r.line)]])) (.node .leaf (some (.prow 82 3 aw p10.r.gs aD)) .leaf)),4)) eT ch bY fun p11 r11=>K (.sy (.bool r11.q)) (aU r11.t) 3) (iP (Nz=r1.s) (aM (([.ptr 0 0],(aU ({p1.r with hl:=r1.hl,l:=r1.l,odd:=r1.odd}:ah)),3)) bV aO aS fun p12 r12=>aM (((.cons 3 (.ptr 1 0) (.cons 0 (.ptr 0 0) .nil)),(.node (.node (.node .leaf (some (.prow 54 9 ax p12.r.os aI)) .leaf) (some (.blk false 54 9 [[.sy (.int 0 4),.sy (.int 0 0),.sy (.int 0 0),.sy (.int 0 r12.z),.sy (.int 0 0),.sy (.int 0 0),.sy (.int 3 0),.int 1 (.ofNat 0),.nilS]])) .leaf) (some (.blk false 60 14 [[.sy (.imm r12.hl 1 (List UInt8) r12.l aP),.sy (.bool r12.odd),.sy (.prow 2 p12.r.gs.length),.sy (.int 0 p12.r.clients),.sy (.int 0 p12.r.window),.sy (.int 0 p12.r.deadline),.sy (.int 0 p12.r.pace),.sy (.int 0 p12.r.again),.sy (.int 0 p12.r.bag),.sy (.int 4 p12.r.first),.sy (.prow 3 p12.r.os.length),.sy (.int 0 p12.r.set),.sy (.bool p12.r.op),.sy (.int 0 p12.r.line)]])) (.node .leaf (some (.prow 82 3 aw p12.r.gs aD)) .leaf)),4)) eT ch bY fun p13 r13=>K (.sy (.bool r13.q)) (aU r13.t) 3) (iP (rJ=r1.s) (aM (([.ptr 0 0],(aU ({p1.r with hl:=r1.hl,l:=r1.l,odd:=r1.odd}:ah)),3)) bV aO aS fun p14 r14=>aM (([.ptr 0 0],(aU ({p14.r with hl:=r14.hl,l:=r14.l,odd:=r14.odd}:ah)),3)) bV aO aS fun p15 r15=>aM (([.ptr 0 0,.int 4 (.ofNat 4294967295)],(aU ({p15.r with hl:=r15.hl,l:=r15.l,odd:=r15.odd}:ah)),3)) pX jV lE fun p16 r16=>aM (((.cons 3 (.ptr 1 0) (.cons 0 (.ptr 0 0) .nil)),(.node (.node (.node .leaf (some (.prow 54 9 ax p16.r.os aI)) .leaf) (some (.blk false 54 9 [[.sy (.int 0 5),.sy (.int 0 0),.sy (.int 0 0),.sy (.int 0 r14.z),.sy (.int 0 r15.z),.sy (.int 0 0),.sy (.int 3 ((aH 3).wrap r16.z)),.int 1 (.ofNat 0),.nilS]])) .leaf) (some (.blk false 60 14 [[.sy (.imm r16.hl 1 (List UInt8) r16.l aP),.sy (.bool r16.odd),.sy (.prow 2 p16.r.gs.length),.sy (.int 0 p16.r.clients),.sy (.int 0 p16.r.window),.sy (.int 0 p16.r.deadline),.sy (.int 0 p16.r.pace),.sy (.int 0 p16.r.again),.sy (.int 0 p16.r.bag),.sy (.int 4 p16.r.first),.sy (.prow 3 p16.r.os.length),.sy (.int 0 p16.r.set),.sy (.bool p16.r.op),.sy (.int 0 p16.r.line)]])) (.node .leaf (some (.prow 82 3 aw p16.r.gs aD)) .leaf)),4)) eT ch bY fun p17 r17=>K (.sy (.bool r17.q)) (aU r17.t) 3) (iP (Ny=r1.s) (aM (([.ptr 0 0],(aU ({p1.r with hl:=r1.hl,l:=r1.l,odd:=r1.odd}:ah)),3)) bV aO aS fun p18 r18=>aM (((.cons 3 (.ptr 1 0) (.cons 0 (.ptr 0 0) .nil)),(.node (.node (.node .leaf (some (.prow 54 9 ax p18.r.os aI)) .leaf) (some (.blk false 54 9 [[.sy (.int 0 6),.sy (.int 0 r18.z),.sy (.int 0 0),.sy (.int 0 0),.sy (.int 0 0),.sy (.int 0 0),.sy (.int 3 0),.int 1 (.ofNat 0),.nilS]])) .leaf) (some (.blk false 60 14 [[.sy (.imm r18.hl 1 (List UInt8) r18.l aP),.sy (.bool r18.odd),.sy (.prow 2 p18.r.gs.length),.sy (.int 0 p18.r.clients),.sy (.int 0 p18.r.window),.sy (.int 0 p18.r.deadline),.sy (.int 0 p18.r.pace),.sy (.int 0 p18.r.again),.sy (.int 0 p18.r.bag),.sy (.int 4 p18.r.first),.sy (.prow 3 p18.r.os.length),.sy (.int 0 p18.r.set),.sy (.bool p18.r.op),.sy (.int 0 p18.r.line)]])) (.node .leaf (some (.prow 82 3 aw p18.r.gs aD)) .leaf)),4)) eT ch bY fun p19 r19=>K (.sy (.bool r19.q)) (aU r19.t) 3) (iP (Nx=r1.s) (aM (([.ptr 0 0],(aU ({p1.r with hl:=r1.hl,l:=r1.l,odd:=r1.odd}:ah)),3)) bV aO aS fun p20 r20=>aM (([.ptr 0 0],(aU ({p20.r with hl:=r20.hl,l:=r20.l,odd:=r20.odd}:ah)),3)) bV aO aS fun p21 r21=>aM (((.cons 3 (.ptr 1 0) (.cons 0 (.ptr 0 0) .nil)),(.node (.node (.node .leaf (some (.prow 54 9 ax p21.r.os aI)) .leaf) (some (.blk false 54 9 [[.sy (.int 0 7),.sy (.int 0 r20.z),.sy (.int 0 r21.z),.sy (.int 0 0),.sy (.int 0 0),.sy (.int 0 0),.sy (.int 3 0),.int 1 (.ofNat 0),.nilS]])) .leaf) (some (.blk false 60 14 [[.sy (.imm r21.hl 1 (List UInt8) r21.l aP),.sy (.bool r21.odd),.sy (.prow 2 p21.r.gs.length),.sy (.int 0 p21.r.clients),.sy (.int 0 p21.r.window),.sy (.int 0 p21.r.deadline),.sy (.int 0 p21.r.pace),.sy (.int 0 p21.r.again),.sy (.int 0 p21.r.bag),.sy (.int 4 p21.r.first),.sy (.prow 3 p21.r.os.length),.sy (.int 0 p21.r.set),.sy (.bool p21.r.op),.sy (.int 0 p21.r.line)]])) (.node .leaf (some (.prow 82 3 aw p21.r.gs aD)) .leaf)),4)) eT ch bY fun p22 r22=>K (.sy (.bool r22.q)) (aU r22.t) 3) (iP (Nw=r1.s) (aM (([.ptr 0 0],(aU ({p1.r with hl:=r1.hl,l:=r1.l,odd:=r1.odd}:ah)),3)) bV aO aS fun p23 r23=>aM (((.cons 3 (.ptr 1 0) (.cons 0 (.ptr 0 0) .nil)),(.node (.node (.node .leaf (some (.prow 54 9 ax p23.r.os aI)) .leaf) (some (.blk false 54 9 [[.sy (.int 0 8),.sy (.int 0 r23.z),.sy (.int 0 0),.sy (.int 0 0),.sy (.int 0 0),.sy (.int 0 0),.sy (.int 3 0),.int 1 (.ofNat 0),.nilS]])) .leaf) (some (.blk false 60 14 [[.sy (.imm r23.hl 1 (List UInt8) r23.l aP),.sy (.bool r23.odd),.sy (.prow 2 p23.r.gs.length),.sy (.int 0 p23.r.clients),.sy (.int 0 p23.r.window),.sy (.int 0 p23.r.deadline),.sy (.int 0 p23.r.pace),.sy (.int 0 p23.r.again),.sy (.int 0 p23.r.bag),.sy (.int 4 p23.r.first),.sy (.prow 3 p23.r.os.length),.sy (.int 0 p23.r.set),.sy (.bool p23.r.op),.sy (.int 0 p23.r.line)]])) (.node .leaf (some (.prow 82 3 aw p23.r.gs aD)) .leaf)),4)) eT ch bY fun p24 r24=>K (.sy (.bool r24.q)) (aU r24.t) 3) (iP (Nv=r1.s) (aM (([.ptr 0 0],(aU ({p1.r with hl:=r1.hl,l:=r1.l,odd:=r1.odd}:ah)),3)) bV aO aS fun p25 r25=>aM (((.cons 3 (.ptr 1 0) (.cons 0 (.ptr 0 0) .nil)),(.node (.node (.node .leaf (some (.prow 54 9 ax p25.r.os aI)) .leaf) (some (.blk false 54 9 [[.sy (.int 0 9),.sy (.int 0 r25.z),.sy (.int 0 0),.sy (.int 0 0),.sy (.int 0 0),.sy (.int 0 0),.sy (.int 3 0),.int 1 (.ofNat 0),.nilS]])) .leaf) (some (.blk false 60 14 [[.sy (.imm r25.hl 1 (List UInt8) r25.l aP),.sy (.bool r25.odd),.sy (.prow 2 p25.r.gs.length),.sy (.int 0 p25.r.clients),.sy (.int 0 p25.r.window),.sy (.int 0 p25.r.deadline),.sy (.int 0 p25.r.pace),.sy (.int 0 p25.r.again),.sy (.int 0 p25.r.bag),.sy (.int 4 p25.r.first),.sy (.prow 3 p25.r.os.length),.sy (.int 0 p25.r.set),.sy (.bool p25.r.op),.sy (.int 0 p25.r.line)]])) (.node .leaf (some (.prow 82 3 aw p25.r.gs aD)) .leaf)),4)) eT ch bY fun p26 r26=>K (.sy (.bool r26.q)) (aU r26.t) 3) (iP (Nu=r1.s) (aM (([.ptr 0 0],(aU ({p1.r with hl:=r1.hl,l:=r1.l,odd:=r1.odd}:ah)),3)) bV aO aS fun p27 r27=>aM (((.cons 3 (.ptr 1 0) (.cons 0 (.ptr 0 0) .nil)),(.node (.node (.node .leaf (some (.prow 54 9 ax p27.r.os aI)) .leaf) (some (.blk false 54 9 [[.sy (.int 0 10),.sy (.int 0 r27.z),.sy (.int 0 0),.sy (.int 0 0),.sy (.int 0 0),.sy (.int 0 0),.sy (.int 3 0),.int 1 (.ofNat 0),.nilS]])) .leaf) (some (.blk false 60 14 [[.sy (.imm r27.hl 1 (List UInt8) r27.l aP),.sy (.bool r27.odd),.sy (.prow 2 p27.r.gs.length),.sy (.int 0 p27.r.clients),.sy (.int 0 p27.r.window),.sy (.int 0 p27.r.deadline),.sy (.int 0 p27.r.pace),.sy (.int 0 p27.r.again),.sy (.int 0 p27.r.bag),.sy (.int 4 p27.r.first),.sy (.prow 3 p27.r.os.length),.sy (.int 0 p27.r.set),.sy (.bool p27.r.op),.sy (.int 0 p27.r.line)]])) (.node .leaf (some (.prow 82 3 aw p27.r.gs aD)) .leaf)),4)) eT ch bY fun p28 r28=>K (.sy (.bool r28.q)) (aU r28.t) 3) (iP (Nt=r1.s) (aM (([.ptr 0 0],(aU ({p1.r with hl:=r1.hl,l:=r1.l,odd:=r1.odd}:ah)),3)) bV aO aS fun p29 r29=>aM (((.cons 3 (.ptr 1 0) (.cons 0 (.ptr 0 0) .nil)),(.node (.node (.node .leaf (some (.prow 54 9 ax p29.r.os aI)) .leaf) (some (.blk false 54 9 [[.sy (.int 0 11),.sy (.int 0 r29.z),.sy (.int 0 0),.sy (.int 0 0),.sy (.int 0 0),.sy (.int 0 0),.sy (.int 3 0),.int 1 (.ofNat 0),.nilS]])) .leaf) (some (.blk false 60 14 [[.sy (.imm r29.hl 1 (List UInt8) r29.l aP),.sy (.bool r29.odd),.sy (.prow 2 p29.r.gs.length),.sy (.int 0 p29.r.clients),.sy (.int 0 p29.r.window),.sy (.int 0 p29.r.deadline),.sy (.int 0 p29.r.pace),.sy (.int 0 p29.r.again),.sy (.int 0 p29.r.bag),.sy (.int 4 p29.r.first),.sy (.prow 3 p29.r.os.length),.sy (.int 0 p29.r.set),.sy (.bool p29.r.op),.sy (.int 0 p29.r.line)]])) (.node .leaf (some (.prow 82 3 aw p29.r.gs aD)) .leaf)),4)) eT ch bY fun p30 r30=>K (.sy (.bool r30.q)) (aU r30.t) 3) (K (.sy (.bool (false=true))) (aU ({p1.r with hl:=r1.hl,l:=r1.l,odd:=r1.odd}:ah)) 3)))))))))))))) (by kernel_rfl) ?_
 dsimp only[mJ]at hpre
 obtain⟨q1,q2,q3⟩:=hpre
 refine ay (⟨p.r⟩:gB) rfl (by(try dsimp only[dh]);assumption) fun r1 hi1=> ?_
 dsimp only[dE]at hi1
 obtain⟨hi1,hs1⟩:=hi1
 refine iI (fun hc2=> ?_) (fun hc2=> ?_)
 refine ay (⟨({p.r with hl:=r1.hl,l:=r1.l,odd:=r1.odd}:ah)⟩:bH) rfl (by(try dsimp only[aO]);assumption) fun r2 hi3=> ?_
 dsimp only[aS]at hi3
 obtain⟨hi3,hs3⟩:=hi3
 refine ay (⟨({({p.r with hl:=r1.hl,l:=r1.l,odd:=r1.odd}:ah) with hl:=r2.hl,l:=r2.l,odd:=r2.odd}:ah)⟩:bH) rfl (by(try dsimp only[aO]);assumption) fun r3 hi4=> ?_
 dsimp only[aS]at hi4
 obtain⟨hi4,hs4⟩:=hi4
 refine ay (⟨({({({p.r with hl:=r1.hl,l:=r1.l,odd:=r1.odd}:ah) with hl:=r2.hl,l:=r2.l,odd:=r2.odd}:ah) with hl:=r3.hl,l:=r3.l,odd:=r3.odd}:ah),⟨(0:Int),r2.z,(0:Int),(0:Int),(0:Int),r3.z,(0:Int)⟩⟩:eu) rfl (by(try dsimp only[ch]);first|exact⟨by assumption,by omega,by omega,by omega⟩|exact⟨by assumption,by omega,jB _⟩) fun r4 hi5=> ?_
 dsimp only[bY]at hi5
 exact dR hK ⟨r4.t,r4.q⟩
 refine iI (fun hc6=> ?_) (fun hc6=> ?_)
 refine ay (⟨({p.r with hl:=r1.hl,l:=r1.l,odd:=r1.odd}:ah)⟩:bH) rfl (by(try dsimp only[aO]);assumption) fun r5 hi7=> ?_
 dsimp only[aS]at hi7
 obtain⟨hi7,hs7⟩:=hi7
 refine ay (⟨({({p.r with hl:=r1.hl,l:=r1.l,odd:=r1.odd}:ah) with hl:=r5.hl,l:=r5.l,odd:=r5.odd}:ah)⟩:bH) rfl (by(try dsimp only[aO]);assumption) fun r6 hi8=> ?_
 dsimp only[aS]at hi8
 obtain⟨hi8,hs8⟩:=hi8
 refine ay (⟨({({({p.r with hl:=r1.hl,l:=r1.l,odd:=r1.odd}:ah) with hl:=r5.hl,l:=r5.l,odd:=r5.odd}:ah) with hl:=r6.hl,l:=r6.l,odd:=r6.odd}:ah),⟨(1:Int),r5.z,r6.z,(0:Int),(0:Int),(0:Int),(0:Int)⟩⟩:eu) rfl (by(try dsimp only[ch]);first|exact⟨by assumption,by omega,by omega,by omega⟩|exact⟨by assumption,by omega,jB _⟩) fun r7 hi9=> ?_
 dsimp only[bY]at hi9
 exact dR hK ⟨r7.t,r7.q⟩
 refine iI (fun hc10=> ?_) (fun hc10=> ?_)
 refine ay (⟨({p.r with hl:=r1.hl,l:=r1.l,odd:=r1.odd}:ah)⟩:bH) rfl (by(try dsimp only[aO]);assumption) fun r8 hi11=> ?_
 dsimp only[aS]at hi11
 obtain⟨hi11,hs11⟩:=hi11
 refine ay (⟨({({p.r with hl:=r1.hl,l:=r1.l,odd:=r1.odd}:ah) with hl:=r8.hl,l:=r8.l,odd:=r8.odd}:ah),⟨(2:Int),(0:Int),(0:Int),r8.z,(0:Int),(0:Int),(0:Int)⟩⟩:eu) rfl (by(try dsimp only[ch]);first|exact⟨by assumption,by omega,by omega,by omega⟩|exact⟨by assumption,by omega,jB _⟩) fun r9 hi12=> ?_
 dsimp only[bY]at hi12
 exact dR hK ⟨r9.t,r9.q⟩
 refine iI (fun hc13=> ?_) (fun hc13=> ?_)
 refine ay (⟨({p.r with hl:=r1.hl,l:=r1.l,odd:=r1.odd}:ah)⟩:bH) rfl (by(try dsimp only[aO]);assumption) fun r10 hi14=> ?_
 dsimp only[aS]at hi14
 obtain⟨hi14,hs14⟩:=hi14
 refine ay (⟨({({p.r with hl:=r1.hl,l:=r1.l,odd:=r1.odd}:ah) with hl:=r10.hl,l:=r10.l,odd:=r10.odd}:ah),⟨(3:Int),(0:Int),(0:Int),r10.z,(0:Int),(0:Int),(0:Int)⟩⟩:eu) rfl (by(try dsimp only[ch]);first|exact⟨by assumption,by omega,by omega,by omega⟩|exact⟨by assumption,by omega,jB _⟩) fun r11 hi15=> ?_
 dsimp only[bY]at hi15
 exact dR hK ⟨r11.t,r11.q⟩
 refine iI (fun hc16=> ?_) (fun hc16=> ?_)
 refine ay (⟨({p.r with hl:=r1.hl,l:=r1.l,odd:=r1.odd}:ah)⟩:bH) rfl (by(try dsimp only[aO]);assumption) fun r12 hi17=> ?_
 dsimp only[aS]at hi17
 obtain⟨hi17,hs17⟩:=hi17
 refine ay (⟨({({p.r with hl:=r1.hl,l:=r1.l,odd:=r1.odd}:ah) with hl:=r12.hl,l:=r12.l,odd:=r12.odd}:ah),⟨(4:Int),(0:Int),(0:Int),r12.z,(0:Int),(0:Int),(0:Int)⟩⟩:eu) rfl (by(try dsimp only[ch]);first|exact⟨by assumption,by omega,by omega,by omega⟩|exact⟨by assumption,by omega,jB _⟩) fun r13 hi18=> ?_
 dsimp only[bY]at hi18
 exact dR hK ⟨r13.t,r13.q⟩
 refine iI (fun hc19=> ?_) (fun hc19=> ?_)
 refine ay (⟨({p.r with hl:=r1.hl,l:=r1.l,odd:=r1.odd}:ah)⟩:bH) rfl (by(try dsimp only[aO]);assumption) fun r14 hi20=> ?_
 dsimp only[aS]at hi20
 obtain⟨hi20,hs20⟩:=hi20
 refine ay (⟨({({p.r with hl:=r1.hl,l:=r1.l,odd:=r1.odd}:ah) with hl:=r14.hl,l:=r14.l,odd:=r14.odd}:ah)⟩:bH) rfl (by(try dsimp only[aO]);assumption) fun r15 hi21=> ?_
 dsimp only[aS]at hi21
 obtain⟨hi21,hs21⟩:=hi21
 refine ay (⟨({({({p.r with hl:=r1.hl,l:=r1.l,odd:=r1.odd}:ah) with hl:=r14.hl,l:=r14.l,odd:=r14.odd}:ah) with hl:=r15.hl,l:=r15.l,odd:=r15.odd}:ah),(4294967295:Int)⟩:my) rfl (by(try dsimp only[jV]);exact⟨by assumption,by decide⟩) fun r16 hi22=> ?_
 dsimp only[lE]at hi22
 obtain⟨hi22,hs22⟩:=hi22
 refine ay (⟨({({({({p.r with hl:=r1.hl,l:=r1.l,odd:=r1.odd}:ah) with hl:=r14.hl,l:=r14.l,odd:=r14.odd}:ah) with hl:=r15.hl,l:=r15.l,odd:=r15.odd}:ah) with hl:=r16.hl,l:=r16.l,odd:=r16.odd}:ah),⟨(5:Int),(0:Int),(0:Int),r14.z,r15.z,(0:Int),(aH 3).wrap r16.z⟩⟩:eu) rfl (by(try dsimp only[ch]);first|exact⟨by assumption,by omega,by omega,by omega⟩|exact⟨by assumption,by omega,jB _⟩) fun r17 hi23=> ?_
 dsimp only[bY]at hi23
 exact dR hK ⟨r17.t,r17.q⟩
 refine iI (fun hc24=> ?_) (fun hc24=> ?_)
 refine ay (⟨({p.r with hl:=r1.hl,l:=r1.l,odd:=r1.odd}:ah)⟩:bH) rfl (by(try dsimp only[aO]);assumption) fun r18 hi25=> ?_
 dsimp only[aS]at hi25
 obtain⟨hi25,hs25⟩:=hi25
 refine ay (⟨({({p.r with hl:=r1.hl,l:=r1.l,odd:=r1.odd}:ah) with hl:=r18.hl,l:=r18.l,odd:=r18.odd}:ah),⟨(6:Int),r18.z,(0:Int),(0:Int),(0:Int),(0:Int),(0:Int)⟩⟩:eu) rfl (by(try dsimp only[ch]);first|exact⟨by assumption,by omega,by omega,by omega⟩|exact⟨by assumption,by omega,jB _⟩) fun r19 hi26=> ?_
 dsimp only[bY]at hi26
 exact dR hK ⟨r19.t,r19.q⟩
 refine iI (fun hc27=> ?_) (fun hc27=> ?_)
 refine ay (⟨({p.r with hl:=r1.hl,l:=r1.l,odd:=r1.odd}:ah)⟩:bH) rfl (by(try dsimp only[aO]);assumption) fun r20 hi28=> ?_
 dsimp only[aS]at hi28
 obtain⟨hi28,hs28⟩:=hi28
 refine ay (⟨({({p.r with hl:=r1.hl,l:=r1.l,odd:=r1.odd}:ah) with hl:=r20.hl,l:=r20.l,odd:=r20.odd}:ah)⟩:bH) rfl (by(try dsimp only[aO]);assumption) fun r21 hi29=> ?_
 dsimp only[aS]at hi29
 obtain⟨hi29,hs29⟩:=hi29
 refine ay (⟨({({({p.r with hl:=r1.hl,l:=r1.l,odd:=r1.odd}:ah) with hl:=r20.hl,l:=r20.l,odd:=r20.odd}:ah) with hl:=r21.hl,l:=r21.l,odd:=r21.odd}:ah),⟨(7:Int),r20.z,r21.z,(0:Int),(0:Int),(0:Int),(0:Int)⟩⟩:eu) rfl (by(try dsimp only[ch]);first|exact⟨by assumption,by omega,by omega,by omega⟩|exact⟨by assumption,by omega,jB _⟩) fun r22 hi30=> ?_
 dsimp only[bY]at hi30
 exact dR hK ⟨r22.t,r22.q⟩
 refine iI (fun hc31=> ?_) (fun hc31=> ?_)
 refine ay (⟨({p.r with hl:=r1.hl,l:=r1.l,odd:=r1.odd}:ah)⟩:bH) rfl (by(try dsimp only[aO]);assumption) fun r23 hi32=> ?_
 dsimp only[aS]at hi32
 obtain⟨hi32,hs32⟩:=hi32
 refine ay (⟨({({p.r with hl:=r1.hl,l:=r1.l,odd:=r1.odd}:ah) with hl:=r23.hl,l:=r23.l,odd:=r23.odd}:ah),⟨(8:Int),r23.z,(0:Int),(0:Int),(0:Int),(0:Int),(0:Int)⟩⟩:eu) rfl (by(try dsimp only[ch]);first|exact⟨by assumption,by omega,by omega,by omega⟩|exact⟨by assumption,by omega,jB _⟩) fun r24 hi33=> ?_
 dsimp only[bY]at hi33
 exact dR hK ⟨r24.t,r24.q⟩
 refine iI (fun hc34=> ?_) (fun hc34=> ?_)
 refine ay (⟨({p.r with hl:=r1.hl,l:=r1.l,odd:=r1.odd}:ah)⟩:bH) rfl (by(try dsimp only[aO]);assumption) fun r25 hi35=> ?_
 dsimp only[aS]at hi35
 obtain⟨hi35,hs35⟩:=hi35
 refine ay (⟨({({p.r with hl:=r1.hl,l:=r1.l,odd:=r1.odd}:ah) with hl:=r25.hl,l:=r25.l,odd:=r25.odd}:ah),⟨(9:Int),r25.z,(0:Int),(0:Int),(0:Int),(0:Int),(0:Int)⟩⟩:eu) rfl (by(try dsimp only[ch]);first|exact⟨by assumption,by omega,by omega,by omega⟩|exact⟨by assumption,by omega,jB _⟩) fun r26 hi36=> ?_
 dsimp only[bY]at hi36
 exact dR hK ⟨r26.t,r26.q⟩
 refine iI (fun hc37=> ?_) (fun hc37=> ?_)
 refine ay (⟨({p.r with hl:=r1.hl,l:=r1.l,odd:=r1.odd}:ah)⟩:bH) rfl (by(try dsimp only[aO]);assumption) fun r27 hi38=> ?_
 dsimp only[aS]at hi38
 obtain⟨hi38,hs38⟩:=hi38
 refine ay (⟨({({p.r with hl:=r1.hl,l:=r1.l,odd:=r1.odd}:ah) with hl:=r27.hl,l:=r27.l,odd:=r27.odd}:ah),⟨(10:Int),r27.z,(0:Int),(0:Int),(0:Int),(0:Int),(0:Int)⟩⟩:eu) rfl (by(try dsimp only[ch]);first|exact⟨by assumption,by omega,by omega,by omega⟩|exact⟨by assumption,by omega,jB _⟩) fun r28 hi39=> ?_
 dsimp only[bY]at hi39
 exact dR hK ⟨r28.t,r28.q⟩
 refine iI (fun hc40=> ?_) (fun hc40=> ?_)
 refine ay (⟨({p.r with hl:=r1.hl,l:=r1.l,odd:=r1.odd}:ah)⟩:bH) rfl (by(try dsimp only[aO]);assumption) fun r29 hi41=> ?_
 dsimp only[aS]at hi41
 obtain⟨hi41,hs41⟩:=hi41
 refine ay (⟨({({p.r with hl:=r1.hl,l:=r1.l,odd:=r1.odd}:ah) with hl:=r29.hl,l:=r29.l,odd:=r29.odd}:ah),⟨(11:Int),r29.z,(0:Int),(0:Int),(0:Int),(0:Int),(0:Int)⟩⟩:eu) rfl (by(try dsimp only[ch]);first|exact⟨by assumption,by omega,by omega,by omega⟩|exact⟨by assumption,by omega,jB _⟩) fun r30 hi42=> ?_
 dsimp only[bY]at hi42
 exact dR hK ⟨r30.t,r30.q⟩
 exact dR hK ⟨({p.r with hl:=r1.hl,l:=r1.l,odd:=r1.odd}:ah),false=true⟩
noncomputable def vy:=bt ig 1 (bJ rr (dr mJ vb)) 48 []
theorem wz:aV Tryz.prog vy:=aR (bU (f:=48) (k:=1) (lp:=mc) (lf:=600) bm (bj ie) Js (by rfl) (fun b j x h=>(cy VX (fun h=>(by cases h)) h)) fun p K h=>Pv p K (aa h).1 (aa h).2) ie
def jN (r:ah):Prop:=r.gs.length≤4∧(r.op↔r.set=7)∧(0≤r.set∧r.set≤7)∧∀x∈r.os,x.ps.length≤10
def Eg (r t:ah) (s:List UInt8) (q:Prop):Prop:=t.line=r.line∧(q→(jN t∧t.os.length≤r.os.length+1)∧step (dB r) s (dB t))∧(¬q→∀b,¬step (dB r) s b)
def pf (r:ah) (h:Value) (l:TX):ah:={r with hl:=h,l:=l,odd:=false=true}
theorem aas {r t:ah} {s:List UInt8} {q:Prop} (hr:jN r) (ho:r.op)
  (hp:(t.line=r.line∧t.set=r.set∧t.op=r.op∧t.gs=r.gs)∧(q→(t.os.length=r.os.length+1∧((∀x∈r.os,x.ps.length≤10)→∀x∈t.os,x.ps.length≤10))∧gx (dB r) (wds 32 s) (dB t))∧(¬q→∀b,¬gx (dB r) (wds 32 s) b)):Eg r t s q:=by
 obtain⟨⟨h1,h2,h3,h4⟩,h5,h6⟩:=hp
 obtain⟨r1,r2,r3,r4⟩:=hr
 have hs:(dB r).set=7:=r2.1 ho
 refine⟨h1,fun hq=> ?_,fun hq b hb=> ?_⟩
 ·obtain⟨⟨a1,a2⟩,a3⟩:=h5 hq
  exact⟨⟨⟨by rw[h4];exact r1,by rw[h3,h2];exact r2,by rw[h2];exact r3,a2 r4⟩,by omega⟩,.inr (.inr ⟨hs,a3⟩)⟩
 ·rcases hb with⟨e,_⟩|⟨e,_⟩|⟨e,hb⟩
  ·omega
  ·omega
  ·exact h6 hq b hb
theorem Po {s x:List UInt8} (h:(wds 32 s)[0]?=some x):(wds 32 s).headD []=x:=(zo h).symm
theorem VF {r t:ah} {s x:List UInt8} {q:Prop} (hr:jN r) (hs:r.set=0) (hx:(wds 32 s)[0]?=some x) (hg:x=uf)
  (hp:(t.line=r.line∧t.op=r.op∧t.os=r.os∧t.set=r.set)∧(q→Jf (dB r) (wds 32 s) (dB t))∧(¬q→∀b,¬Jf (dB r) (wds 32 s) b)):Eg r t s q:=by
 obtain⟨⟨h1,h2,h3,h4⟩,h5,h6⟩:=hp
 obtain⟨r1,r2,r3,r4⟩:=hr
 have hs':(dB r).set=0:=hs
 refine⟨h1,fun hq=> ?_,fun hq b hb=> ?_⟩
 ·have a:=h5 hq
  obtain⟨a1,g,a2,a3,a4⟩:=h5 hq
  have e:t.gs=r.gs++[g]:=congrArg St.gs a4
  have a1:r.gs.length<4:=a1
  exact⟨⟨⟨by rw[e,acA,List.length_singleton];omega,by rw[h2,h4];exact r2,by rw[h4];exact r3,by rw[h3];exact r4⟩,by rw[h3];omega⟩,.inl ⟨hs',a⟩⟩
 ·rcases hb with⟨e,hb⟩|⟨e,_,z,_,e2,_⟩|⟨e,hb⟩
  ·exact h6 hq b hb
  ·have e3:=Po hx
   rw[e2,hs',hg]at e3
   exact absurd (show pz 0=uf from e3) (by decide)
  ·omega
theorem VE {r t:ah} {s:List UInt8} {q:Prop} (hr:jN r) (ho:¬r.op) (hs:r.set=0→¬(wds 32 s).headD []=uf)
  (hp:(t.line=r.line∧t.os=r.os∧t.gs=r.gs∧t.set=r.set+1∧(t.op↔t.set=7))∧(q→Cl (dB r) (wds 32 s) (dB t))∧(¬q→∀b,¬Cl (dB r) (wds 32 s) b)):Eg r t s q:=by
 obtain⟨⟨h1,h2,h3,h4,h5⟩,h6,h7⟩:=hp
 obtain⟨r1,r2,r3,r4⟩:=hr
 have hn:¬r.set=7:=fun e=>ho (r2.2 e)
 have hst:(dB r).set=r.set:=rfl
 refine⟨h1,fun hq=> ?_,fun hq b hb=> ?_⟩
 ·exact⟨⟨⟨by rw[h3];exact r1,h5,by omega,by rw[h2];exact r4⟩,by rw[h2];omega⟩,.inr (.inl ⟨by omega,h6 hq⟩)⟩
 ·rcases hb with⟨e,_,g,_,e2,_⟩|⟨e,hb⟩|⟨e,hb⟩
  ·refine hs (by omega) ?_
   rw[e2];rfl
  ·exact h7 hq b hb
  ·omega
theorem fF:¬(false=true):=fun q=>by cases q
theorem ZZ {r:ah} (hr:jN r) (ho:¬r.op):0≤r.set∧r.set≤6:=by
 obtain⟨r1,r2,r3,r4⟩:=hr
 have hn:¬r.set=7:=fun e=>ho (r2.2 e)
 omega
theorem RF (s:List UInt8):wds 32 s≠[]:=Txt.wds_ne 32 s
def QZ:XF:=.mk 38 (.one 4) (.aft (.seq (g_ 1 [p_ 0 4 (.mv (.c (.bool false)))]) (.seq (g_ 7 [p_ 0 5 (m_ 0),p_ 1 6 (m_ 1),c_ 2 7 47 [.t 6,.c (.str [32])],p_ 3 8 (.bld [.nilS,.bool false] [(0,1)] [.t 7]),p_ 4 9 (n_ 5),p_ 5 10 (f_ 0 9),bl 6 (.st 2 (.t 10) (.t 8))]) (.seq (.pre [.can 1 [0],.upc 0 0 1] (.block 2 (.seq (g_ 5 [p_ 0 12 (m_ 0),p_ 1 13 (n_ 12),p_ 2 14 (f_ 12 13),r_ 3 15 (l_ 14),p_ 4 11 (m_ 15)]) (.cond (.t 11) (.seq (g_ 3 [p_ 0 16 (m_ 0),c_ 1 17 48 [.t 16],p_ 2 4 (m_ 17)]) .ret) (.seq (g_ 16 [p_ 0 19 (m_ 0),p_ 1 20 (n_ 19),p_ 2 21 (f_ 11 20),r_ 3 22 (l_ 21),p_ 4 23 (.bin 3 4 (.t 22) (i_ 0)),p_ 5 24 (m_ 23),aj 6 25 24 true (m_ 0),aj 7 26 24 true (n_ 25),aj 8 27 24 true (f_ 0 26),aj 9 28 24 true (f_ 0 27),aT 10 29 24 true (l_ 28),aj 11 30 24 true (.ixs 1 (.t 29) (i_ 0)),aT 12 31 24 true (l_ 30),aj 13 32 24 true (.bin 5 0 (.t 31) (.c (.str [103,114,111,117,112]))),p_ 14 33 (.pick (.t 24) (.t 32) (.c (.bool false))),p_ 15 18 (m_ 33)]) (.cond (.t 18) (.seq (g_ 3 [p_ 0 34 (m_ 0),c_ 1 35 49 [.t 34],p_ 2 4 (m_ 35)]) .ret) .skip)))))) (.seq (g_ 3 [p_ 0 36 (m_ 0),c_ 1 37 50 [.t 36],p_ 2 4 (m_ 37)]) .ret)))) [(0,[.up 4]),(1,[.up 4])])
theorem QY:bE Tryz.prog 18 QZ=true:=by kernel_rfl
structure wo where
 r:ah
 s:List UInt8
structure Pd where
 t:ah
 q:Prop
def HL (p:wo) (r:Pd):Prop:=Eg p.r r.t p.s r.q
noncomputable def Dv (p:wo):IE:=([.ptr 0 0,.sy (.str p.s)],(aU p.r),3)
noncomputable def yW (p:wo) (K:KE):Bool:=am fun r:Pd=>iP (HL p r) (K (.sy (.bool r.q)) (aU r.t) 3) true
def yU (p:wo):Prop:=p.s.length≤90000∧jN p.r∧p.r.os.length≤99999
theorem zq {p:wo} {K:KE} (hK:yW p K=true) (r:Pd) (h:HL p r:=by dsimp only[HL]<;>(first|exact aas g2 (by assumption) (by assumption)|exact VF g2 (by assumption) (by assumption) (by assumption) (by assumption)|exact VE g2 (by assumption) (fun e=>by first|(exfalso;omega)|(rw[Po (by assumption)];assumption)) (by assumption))):K (.sy (.bool r.q)) (aU r.t) 3=true:=au h (aG hK r)
theorem Xd (p:wo) (K:KE) (hpre:yU p) (hK:yW p K=true):(bW 1 (di vy) cL 600 QZ (Dv p).1 (Dv p).2.1 (Dv p).2.2 K)=true:=by
 refine Eq.trans (b:=(ac (Nat.blt 32 256) (mP (p.s.length≤1000000) (am fun h1:Value=>iP (p.r.op) (aM (([.ptr 0 0],(aU ({p.r with hl:=h1,l:=(Txt.wds (acX 32) p.s),odd:=false=true}:ah)),3)) rr mJ oF fun p1 r1=>K (.sy (.bool r1.q)) (aU r1.t) 3) (iP (p.r.set=(0:Int)) (mP (0≤(0:Int)∧(0:Int)<((Txt.wds (acX 32) p.s).length:Int)) (am fun x1:(List UInt8)=>iP ((Txt.wds (acX 32) p.s)[0]?=some x1) (iP (x1=(([103,114,111,117,112]:List Nat).map acX)) (aM (([.ptr 0 0],(aU ({p.r with hl:=h1,l:=(Txt.wds (acX 32) p.s),odd:=false=true}:ah)),3)) lz jC kp fun p2 r2=>K (.sy (.bool r2.q)) (aU r2.t) 3) (aM (([.ptr 0 0],(aU ({p.r with hl:=h1,l:=(Txt.wds (acX 32) p.s),odd:=false=true}:ah)),3)) gW eI fj fun p3 r3=>K (.sy (.bool r3.q)) (aU r3.t) 3)) true)) (aM (([.ptr 0 0],(aU ({p.r with hl:=h1,l:=(Txt.wds (acX 32) p.s),odd:=false=true}:ah)),3)) gW eI fj fun p4 r4=>K (.sy (.bool r4.q)) (aU r4.t) 3)))))) (by kernel_rfl) ?_
 dsimp only[yU]at hpre
 obtain⟨g1,g2,g3⟩:=hpre
 have hw:cb (Txt.wds (acX 32) p.s):=Fl (by omega)
 have hw0:0<(Txt.wds (acX 32) p.s).length:=List.length_pos_iff.2 (RF p.s)
 have g4:=g2.1
 have g5:=fF
 have g6:=fun z=>ZZ g2 z
 refine aE (rfl) ?_
 refine jE ?_
 refine az (fun h1=> ?_)
 refine iI (fun hc1=> ?_) (fun hc1=> ?_)
 refine ay (⟨({p.r with hl:=h1,l:=(Txt.wds (acX 32) p.s),odd:=false=true}:ah)⟩:lO) rfl (by(try dsimp only[mJ]);exact⟨by assumption,by assumption,by omega⟩) fun r1 hi2=> ?_
 dsimp only[oF]at hi2
 exact zq hK ⟨r1.t,r1.q⟩
 refine iI (fun hc3=> ?_) (fun hc3=> ?_)
 refine er ?_
 refine az (fun x1=> ?_)
 refine iI (fun hi4=> ?_) (fun _=>rfl)
 refine iI (fun hc5=> ?_) (fun hc5=> ?_)
 refine ay (⟨({p.r with hl:=h1,l:=(Txt.wds (acX 32) p.s),odd:=false=true}:ah)⟩:iJ) rfl (by(try dsimp only[jC]);exact⟨by assumption,by assumption,by omega⟩) fun r2 hi6=> ?_
 dsimp only[kp]at hi6
 exact zq hK ⟨r2.t,r2.q⟩
 refine ay (⟨({p.r with hl:=h1,l:=(Txt.wds (acX 32) p.s),odd:=false=true}:ah)⟩:ff) rfl (by(try dsimp only[eI]);exact⟨by assumption,by assumption,by first|omega|exact(g6 (by assumption)).1,by first|omega|exact(g6 (by assumption)).2⟩) fun r3 hi7=> ?_
 dsimp only[fj]at hi7
 exact zq hK ⟨r3.t,r3.q⟩
 refine ay (⟨({p.r with hl:=h1,l:=(Txt.wds (acX 32) p.s),odd:=false=true}:ah)⟩:ff) rfl (by(try dsimp only[eI]);exact⟨by assumption,by assumption,by first|omega|exact(g6 (by assumption)).1,by first|omega|exact(g6 (by assumption)).2⟩) fun r4 hi8=> ?_
 dsimp only[fj]at hi8
 exact zq hK ⟨r4.t,r4.q⟩
theorem Qt:bR Tryz.prog 18 1 (bJ Dv (dr yU yW)):=(cY (f:=18) (k:=1) (bj wz) QY (by rfl) (by rfl) Xd)
noncomputable def zc:=bt vy 1 (bJ Dv (dr yU yW)) 18 []
theorem vB:aV Tryz.prog zc:=aR Qt wz
end Go.Proofs.Tryz
namespace Go.Proofs.YtacomabmhnodlaaGreatDoor
open Go Go.RowKit Go.Shelf
attribute [local go_sem] Oper.semAt_some
set_option maxRecDepth 100000 in
set_option maxHeartbeats 1000000 in
theorem Wa (s:ByteArray) (w:World):Calls Tryz.prog 16 #[.string s] w fun e w'=>e= .returned (.func (.func 44) #[] #[.pointer (some ⟨w.heap.size,0,none⟩)])∧w'=w.alloc (.cells #[.string s] 9):=by
 refine(callsIn_wide (n:=3)).1 ?_
 refine callsIn_of_wp Tryz.func16 rfl trivial ?_ rfl
 simp only[Tryz.ntmps16,List.size_toArray,acB,acD,Nat.reduceAdd,Nat.reduceSub,Array.replicate_succ,Array.replicate_zero,List.push_toArray,List.append_toArray,acK,acI]
 gi_wp2
 go_ret
 exact⟨rfl,rfl⟩
def ON (W:World) (Bs:Nat) (s:ByteArray):Prop:=W.cell? ⟨Bs,0,none⟩=some (.string s)∧W.frozen? ⟨Bs,0,none⟩=false
def muB (Bs:Nat) (W:World):Nat:=match W.cell? ⟨Bs,0,none⟩ with
 |some (.string s)=>s.size
 |_=>0
theorem Mo {W:World} {Bs:Nat} {s:ByteArray} (h:ON W Bs s):muB Bs W=s.size:=by unfold muB;rw[h.1]
set_option maxRecDepth 100000 in
set_option maxHeartbeats 2000000 in
theorem Tq (n l Bs:Nat) (hn:1≤n) (J:ByteArray→ByteArray→World→Prop) (Jx:World→Prop)
  (hbox:∀r b W,J r b W→ON W Bs b∧b.size≤100000)
  (hset:∀r b b' W,b'.size≤100000→J r b W→J r b' (W.setCell ⟨Bs,0,none⟩ (.string b')))
  (hdrw:∀r b W,J r b W→J r b W.drew)
  (hY:∀(i:Nat) (r:ByteArray) W,Lib.indexByte r.data.toList 10=(i:Int)→J r (r.extract (i+1) r.size) W→YieldAt Fence.wide (n - 1) Tryz.prog l #[.string (r.extract 0 (i+1))] W fun e W'=>
   (e= .returned (.bool true)∧J (r.extract (i+1) r.size) (r.extract (i+1) r.size) W')∨(e= .returned (.bool false)∧Jx W'))
  (hZ:∀(r:ByteArray) W,0<r.size→Lib.indexByte r.data.toList 10<0→J r (⟨#[]⟩:ByteArray) W→YieldAt Fence.wide (n - 1) Tryz.prog l #[.string r] W fun e W'=>e= .returned (.bool false)∧Jx W')
  (s:ByteArray) (W:World) (h0:J s s W):
  CallsIn Fence.wide n Tryz.prog 44 #[.func (.yield l) #[] #[],.pointer (some ⟨Bs,0,none⟩)] W fun e W'=>(∃v,e= .returned v)∧((∃r,r.size=0∧J r r W')∨Jx W'):=by
 refine callsIn_of_wp Tryz.func44 rfl trivial ?_ rfl
 simp only[Tryz.ntmps44,List.size_toArray,acB,acD,Nat.reduceAdd,Nat.reduceSub,Array.replicate_succ,Array.replicate_zero,List.push_toArray,List.append_toArray,acK,acI]
 gi_wp2
 gi_loopw [3] (fun _ wr=>∃r,J r r wr) (fun _ wr=>muB Bs wr)
 case atStart=>exact⟨s,h0⟩
 case round=>
  obtain⟨r,hJ⟩:=hrel
  obtain⟨hb,hsm⟩:=hbox _ _ _ hJ
  have hc:=hb.1
  have hf:=hb.2
  have htn:(10:Int).toNat.toUInt8=(10:UInt8):=rfl
  by_cases hsz:0<r.size
  ·rcases Int.lt_or_le (Lib.indexByte r.data.toList 10) 0 with hneg|hpos
   ·obtain⟨f1,t1,a1,b1,hy1,hR1⟩:=hZ r (wr.setCell ⟨Bs,0,none⟩ (.string ⟨#[]⟩)) hsz hneg (hset _ _ _ _ (Nat.zero_le _) hJ)
    gi_wp2_with (refine⟨trivial,?_⟩;gi_at_call 45;refine(callsIn_wide.2 (Tryz.strings_IndexByte _ 10 _)).mono ?_;rintro e w' ⟨rfl,rfl⟩;rw[htn])
    refine hR1.mono ?_
    rintro e W2 ⟨rfl,hx⟩
    gi_wp2
    refine bodyPost_ret (results_none rfl _ _ _) rfl ?_
    exact⟨⟨_,rfl⟩,.inr hx⟩
   ·obtain⟨i,hi⟩:∃i:Nat,Lib.indexByte r.data.toList 10=(i:Int):=⟨(Lib.indexByte r.data.toList 10).toNat,by omega⟩
    have hlt:i<r.size:=by
     have:=(Lib.indexByte_some hi).1
     have h2:=(List.getElem?_eq_some_iff.1 this).1
     rw[Array.length_toList]at h2
     exact h2
    gi_wp2_with (refine⟨trivial,?_⟩;gi_at_call 45;refine(callsIn_wide.2 (Tryz.strings_IndexByte _ 10 _)).mono ?_;rintro e w' ⟨rfl,rfl⟩;rw[htn,hi])
    gi_region
    obtain⟨f1,t1,a1,b1,hy1,hR1⟩:=hY i r _ hi (hdrw _ _ _ (hset _ _ (r.extract (i+1) r.size) _ (by rw[ByteArray.size_extract];omega) hJ))
    gi_wp2
    refine hR1.mono ?_
    rintro e W2 (⟨rfl,hJ2⟩|⟨rfl,hx⟩)
    ·gi_wp2
     go_roundw
     case rel=>exact⟨_,hJ2⟩
     case measure=>
      rw[Mo (hbox _ _ _ hJ2).1,Mo hb,ByteArray.size_extract]
      omega
    ·gi_wp2
     refine bodyPost_ret (results_none rfl _ _ _) rfl ?_
     exact⟨⟨_,rfl⟩,.inr hx⟩
  ·gi_wp2
   go_end0
   exact⟨⟨_,rfl⟩,.inl ⟨r,by omega,hJ⟩⟩
def NO (A X:World→Prop):Exit→Act→World→Prop
 |.normal,_,W=>A W
 |.ret,_,W=>X W
 |_,_,_=>False
theorem Ch {g:Operand} {ps:Array Tmp} {assign body:Code} {Q:Exit→Act→World→Prop} {a:Act} {w:World} {Bs:Nat} (hg:a.eval g= .func (.func 44) #[] #[.pointer (some ⟨Bs,0,none⟩)]) (hps:ps.size=1)
  (J:ByteArray→ByteArray→Obj→World→Prop) (Jx:Obj→World→Prop)
  (hl:∀r b o W,J r b o W→W.heap[w.heap.size+1]?=some o) (hput:∀r b o o' W,J r b o W→J r b o' (W.putObj (w.heap.size+1) o'))
  (hset:∀r b b' o W,b'.size≤100000→J r b o W→J r b' o (W.setCell ⟨Bs,0,none⟩ (.string b'))) (hdrw:∀r b o W,J r b o W→J r b o W.drew)
  (hbox:∀r b o W,J r b o W→ON W Bs b∧b.size≤100000) (hD:∀r b o W,J r b o W→W.heap[w.heap.size]?=some (.deferred (some [])))
  (xl:∀o W,Jx o W→W.heap[w.heap.size+1]?=some o) (xput:∀o o' W,Jx o W→Jx o' (W.putObj (w.heap.size+1) o'))
  (t:ByteArray) (h0:∀o,J t t o ((w.alloc (.deferred (some []))).alloc o)) (a1:ByteArray→Act)
  (hassign:∀(l:Nat) (x:ByteArray) (W:World) (K:Act→World→Prop),K (a1 x) W→
   assign.wpIn (Fence.wide.inRound l) 2 Tryz.prog (Exit.then K (fun _ _ _=>False)) {tmps:=(ps.zip #[.string x]).foldl (fun t (p,v)=>t.setIfInBounds p v) a.tmps,defers:=[]} W)
  (hbody:∀(i:Nat) (r:ByteArray) (o:Obj) (W:World),Lib.indexByte r.data.toList 10=(i:Int)→J r (r.extract (i+1) r.size) o W→
   body.wpIn (Fence.wide.inRound (w.heap.size+1)) 2 Tryz.prog (NO (J (r.extract (i+1) r.size) (r.extract (i+1) r.size) o) (Jx o)) (a1 (r.extract 0 (i+1))) W)
  (hlast:∀(r:ByteArray) (o:Obj) (W:World),0<r.size→Lib.indexByte r.data.toList 10<0→J r (⟨#[]⟩:ByteArray) o W→
   body.wpIn (Fence.wide.inRound (w.heap.size+1)) 2 Tryz.prog (NO (fun _=>False) (Jx o)) (a1 r) W)
  (hdone:∀(r:ByteArray) (o:Obj) (W:World),r.size=0→J r r o W→Q .normal {a with defers:={target:=.collected w.heap.size,args:= #[]}::a.defers} W)
  (hstop:∀(o:Obj) (W:World),Jx o W→Code.ret.wpIn Fence.wide 4 Tryz.prog Q {a with defers:={target:=.collected w.heap.size,args:= #[]}::a.defers} W):
  (Code.rangeFunc g ps assign body).wpIn Fence.wide 4 Tryz.prog Q a w:=by
 refine wpIn_rangeFunc ?_
 intro fn hfn
 rw[show Fence.wide.round=none from rfl]
 obtain⟨rec,hrec⟩:∃rec:LoopState→Option Code→Loop,rec=fun st pe=>{state:=st,pending:=pe,fn,tmps:=a.tmps,params:=ps,assign,body,defers:=w.heap.size}:=⟨_,rfl⟩
 obtain⟨W1,hW1⟩:∃W1,(w.alloc (.deferred (some []))).alloc (.loop (rec .ready none))=W1:=⟨_,rfl⟩
 have hJ1:J t t (.loop (rec .ready none)) W1:=by rw[←hW1];exact h0 _
 refine⟨w.heap.size+1,[{target:=.collected w.heap.size,args:= #[]}],W1,{target:=.fn (.func 44) #[.pointer (some ⟨Bs,0,none⟩)],args:= #[.func (.yield (w.heap.size+1)) #[] #[]]},W1,44,
  #[.func (.yield (w.heap.size+1)) #[] #[]]++ #[.pointer (some ⟨Bs,0,none⟩)],W1,?_,?_,?_,?_,fun _=>by decide,?_⟩
 ·rw[←hW1,hrec];exact run_enterLoop_outer _ _ _ _ _
 ·simp only[resolve,hg]
  simp[go_sem]
 ·intro f' _;exact trivial
 ·have eg:∀args w,(callFunc 44 args).run Tryz.prog w= .ok (.enter 44 args) w:=enters_of Tryz.func44 (by kernel_rfl) rfl
  simp[invoke,go_sem,eg]
 ·-- one round
  have round:∀(x:ByteArray) (W:World) (A X:Obj→World→Prop) (R:Ending→World→Prop),W.heap[w.heap.size+1]?=some (.loop (rec .ready none))→
    (∀o W',A o W'→W'.heap[w.heap.size+1]?=some o)→(∀o W',X o W'→W'.heap[w.heap.size+1]?=some o)→
    (∀W',A (.loop (rec .busy none)) W'→R (.returned (.bool true)) (W'.putObj (w.heap.size+1) (.loop (rec .ready none))))→
    (∀W',X (.loop (rec .busy none)) W'→R (.returned (.bool false)) (W'.putObj (w.heap.size+1) (.loop (rec .done (some .ret)))))→
    body.wpIn (Fence.wide.inRound (w.heap.size+1)) 2 Tryz.prog (NO (A (.loop (rec .busy none))) (X (.loop (rec .busy none)))) (a1 x) (W.putObj (w.heap.size+1) (.loop (rec .busy none)))→
    YieldAt Fence.wide 2 Tryz.prog (w.heap.size+1) #[.string x] W R:=by
   intro x W A X R hlW hA hX hRA hRX hb
   have hy:=run_yield (P:=Tryz.prog) (args:= #[.string x]) hlW (by rw[hrec];simpa using hps.symm)
   rw[hrec]at hy
   refine⟨fn,_,assign,body,hy,roundIn_of_wpIn hfn (hassign _ x W _ ⟨_,run_beginRound hlW (by rw[hrec]),?_⟩)⟩
   have e1:({rec .ready none with state:=.busy}:Loop)=rec .busy none:=by rw[hrec]
   rw[e1]
   refine wpIn_mono hb ?_
   have fin:∀(jump:Option Code) (W3:World),W3.heap[w.heap.size+1]?=some (.loop (rec .busy none))→
     (Instr.endRound (w.heap.size+1) jump).run Tryz.prog W3= .ok (.bool jump.isNone) (W3.putObj (w.heap.size+1) (.loop (rec (if jump.isNone then .ready else .done) jump))):=fun jump W3 hl3=>by
    have:=run_endRound (P:=Tryz.prog) jump hl3
    rw[hrec]at this ⊢
    exact this
   rintro e a3 W3 hp
   cases e with
   |normal=>
    have hp:A _ W3:=hp
    exact⟨_,_,fin none W3 (hA _ _ hp),hRA _ hp⟩
   |ret=>
    have hp:X _ W3:=hp
    exact⟨_,_,fin (some .ret) W3 (hX _ _ hp),hRX _ hp⟩
   |_=>exact hp.elim
  refine(Tq 3 (w.heap.size+1) Bs (by decide) (fun r b W=>J r b (.loop (rec .ready none)) W) (fun W=>Jx (.loop (rec .done (some .ret))) W) (fun r b W h=>hbox _ _ _ _ h) (fun r b b' W hb h=>hset _ _ _ _ _ hb h) (fun r b W h=>hdrw _ _ _ _ h) ?_ ?_ t W1 hJ1).mono ?_
  ·intro i r W hi hJ
   refine round _ W (fun o W'=>J (r.extract (i+1) r.size) (r.extract (i+1) r.size) o W') (fun o W'=>Jx o W') _ (hl _ _ _ _ hJ) (fun o W' h=>hl _ _ _ _ h) (fun o W' h=>xl _ _ h) (fun W' h=>.inl ⟨rfl,hput _ _ _ _ _ h⟩) (fun W' h=>.inr ⟨rfl,xput _ _ _ h⟩) (hbody i r _ _ hi (hput _ _ _ _ _ hJ))
  ·intro r W hs hi hJ
   refine round _ W (fun o W'=>False) (fun o W'=>Jx o W') _ (hl _ _ _ _ hJ) (fun o W' h=>h.elim) (fun o W' h=>xl _ _ h) (fun W' h=>h.elim) (fun W' h=>⟨rfl,xput _ _ _ h⟩) (hlast r _ _ hs hi (hput _ _ _ _ _ hJ))
  ·rintro e W2 ⟨⟨v,rfl⟩,(⟨r,hs,hJ⟩|hx)⟩
   ·exact⟨none,_,by have:=run_endLoop (P:=Tryz.prog) (hl _ _ _ _ hJ) (by rw[hrec];simp);rw[hrec]at this;exact this,hdone r _ _ hs (hput _ _ _ _ _ hJ)⟩
   ·exact⟨some .ret,_,by have:=run_endLoop (P:=Tryz.prog) (xl _ _ hx) (by rw[hrec];simp);rw[hrec]at this;exact this,hstop _ _ (xput _ _ _ hx)⟩
end Go.Proofs.YtacomabmhnodlaaGreatDoor
namespace Go.Eng
theorem Holds.upd {G:GS} {w w':World} {H H':List aA} {b:Nat} {o o':Obj} (h:Holds G w (H++[(b,o)]::H')) (hos:w'.os=w.os) (ht:w'.tape=w.tape) (hou:w'.output=w.output)
  (hel:∀k,k<w.heap.size→k≠b→w'.heap[k]?=w.heap[k]?) (hb:w'.heap[b]?=some o'):Holds G w' (H++[(b,o')]::H'):=by
 have p1:([(b,o)]::(H++H')).flatten.Perm (H++[(b,o)]::H').flatten:=(List.perm_middle.symm).flatten
 have p2:(H++[(b,o')]::H').flatten.Perm ([(b,o')]::(H++H')).flatten:=(List.perm_middle).flatten
 refine Holds.perm ?_ p2
 refine(h.perm p1).turn (c':=[(b,o')]) hos ht hou rfl (fun k hk hn=>hel k hk (by simpa using hn)) (fun p hp=> ?_)
 rw[List.mem_singleton.1 hp];exact hb
end Go.Eng
namespace Go.Proofs.YtacomabmhnodlaaGreatDoor
open Go Go.RowKit Go.Shelf Go.Sy Go.Proofs.Tryz
open Go.Eng hiding am
theorem Sim.frame {E:Env} {ρ:Go.Sy.Ren} {G G':GS} {F F':List aA} {M:T} {nx:Nat} {w w':World} (h:Sim E ρ G F M nx w) (hG:G'.M=G.M) (hk:∀c,Holds {G with M:=E.M} w (c::F)→Holds {G' with M:=E.M} w' (c::F')):Sim E ρ G' F' M nx w':=by
 obtain⟨c,hh,h1,h2⟩:=h.ex
 exact⟨⟨c,hk c hh,h1,h2⟩,by rw[hG];exact h.mem,h.fresh⟩
theorem Jd {w:World} {b o:Nat} {c:Array Value} {T:TypeId} {fz:Nat×Nat} (v:Value) (h:w.heap[b]?=some (.cells c T fz)):(w.setCell ⟨b,o,none⟩ v).heap[b]?=some (.cells (c.setIfInBounds o v) T fz):=by
 simp[World.setCell,Array.getElem?_modify,h]
theorem FW {w:World} {b o k:Nat} (v:Value) (h:k≠b):(w.setCell ⟨b,o,none⟩ v).heap[k]?=w.heap[k]?:=Below.heap_setCell _ _ _ _ h
theorem Hz {E:Env} {ρ:Go.Sy.Ren} {G:GS} {F:List aA} {rd:ah} {w:World} {B cp:Nat} (h:Sim E ρ G F (aU rd) 3 w) (hρ:ρ 0=some ⟨B,cp⟩) (z:Int):Sim E ρ G F (aU {rd with line:=z}) 3 (w.setCell ⟨B,13,none⟩ (.int .i64 z)):=by
 obtain⟨e,arr,xs,h1,h2,h3,h4,_,h6,h7,h8,_⟩:=h.cellsAt (i:=0) (els:=[[.sy (.imm rd.hl 1 (List UInt8) rd.l aP),.sy (.bool rd.odd),.sy (.prow 1 rd.gs.length),.sy (.int 0 rd.clients),.sy (.int 0 rd.window),.sy (.int 0 rd.deadline),.sy (.int 0 rd.pace),.sy (.int 0 rd.again),.sy (.int 0 rd.bag),.sy (.int 4 rd.first),.sy (.prow 2 rd.os.length),.sy (.int 0 rd.set),.sy (.bool rd.op),.sy (.int 0 rd.line)]]) rfl
 rw[hρ]at h1
 cases h1
 have hlen:=cm h3
 have hd:=dW (mg 13 h3) (bA (E:=E) (ρ:=ρ) (v:=.sy (.int 0 z)) (r:=[]) (x:=.int .i64 z) (xs:=[]) rfl rfl)
 refine h.turn (i:=0) (e:=⟨B,cp⟩) rfl hρ rfl rfl rfl (fun k _ hk=>FW _ hk) (Jd _ h2) ?_ rfl (fun m hm=> ?_)
 ·refine⟨by simp,by decide,_,xs.take 13++[.int .i64 z],rfl,(by simpa only[acG,List.flatten_nil,List.append_nil,List.take_succ_cons,List.take_zero,acI,acK] using hd),?_⟩
  simp only[cond_false]
  rw[Array.toList_setIfInBounds,h8 rfl]
  have hl:xs.length=14:=hlen
  apply List.ext_getElem
  ·simp[hl]
  ·intro i a b
   simp[hl]at a b
   by_cases q:i=13
   ·subst q;simp[hl]
   ·have:i<13:=by omega
    simp[List.getElem_set,Ne.symm q,List.getElem_append,hl,this]
 ·match m with
  |0=>exact absurd rfl hm
  |n+1=>rfl
def zV:Array Value:= #[.slice none 0 0,.int .i64 0,.int .i64 0,.int .i64 0,.int .i64 0,.int .i64 0,.int .i64 0,.int .u64 0,.slice none 0 0]
def rV:Array Value:= #[.slice none 0 0,.bool false,.slice none 0 0,.int .i64 0,.int .i64 0,.int .i64 0,.int .i64 0,.int .i64 0,.int .i64 0,.int .u64 0,.slice none 0 0,.int .i64 0,.bool false,.int .i64 0]
def ng (z:Nat) (b:ByteArray) (o:Obj) (n:Int) (F:List aA):List aA:=[(z+6,o)]::[(z+5,.deferred (some []))]::[(z+4,.cells #[.string b] 9)]::[(z+3,.cells #[.pointer (some ⟨z+2,0,none⟩)] 55)]::[(z+1,.cells #[.int .i64 n] 3)]::[(z,.cells zV 29)]::F
def pf:ah:=⟨.slice none 0 0,[],false=true,[],0,0,0,0,0,0,0,[],0,false=true,0⟩
def DQ (z:Nat):Go.Sy.Ren:=fun i=>if i=0 then some ⟨z+2,0⟩ else if i=1∨i=2 then some ⟨0,0⟩ else none
theorem Mr (a b c:Option AObj) (n:Nat):(T.node (.node .leaf a .leaf) b (.node .leaf c .leaf)).get (n+3)=none:=by
 have hl:∀(x:Option AObj) (k:Nat),(T.node .leaf x .leaf).get (k+1)=none:=fun x k=>by
  rcases Nat.mod_two_eq_zero_or_one k with h|h
  ·rw[T.get_even _ _ _ _ h];rfl
  ·rw[T.get_odd _ _ _ _ h];rfl
 rcases Nat.mod_two_eq_zero_or_one (n+2) with h|h
 ·rw[show n+3=(n+2)+1 by omega,T.get_even _ _ _ _ h,show(n+2) / 2=n / 2+1 by omega];exact hl _ _
 ·rw[show n+3=(n+2)+1 by omega,T.get_odd _ _ _ _ h,show(n+2) / 2=n / 2+1 by omega];exact hl _ _
theorem aac:aC (false=true)=false:=by simp[aC]
theorem VG {M:lh}:OkP M (.imm (.slice none 0 0) 1 (List UInt8) [] aP):=.imm none 0 rfl (Nat.le_refl _) (by decide) Nat.one_pos (fun h=>absurd h (by decide)) (fun x hx=>by cases hx) (fun x hx=>by cases hx) (fun i x hx=>by simp at hx)
theorem PP {E:Env} {G:GS} {F:List aA} {w:World} (hm:MLe G.M E.M) (hh:Holds {G with M:=E.M} w F) (t:ByteArray) (o:Obj):
  Sim E (DQ w.heap.size) G (ng w.heap.size t o 0 F) (aU pf) 3 (((((((w.alloc (.cells zV 29)).alloc (.cells #[.int .i64 0] 3)).alloc (.cells rV 60)).alloc (.cells #[.pointer (some ⟨w.heap.size+2,0,none⟩)] 55)).alloc (.cells #[.string t] 9)).alloc (.deferred (some []))).alloc o):=by
 have h7:=((((((hh.alloc (.cells zV 29)).alloc (.cells #[.int .i64 0] 3)).alloc (.cells rV 60)).alloc (.cells #[.pointer (some ⟨w.heap.size+2,0,none⟩)] 55)).alloc (.cells #[.string t] 9)).alloc (.deferred (some []))).alloc o
 simp only[World.size_alloc]at h7
 have h8:=h7.front 4 (c:=[(w.heap.size+1+1,.cells rV 60)]) rfl
 refine⟨⟨_,h8,fun i o' hi=> ?_,fun i j e f o1 o2 h1 h2 h3 h4 h5 h6 _=> ?_⟩,hm,fun i hi=> ?_⟩
 ·match i,hi with
  |0,hi=>
   have hi:some _=some o':=hi
   cases hi
   refine⟨⟨w.heap.size+2,0⟩,rfl,.inl ⟨rfl,_,List.mem_singleton_self _,?_⟩⟩
   refine⟨by simp,by decide,_,rV.toList,rfl,?_,rfl⟩
   have hi:den E (DQ w.heap.size) (.sy (.imm (.slice none 0 0) 1 (List UInt8) [] aP))=some (.slice none 0 0):=by
    show gU E _=_
    rw[jJ VG];rfl
   have hb:den E (DQ w.heap.size) (.sy (.bool (false=true)))=some (.bool false):=by
    show some (Value.bool (aC (false=true)))=_
    rw[aac]
   simp only[pf,acG,List.flatten_nil,List.append_nil]
   refine bA hi (bA hb (bA rfl (bA rfl (bA rfl (bA rfl (bA rfl (bA rfl (bA rfl (bA rfl (bA rfl (bA rfl (bA hb (bA rfl rfl)))))))))))))
  |1,hi=>
   have hi:some _=some o':=hi
   cases hi
   exact⟨⟨0,0⟩,rfl,.inr ⟨rfl,rfl,by decide⟩⟩
  |2,hi=>
   have hi:some _=some o':=hi
   cases hi
   exact⟨⟨0,0⟩,rfl,.inr ⟨rfl,rfl,by decide⟩⟩
  |n+3,hi=>rw[show(aU pf).get (n+3)=none from Mr _ _ _ n]at hi;cases hi
 ·have key:∀(i:Nat) (e:dH) (o:AObj),(aU pf).get i=some o→DQ w.heap.size i=some e→cd e o=true→i=0:=fun i e o h1 h2 h3=>by
   match i,h1,h2 with
   |0,_,_=>rfl
   |1,h1,h2=>
    have h1:some _=some o:=h1
    have h2:some (⟨0,0⟩:dH)=some e:=h2
    cases h1;cases h2;cases h3
   |2,h1,h2=>
    have h1:some _=some o:=h1
    have h2:some (⟨0,0⟩:dH)=some e:=h2
    cases h1;cases h2;cases h3
   |n+3,h1,_=>rw[show(aU pf).get (n+3)=none from Mr _ _ _ n]at h1;cases h1
  rw[key i e o1 h1 h3 h5,key j f o2 h2 h4 h6]
 ·unfold DQ
  rw[if_neg (by omega),if_neg (by omega)]
def aab (t r:ByteArray) (rd:ah):Prop:=jN rd∧(rd.os.length+r.size≤70000∧r.size≤70000)∧(0≤rd.line∧rd.line+r.size≤70000)∧∀o m,dt (dB rd) (rd.line+1) r.data.toList o m→dt eF 1 t.data.toList o m
def JJ (E0:Env) (G:GS) (F:List aA) (z:Nat) (t r b:ByteArray) (o:Obj) (W:World):Prop:=
 ∃E ρ rd cp,dV E∧MLe E0.M E.M∧Sim E ρ G (ng z b o 0 F) (aU rd) 3 W∧ρ 0=some ⟨z+2,cp⟩∧aab t r rd∧b.size≤100000
def JX (E0:Env) (G:GS) (F:List aA) (z:Nat) (t:ByteArray) (o:Obj) (W:World):Prop:=
 ∃E m b,dV E∧MLe E0.M E.M∧Holds {G with M:=E.M} W (ng z b o m F)∧dt eF 1 t.data.toList jO m
section
variable {E0:Env} {G:GS} {F:List aA} {z:Nat} {t:ByteArray}
theorem np {E:Env} {ρ:Go.Sy.Ren} {M:T} {nx:Nat} {W:World} {F':List aA} (h:Sim E ρ G F' M nx W) {p:Nat×Obj} (hp:p∈F'.flatten):W.heap[p.1]?=some p.2:=by
 obtain⟨c,hh,_,_⟩:=h.ex
 exact hh.own p (by simp only[acG,List.mem_append];exact .inr hp)
theorem j_l (r b:ByteArray) (o:Obj) (W:World) (h:JJ E0 G F z t r b o W):W.heap[z+6]?=some o:=by
 obtain⟨E,ρ,rd,cp,_,_,hs,_⟩:=h
 exact np hs (p:=(z+6,o)) (by simp[ng])
theorem j_D (r b:ByteArray) (o:Obj) (W:World) (h:JJ E0 G F z t r b o W):W.heap[z+5]?=some (.deferred (some [])):=by
 obtain⟨E,ρ,rd,cp,_,_,hs,_⟩:=h
 exact np hs (p:=(z+5,.deferred (some []))) (by simp[ng])
theorem tN {w:World} {b:Nat} {o o':Obj} {G':GS} {H H':List aA} (h:Holds G' w (H++[(b,o)]::H')):Holds G' (w.putObj b o') (H++[(b,o')]::H'):=by
 have hb:w.heap[b]?=some o:=h.own (b,o) (by simp)
 exact h.upd rfl rfl rfl (fun k _ hk=>World.putObj_heap_other hk) (World.putObj_heap_same (bu hb))
theorem pN {w:World} {b of:Nat} {c:Array Value} {T:TypeId} {v:Value} {G':GS} {H H':List aA} (h:Holds G' w (H++[(b,.cells c T)]::H')):Holds G' (w.setCell ⟨b,of,none⟩ v) (H++[(b,.cells (c.setIfInBounds of v) T)]::H'):=by
 have hb:w.heap[b]?=some (.cells c T):=h.own (b,.cells c T) (by simp)
 exact h.upd rfl rfl rfl (fun k _ hk=>FW _ hk) (Jd _ hb)
theorem abZ (r b:ByteArray) (o o':Obj) (W:World) (h:JJ E0 G F z t r b o W):JJ E0 G F z t r b o' (W.putObj (z+6) o'):=by
 obtain⟨E,ρ,rd,cp,h1,h2,hs,h3⟩:=h
 exact⟨E,ρ,rd,cp,h1,h2,Sim.frame hs rfl fun c hh=>tN (H:=[c]) hh,h3⟩
theorem abY (r b b':ByteArray) (o:Obj) (W:World) (hb:b'.size≤100000) (h:JJ E0 G F z t r b o W):JJ E0 G F z t r b' o (W.setCell ⟨z+4,0,none⟩ (.string b')):=by
 obtain⟨E,ρ,rd,cp,h1,h2,hs,h3,h4,h5⟩:=h
 exact⟨E,ρ,rd,cp,h1,h2,Sim.frame hs rfl fun c hh=>pN (H:=[c,[(z+6,o)],[(z+5,.deferred (some []))]]) hh,h3,h4,hb⟩
theorem ab0 (r b:ByteArray) (o:Obj) (W:World) (h:JJ E0 G F z t r b o W):JJ E0 G F z t r b o W.drew:=by
 obtain⟨E,ρ,rd,cp,h1,h2,hs,h3⟩:=h
 exact⟨E,ρ,rd,cp,h1,h2,Sim.frame hs rfl fun c hh=>hh.drew,h3⟩
theorem ab1 (r b:ByteArray) (o:Obj) (W:World) (h:JJ E0 G F z t r b o W):ON W (z+4) b∧b.size≤100000:=by
 obtain⟨E,ρ,rd,cp,_,_,hs,_,_,h5⟩:=h
 have hb:=np hs (p:=(z+4,.cells #[.string b] 9)) (by simp[ng])
 exact⟨⟨by simp[World.cell?,hb],by simp[World.frozen?,hb]⟩,h5⟩
theorem x_l (o:Obj) (W:World) (h:JX E0 G F z t o W):W.heap[z+6]?=some o:=by
 obtain⟨E,m,b,_,_,hh,_⟩:=h
 exact hh.own (z+6,o) (by simp[ng])
theorem x_D (o:Obj) (W:World) (h:JX E0 G F z t o W):W.heap[z+5]?=some (.deferred (some [])):=by
 obtain⟨E,m,b,_,_,hh,_⟩:=h
 exact hh.own (z+5,.deferred (some [])) (by simp[ng])
theorem abH (o o':Obj) (W:World) (h:JX E0 G F z t o W):JX E0 G F z t o' (W.putObj (z+6) o'):=by
 obtain⟨E,m,b,h1,h2,hh,h3⟩:=h
 exact⟨E,m,b,h1,h2,tN (H:=[]) hh,h3⟩
end
theorem Qg {E:Env} {ρ:Go.Sy.Ren} {G:GS} {F:List aA} {rd:ah} {W:World} {B cp:Nat} {u:List UInt8} (hE:dV E) (hs:Sim E ρ G F (aU rd) 3 W) (hρ:ρ 0=some ⟨B,cp⟩) (h1:u.length≤90000) (h2:jN rd) (h3:rd.os.length≤99999):
  Calls Tryz.prog 18 #[.pointer (some ⟨B,0,none⟩),.string ⟨u.toArray⟩] W fun e W'=>∃b,e= .returned (.bool b)∧∃E' ρ' t,dV E'∧MLe E.M E'.M∧Sim E' ρ' G F (aU t) 3 W'∧ρ' 0=some ⟨B,cp⟩∧Eg rd t u (b=true):=by
 refine Qt [.ptr 0 0,.sy (.str u)] [.pointer (some ⟨B,0,none⟩),.string ⟨u.toArray⟩] E ρ G F (aU rd) 3 W (fun v M nx=>aC (∃t q,v= .sy (.bool q)∧M=aU t∧nx=3∧Eg rd t u q)) _ hE hs ?_ ?_ ?_
 ·exact bA (by simp[den,hρ]) (bA rfl rfl)
 ·exact aK (⟨rd,u⟩:wo) (ba rfl (ba ⟨h1,h2,h3⟩ (az fun r=>QQ (fun hp=>prB_true.2 ⟨_,_,rfl,rfl,rfl,hp⟩) fun _=>rfl)))
 ·intro v M' nx' E' ρ' w' z hk h4 h5 h6 h7 h8
  obtain⟨t,q,rfl,rfl,rfl,hp⟩:=prB_true.1 hk
  have h8:some (Value.bool (aC q))=some z:=h8
  cases h8
  refine⟨_,rfl,E',ρ',t,h4,h5,h7,h6 0 _ (by decide) hρ,?_⟩
  have e:(aC q=true)=q:=by simp[aC]
  rw[e];exact hp
theorem Wc {r:ByteArray} {i:Nat} (h:Lib.indexByte r.data.toList 10=(i:Int)):∃u v,r.data.toList=u++10::v∧(10:UInt8)∉u∧(r.extract (i+1) r.size).data.toList=v∧(r.extract (i+1) r.size).size=v.length∧
  Lib.hasSuffix (r.extract 0 (i+1)).data.toList [10]=true∧(⟨(Lib.trimSuffix (r.extract 0 (i+1)).data.toList [10]).toArray⟩:ByteArray)=⟨u.toArray⟩∧r.size=u.length+v.length+1:=by
 obtain⟨h1,h2⟩:=Lib.indexByte_some h
 have hi:=(List.getElem?_eq_some_iff.1 h1).1
 have hd:r.data.toList.drop i=10::r.data.toList.drop (i+1):=by rw[List.drop_eq_getElem_cons hi,(List.getElem?_eq_some_iff.1 h1).2]
 have e0:r.data.toList=r.data.toList.take i++10::r.data.toList.drop (i+1):=by rw[←hd,List.take_append_drop]
 have e1:(r.extract 0 (i+1)).data.toList=r.data.toList.take i++[10]:=by
  rw[Lib.extract_data,List.drop_zero,Nat.sub_zero,List.take_add_one,h1];rfl
 have hs:Lib.hasSuffix (r.data.toList.take i++[10]) [10]=true:=by
  rw[Lib.hasSuffix,List.isSuffixOf_iff_suffix]
  exact⟨_,rfl⟩
 refine⟨r.data.toList.take i,r.data.toList.drop (i+1),e0,fun hm=> ?_,Lib.extract_to_end _ _,?_,by rw[e1];exact hs,?_,?_⟩
 ·obtain⟨k,hk⟩:=List.mem_iff_getElem?.1 hm
  have hlt:k<i:=by
   have:=(List.getElem?_eq_some_iff.1 hk).1
   simp at this;omega
  rw[List.getElem?_take_of_lt hlt]at hk
  exact h2 k hlt hk
 ·rw[Lib.size_eq,Lib.extract_to_end]
 ·rw[e1,Lib.trimSuffix,if_pos hs]
  simp
 ·have:=congrArg List.length e0
  rw[acA,acB]at this
  rw[Lib.size_eq];omega
theorem Wb {r:ByteArray} (h:Lib.indexByte r.data.toList 10<0):(10:UInt8)∉r.data.toList∧Lib.hasSuffix r.data.toList [10]=false:=by
 have h0:(10:UInt8)∉r.data.toList:=fun hm=>by
  obtain⟨k,hk⟩:=List.mem_iff_getElem?.1 hm
  have hlt:=(List.getElem?_eq_some_iff.1 hk).1
  rcases Lib.index_spec r.data.toList [10] with⟨h1,_⟩|⟨i,h1,_⟩
  ·rw[Lib.index_one]at h1
   exact Lib.indexByte_none h1 k hk
  ·rw[Lib.index_one]at h1
   omega
 refine⟨h0,?_⟩
 cases hs:Lib.hasSuffix r.data.toList [10] with
 |false=>rfl
 |true=>
  rw[Lib.hasSuffix,List.isSuffixOf_iff_suffix]at hs
  obtain⟨p,hp⟩:=hs
  exact absurd (by rw[←hp];simp) h0
theorem sw {G:GS} {W:World} {z:Nat} {b:ByteArray} {o:Obj} {n:Int} {F:List aA} (hh:Holds G W (ng z b o n F)):
  W.cell? ⟨z+1+1+1,0,none⟩=some (.pointer (some ⟨z+1+1,0,none⟩))∧(∀k v,zV[k]?=some v→W.cell? ⟨z,k,none⟩=some v)∧(∀k,W.frozen? ⟨z,k,none⟩=false)∧W.cell? ⟨z+1,0,none⟩=some (.int .i64 n)∧W.frozen? ⟨z+1,0,none⟩=false:=by
 have h3:=hh.own (z+3,.cells #[.pointer (some ⟨z+2,0,none⟩)] 55) (by simp[ng])
 have h0:=hh.own (z,.cells zV 29) (by simp[ng])
 have h1:=hh.own (z+1,.cells #[.int .i64 n] 3) (by simp[ng])
 refine⟨by simp[World.cell?,h3],fun k v hk=>by simp[World.cell?,h0,hk],fun k=>by simp[World.frozen?,h0],by simp[World.cell?,h1],by simp[World.frozen?,h1]⟩
theorem bK {G:GS} {W:World} {z k:Nat} {b:ByteArray} {o:Obj} {n:Int} {F:List aA} {v:Value} (hh:Holds G W (ng z b o n F)) (hv:zV[k]?=some v):Holds G (W.setCell ⟨z,k,none⟩ v) (ng z b o n F):=by
 have h:=pN (of:=k) (v:=v) (H:=[[(z+6,o)],[(z+5,.deferred (some []))],[(z+4,.cells #[.string b] 9)],[(z+3,.cells #[.pointer (some ⟨z+2,0,none⟩)] 55)],[(z+1,.cells #[.int .i64 n] 3)]]) hh
 have e:zV.setIfInBounds k v=zV:=by
  apply Array.ext_getElem?
  intro i
  rw[Array.getElem?_setIfInBounds]
  by_cases q:k=i
  ·subst q
   rw[if_pos rfl,hv]
   have:=(Array.getElem?_eq_some_iff.1 hv).1
   rw[if_pos this]
  ·rw[if_neg q]
 rw[e]at h
 exact h
theorem zp {G:GS} {W:World} {z:Nat} {b:ByteArray} {o:Obj} {n m:Int} {F:List aA} (hh:Holds G W (ng z b o n F)):Holds G (W.setCell ⟨z+1,0,none⟩ (.int .i64 m)) (ng z b o m F):=
 pN (of:=0) (v:=.int .i64 m) (H:=[[(z+6,o)],[(z+5,.deferred (some []))],[(z+4,.cells #[.string b] 9)],[(z+3,.cells #[.pointer (some ⟨z+2,0,none⟩)] 55)]]) hh
theorem iY {E:Env} {ρ:Go.Sy.Ren} {G:GS} {F:List aA} {M:T} {nx:Nat} {W:World} (h:Sim E ρ G F M nx W):Holds {G with M:=E.M} W F:=by
 obtain⟨c,hh,_,_⟩:=h.ex
 exact hh.drop
end Go.Proofs.YtacomabmhnodlaaGreatDoor
namespace Go.Proofs.YtacomabmhnodlaaGreatDoor
open Go Go.RowKit Go.Shelf Go.Sy Go.Proofs.Tryz
open Go.Eng hiding am
attribute [local go_sem] Oper.semAt_some
def li (rd:ah):yC:=(rd.gs,⟨rd.clients,rd.window,rd.deadline,rd.pace,rd.again,rd.bag,rd.first⟩,rd.os.map be)
noncomputable def uo (rd:ah):List AV:=[.sy (.prow 1 rd.gs.length),.sy (.int 0 rd.clients),.sy (.int 0 rd.window),.sy (.int 0 rd.deadline),.sy (.int 0 rd.pace),.sy (.int 0 rd.again),.sy (.int 0 rd.bag),.sy (.int 4 rd.first),.sy (.prow 2 rd.os.length)]
theorem SC {t:ByteArray} (h:t.size≤70000):aab t t pf:=
 ⟨⟨by simp[pf],⟨fun q=>(by cases q),fun q=>by simp[pf]at q⟩,by simp[pf],by simp[pf]⟩,⟨by simp[pf];omega,h⟩,⟨by simp[pf],by simp[pf];omega⟩,fun o m h=>h⟩
theorem tM {E:Env} {ρ:Go.Sy.Ren} {G:GS} {F:List aA} {rd:ah} {W:World} {z cp:Nat} (hs:Sim E ρ G F (aU rd) 3 W) (hρ:ρ 0=some ⟨z+2,cp⟩):W.cell? ⟨z+1+1,13,none⟩=some (.int .i64 rd.line)∧W.frozen? ⟨z+1+1,13,none⟩=false:=by
 obtain⟨e,x,h1,h2,h3⟩:=hs.cell (i:=0) (q:=0) (r:=13) rfl rfl rfl
 obtain⟨e',arr,xs,h4,h5,_⟩:=hs.cellsAt (i:=0) rfl
 rw[hρ]at h1 h4
 cases h1;cases h4
 have h2:some (Value.int .i64 rd.line)=some x:=h2
 cases h2
 exact⟨by simpa using h3,by simp[World.frozen?,h5]⟩
theorem oi {E:Env} {ρ:Go.Sy.Ren} {G:GS} {F:List aA} {rd:ah} {W:World} {z cp:Nat} (hs:Sim E ρ G F (aU rd) 3 W) (hρ:ρ 0=some ⟨z+2,cp⟩) (j:Nat) {v:AV} {el:List AV} (hel:(aU rd).get 0=some (.blk false 60 14 [el])) (hv:el[j]?=some v):∃x,den E ρ v=some x∧W.cell? ⟨z+1+1,j,none⟩=some x:=by
 obtain⟨e,x,h1,h2,h3⟩:=hs.cell (i:=0) (q:=0) (r:=j) hel rfl hv
 rw[hρ]at h1
 cases h1
 exact⟨x,h2,by simpa using h3⟩
theorem Fq {E:Env} {ρ:Go.Sy.Ren} {i n:Nat} {x:Value} (h:den E ρ (.sy (.prow i n))=some x):∃ao c,x= .slice ao n c:=by
 have h:(match ρ i with|some e=>lj e n|none=>none)=some x:=h
 split at h
 ·rcases dY h with⟨_,rfl,rfl⟩|⟨c,_,rfl⟩
  ·exact⟨none,0,rfl⟩
  ·exact⟨_,c,rfl⟩
 ·cases h
theorem SA {E:Env} {ρ:Go.Sy.Ren} {G:GS} {F:List aA} {rd:ah} {W:World} {z cp:Nat} (hs:Sim E ρ G F (aU rd) 3 W) (hρ:ρ 0=some ⟨z+2,cp⟩):
  ∃xo xc yo yc,den E ρ (.agg (uo rd))=some (.agg #[.slice xo rd.gs.length xc,.int .i64 rd.clients,.int .i64 rd.window,.int .i64 rd.deadline,.int .i64 rd.pace,.int .i64 rd.again,.int .i64 rd.bag,.int .u64 rd.first,.slice yo rd.os.length yc])∧
   W.cell? ⟨z+1+1,2,none⟩=some (.slice xo rd.gs.length xc)∧W.cell? ⟨z+1+1,3,none⟩=some (.int .i64 rd.clients)∧W.cell? ⟨z+1+1,4,none⟩=some (.int .i64 rd.window)∧W.cell? ⟨z+1+1,5,none⟩=some (.int .i64 rd.deadline)∧W.cell? ⟨z+1+1,6,none⟩=some (.int .i64 rd.pace)∧
   W.cell? ⟨z+1+1,7,none⟩=some (.int .i64 rd.again)∧W.cell? ⟨z+1+1,8,none⟩=some (.int .i64 rd.bag)∧W.cell? ⟨z+1+1,9,none⟩=some (.int .u64 rd.first)∧W.cell? ⟨z+1+1,10,none⟩=some (.slice yo rd.os.length yc)∧W.cell? ⟨z+1+1,12,none⟩=some (.bool (aC rd.op)):=by
 obtain⟨x,a2,b2⟩:=oi hs hρ 2 rfl rfl
 obtain⟨x3,a3,b3⟩:=oi hs hρ 3 rfl rfl
 obtain⟨x4,a4,b4⟩:=oi hs hρ 4 rfl rfl
 obtain⟨x5,a5,b5⟩:=oi hs hρ 5 rfl rfl
 obtain⟨x6,a6,b6⟩:=oi hs hρ 6 rfl rfl
 obtain⟨x7,a7,b7⟩:=oi hs hρ 7 rfl rfl
 obtain⟨x8,a8,b8⟩:=oi hs hρ 8 rfl rfl
 obtain⟨x9,a9,b9⟩:=oi hs hρ 9 rfl rfl
 obtain⟨y,a10,b10⟩:=oi hs hρ 10 rfl rfl
 obtain⟨x12,a12,b12⟩:=oi hs hρ 12 rfl rfl
 have c3:x3= .int .i64 rd.clients:=(acY a3).symm
 have c4:x4= .int .i64 rd.window:=(acY a4).symm
 have c5:x5= .int .i64 rd.deadline:=(acY a5).symm
 have c6:x6= .int .i64 rd.pace:=(acY a6).symm
 have c7:x7= .int .i64 rd.again:=(acY a7).symm
 have c8:x8= .int .i64 rd.bag:=(acY a8).symm
 have c9:x9= .int .u64 rd.first:=(acY a9).symm
 have c12:x12= .bool (aC rd.op):=(acY a12).symm
 subst c3;subst c4;subst c5;subst c6;subst c7;subst c8;subst c9;subst c12
 obtain⟨xo,xc,rfl⟩:=Fq a2
 obtain⟨yo,yc,rfl⟩:=Fq a10
 refine⟨xo,xc,yo,yc,?_,b2,b3,b4,b5,b6,b7,b8,b9,b10,b12⟩
 have hl:aJ E ρ (uo rd)=some [.slice xo rd.gs.length xc,.int .i64 rd.clients,.int .i64 rd.window,.int .i64 rd.deadline,.int .i64 rd.pace,.int .i64 rd.again,.int .i64 rd.bag,.int .u64 rd.first,.slice yo rd.os.length yc]:=
  bA a2 (bA a3 (bA a4 (bA a5 (bA a6 (bA a7 (bA a8 (bA a9 (bA a10 rfl))))))))
 simp only[den,hl]
theorem jP {G:GS} {W:World} {z k:Nat} {b:ByteArray} {o:Obj} {n:Int} {F:List aA} {v:Value} {c:aA} {x:Array Value} (hh:Holds G W (c::[(z+6,o)]::[(z+5,.deferred (some []))]::[(z+4,.cells #[.string b] 9)]::[(z+3,.cells #[.pointer (some ⟨z+2,0,none⟩)] 55)]::[(z+1,.cells #[.int .i64 n] 3)]::[(z,.cells x 29)]::F)):
  Holds G (W.setCell ⟨z,k,none⟩ v) (c::[(z+6,o)]::[(z+5,.deferred (some []))]::[(z+4,.cells #[.string b] 9)]::[(z+3,.cells #[.pointer (some ⟨z+2,0,none⟩)] 55)]::[(z+1,.cells #[.int .i64 n] 3)]::[(z,.cells (x.setIfInBounds k v) 29)]::F):=
 pN (of:=k) (v:=v) (H:=[c,[(z+6,o)],[(z+5,.deferred (some []))],[(z+4,.cells #[.string b] 9)],[(z+3,.cells #[.pointer (some ⟨z+2,0,none⟩)] 55)],[(z+1,.cells #[.int .i64 n] 3)]]) hh
theorem ab8:Go.Eng.szOf Tryz.prog 29=some 9:=by kernel_rfl
theorem acw:Go.Eng.isAg Tryz.prog 29=some true:=by kernel_rfl
theorem ag3:Go.Eng.isAg Tryz.prog 3=some false:=by kernel_rfl
theorem DS {fn:Func} {W:World} {tmps:Array Value} {z:Nat} {c0 c1 c2 c3 c4 c5 c6 c7 c8 v:Value} (hr:fn.results= #[.cell 2 29,.cell 3 3]) (h2:tmps.getD 2 undef= .pointer (some ⟨z,0,none⟩)) (h3:tmps.getD 3 undef= .pointer (some ⟨z+1,0,none⟩))
  (hc:W.heap[z]?=some (.cells #[c0,c1,c2,c3,c4,c5,c6,c7,c8] 29)) (hv:W.heap[z+1]?=some (.cells #[v] 3)):(results fn tmps).run Tryz.prog W= .ok (.tuple #[.agg #[c0,c1,c2,c3,c4,c5,c6,c7,c8],v]) W:=by
 have e1:=Go.Eng.run_loadVarAgg (P:=Tryz.prog) (w:=W) (b:=z) (o:=0) (cs:=[c0,c1,c2,c3,c4,c5,c6,c7,c8]) acw ab8 rfl fun j x hj=>by
  rw[Nat.zero_add];simp[World.cell?,hc];exact hj
 have e2:=Go.Eng.run_loadVarOne (P:=Tryz.prog) (w:=W) (b:=z+1) (o:=0) (v:=v) ag3 (by simp[World.cell?,hv])
 simp only[Array.getD_eq_getD_getElem?]at h2 h3
 simp[results,hr,h2,h3,asAddr,e1,e2]
set_option maxRecDepth 100000 in
set_option maxHeartbeats 4000000 in
theorem aae (t:ByteArray) (ht:t.size≤70000) {E0:Env} {G:GS} {F:List aA} {w:World} (hE:dV E0) (hm:MLe G.M E0.M) (hh:Holds {G with M:=E0.M} w F) (R:Ending→World→Prop)
  (hfail:∀E m w',dV E→MLe E0.M E.M→Holds {G with M:=E.M} w' F→dt eF 1 t.data.toList jO m→R (.returned (.tuple #[.agg zV,.int .i64 m])) w')
  (hok:∀E ρ rd w' z,dV E→MLe E0.M E.M→Sim E ρ G F (aU rd) 3 w'→jN rd→rd.os.length≤70000→dt eF 1 t.data.toList (li rd) 0→den E ρ (.agg (uo rd))=some z→R (.returned (.tuple #[z,.int .i64 0])) w'):Calls Tryz.prog 6 #[.string t] w R:=by
 refine(callsIn_wide (n:=4)).1 ?_
 refine callsIn_of_wp_marks Tryz.func6 rfl trivial ?_ rfl
 simp only[Tryz.ntmps6,List.size_toArray,acB,acD,Nat.reduceAdd,Nat.reduceSub,Array.replicate_succ,Array.replicate_zero,List.push_toArray,List.append_toArray,acK,acI]
 gi_wp2_with (refine⟨trivial,?_⟩;gi_at_call 16;refine(callsIn_wide.2 (Wa _ _)).mono ?_;rintro e w' ⟨rfl,rfl⟩)
 generalize hw5:World.alloc _ (Obj.cells #[Value.string t] 9)=w5
 have hsz:w5.heap.size=w.heap.size+5:=by rw[←hw5];simp only[World.size_alloc]
 have hst:∀o,Sim E0 (DQ w.heap.size) G (ng w.heap.size t o 0 F) (aU pf) 3 ((w5.alloc (.deferred (some []))).alloc o):=fun o=>by rw[←hw5];exact PP hm hh t o
 refine Ch (Bs:=w.heap.size+1+1+1+1) rfl rfl (JJ E0 G F w.heap.size t) (JX E0 G F w.heap.size t) (fun r b o W h=>by rw[hsz];exact j_l r b o W h) (fun r b o o' W h=>by rw[hsz];exact abZ r b o o' W h) (fun r b b' o W hb h=>abY r b b' o W hb h) (fun r b o W h=>ab0 r b o W h) (fun r b o W h=>ab1 r b o W h) (fun r b o W h=>by rw[hsz];exact j_D r b o W h)
  (fun o W h=>by rw[hsz];exact x_l o W h) (fun o o' W h=>by rw[hsz];exact abH o o' W h) t (fun o=>⟨E0,_,pf,0,hE,MLe.refl _,hst o,rfl,SC ht,by omega⟩)
  (fun x=>{tmps:= #[Value.string t,undef,Value.pointer (some {block:=w.heap.size,off:=0}),Value.pointer (some {block:=w.heap.size+1,off:=0}),Value.pointer (some {block:=w.heap.size+1+1+1,off:=0}),.string x,undef,undef,
     Value.agg rV,Value.pointer (some {block:=w.heap.size+1+1,off:=0}),Value.string t,
     Value.func (Fn.func 44) #[] #[Value.pointer (some {block:=w.heap.size+1+1+1+1,off:=0})],.string x,
     undef,undef,undef,undef,undef,undef,undef,undef,undef,undef,undef,undef,undef,undef,undef,
     undef,undef,undef,undef,undef,undef,undef,undef,undef,undef,undef,undef,undef,undef,undef,
     undef,undef,undef,undef,undef,undef,undef,undef,undef,undef],defers:=[]}) ?assign ?body ?last ?done ?stop
 case assign=>
  intro l x W K hK
  gi_wp2
  exact hK
 case body=>
  intro i r o W hi hJ
  obtain⟨E,ρ,rd,cp,e1,e2,hs,hρ,hp,hb⟩:=hJ
  obtain⟨u,v,l1,l2,l3,l4,l5,l6,l7⟩:=Wc hi
  obtain⟨hrd,hos,hln,hres⟩:=hp
  have hc4:W.cell? ⟨w.heap.size+1+1+1,0,none⟩=some (.pointer (some ⟨w.heap.size+1+1,0,none⟩)):=by
   have:=np hs (p:=(w.heap.size+3,.cells #[.pointer (some ⟨w.heap.size+2,0,none⟩)] 55)) (by simp[ng])
   simp[World.cell?,this]
  obtain⟨hline,hfz⟩:=tM hs hρ
  have hi2:r.extract 0 (i+1)=r.extract 0 (i+1):=rfl
  have hxs:(r.extract 0 (i+1)).size≤9223372036854775807:=by rw[ByteArray.size_extract];omega
  have hs1:=Hz hs hρ (rd.line+1)
  have hone:=Qg (u:=u) e1 hs1 hρ (by omega) hrd (by simp only;omega)
  gi_wp2_with (first
   |(refine⟨trivial,?_⟩;gi_at_call 17;refine(CallsIn.inRound _ (callsIn_wide.2 (Tryz.strings_CutSuffix _ ⟨#[10]⟩ _ hxs))).mono ?_;rintro e w' ⟨rfl,rfl⟩;rw[l5,l6])
   |(refine⟨trivial,?_⟩;gi_at_call 18;refine(CallsIn.inRound _ (callsIn_wide.2 hone)).mono ?_;rintro e w' ⟨b,rfl,hb⟩))
  ·obtain⟨E',ρ',t',f1,f2,f3,f4,f5⟩:=hb
   obtain⟨k1,k2,k3,k4,k5⟩:=sw (iY f3)
   obtain⟨k6,k7⟩:=tM f3 f4
   have y0:=k2 0 _ rfl
   have y1:=k2 1 _ rfl
   have y2:=k2 2 _ rfl
   have y3:=k2 3 _ rfl
   have y4:=k2 4 _ rfl
   have y5:=k2 5 _ rfl
   have y6:=k2 6 _ rfl
   have y7:=k2 7 _ rfl
   have y8:=k2 8 _ rfl
   have v0:=k3 0
   have v1:=k3 1
   have v2:=k3 2
   have v3:=k3 3
   have v4:=k3 4
   have v5:=k3 5
   have v6:=k3 6
   have v7:=k3 7
   have v8:=k3 8
   have hr:∀(hb:¬b=true),dt eF 1 t.data.toList jO t'.line:=fun hb=>by
    rw[show t'.line=rd.line+1 from f5.1]
    refine hres _ _ ?_
    rw[l1]
    exact .bad _ _ _ _ l2 (f5.2.2 hb)
   gi_region
   all_goals
    gi_wp2
    refine⟨E',t'.line,r.extract (i+1) r.size,f1,MLe.trans e2 f2,?_,hr (fun q=>by rename_i hbn;rw[q]at hbn;cases hbn)⟩
    exact Holds.drew (zp (n:=0) (bK (k:=8) (bK (k:=7) (bK (k:=6) (bK (k:=5) (bK (k:=4) (bK (k:=3) (bK (k:=2) (bK (k:=1) (bK (k:=0) (iY f3) rfl) rfl) rfl) rfl) rfl) rfl) rfl) rfl) rfl))
  ·obtain⟨E',ρ',t',f1,f2,f3,f4,f5⟩:=hb
   have hbt:b=true:=by rename_i hbn;cases b;exact absurd hbn (by decide);rfl
   obtain⟨⟨g1,g2⟩,g3⟩:=f5.2.1 hbt
   have g4:t'.line=rd.line+1:=f5.1
   refine⟨E',ρ',t',cp,f1,MLe.trans e2 f2,f3,f4,⟨g1,⟨by simp only at g2;omega,by omega⟩,⟨by omega,by omega⟩,fun o m h=>hres o m ?_⟩,by omega⟩
   rw[l1]
   rw[l3,g4]at h
   exact .good _ _ _ _ _ _ _ l2 g3 h
 case last=>
  intro r o W hsz0 hi hJ
  obtain⟨E,ρ,rd,cp,e1,e2,hs,hρ,hp,hb⟩:=hJ
  obtain⟨l1,l2⟩:=Wb hi
  obtain⟨hrd,hos,hln,hres⟩:=hp
  have hc4:W.cell? ⟨w.heap.size+1+1+1,0,none⟩=some (.pointer (some ⟨w.heap.size+1+1,0,none⟩)):=(sw (iY hs)).1
  obtain⟨hline,hfz⟩:=tM hs hρ
  have hxs:r.size≤9223372036854775807:=by omega
  have hs1:=Hz hs hρ (rd.line+1)
  gi_wp2_with (first
   |(refine⟨trivial,?_⟩;gi_at_call 17;refine(CallsIn.inRound _ (callsIn_wide.2 (Tryz.strings_CutSuffix _ ⟨#[10]⟩ _ hxs))).mono ?_;rintro e w' ⟨rfl,rfl⟩;rw[l2])
   |(refine⟨trivial,?_⟩))
  ·obtain⟨k1,k2,k3,k4,k5⟩:=sw (iY hs1)
   obtain⟨k6,k7⟩:=tM hs1 hρ
   have y0:=k2 0 _ rfl
   have y1:=k2 1 _ rfl
   have y2:=k2 2 _ rfl
   have y3:=k2 3 _ rfl
   have y4:=k2 4 _ rfl
   have y5:=k2 5 _ rfl
   have y6:=k2 6 _ rfl
   have y7:=k2 7 _ rfl
   have y8:=k2 8 _ rfl
   have v0:=k3 0
   have v1:=k3 1
   have v2:=k3 2
   have v3:=k3 3
   have v4:=k3 4
   have v5:=k3 5
   have v6:=k3 6
   have v7:=k3 7
   have v8:=k3 8
   have hr:dt eF 1 t.data.toList jO (rd.line+1):=hres _ _ (.open_ _ _ _ (fun q=>by rw[Lib.size_eq,q]at hsz0;exact absurd hsz0 (by decide)) l1)
   gi_region
   all_goals
    gi_wp2
    refine⟨E,rd.line+1,⟨#[]⟩,e1,e2,?_,hr⟩
    exact Holds.drew (zp (n:=0) (bK (k:=8) (bK (k:=7) (bK (k:=6) (bK (k:=5) (bK (k:=4) (bK (k:=3) (bK (k:=2) (bK (k:=1) (bK (k:=0) (iY hs1) rfl) rfl) rfl) rfl) rfl) rfl) rfl) rfl) rfl))
 case done=>
  intro r o W hs0 hJ
  obtain⟨E,ρ,rd,cp,e1,e2,hs,hρ,hp,hb⟩:=hJ
  obtain⟨hrd,hos,hln,hres⟩:=hp
  have hD:=j_D _ _ _ _ (E0:=E0) (G:=G) (F:=F) (t:=t) ⟨E,ρ,rd,cp,e1,e2,hs,hρ,⟨hrd,hos,hln,hres⟩,hb⟩
  obtain⟨hc4,k2,k3,k4,k5⟩:=sw (iY hs)
  obtain⟨hline,hfz⟩:=tM hs hρ
  obtain⟨xo,xc,yo,yc,hden,q2,q3,q4,q5,q6,q7,q8,q9,q10,q12⟩:=SA hs hρ
  have y0:=k2 0 _ rfl
  have y1:=k2 1 _ rfl
  have y2:=k2 2 _ rfl
  have y3:=k2 3 _ rfl
  have y4:=k2 4 _ rfl
  have y5:=k2 5 _ rfl
  have y6:=k2 6 _ rfl
  have y7:=k2 7 _ rfl
  have y8:=k2 8 _ rfl
  have v0:=k3 0
  have v1:=k3 1
  have v2:=k3 2
  have v3:=k3 3
  have v4:=k3 4
  have v5:=k3 5
  have v6:=k3 6
  have v7:=k3 7
  have v8:=k3 8
  by_cases hop:rd.op
  ·rw[prB_true.2 hop]at q12
   gi_wp2
   have g:=Sim.frame (G':=G) hs rfl fun c hh=>tN (o':=.deferred none) (H:=[c,[(w.heap.size+6,o)]]) (pN (of:=0) (v:=.int .i64 0) (H:=[c,[(w.heap.size+6,o)],[(w.heap.size+5,.deferred (some []))],[(w.heap.size+4,.cells #[.string r] 9)],[(w.heap.size+3,.cells #[.pointer (some ⟨w.heap.size+2,0,none⟩)] 55)]])
    (jP (k:=8) (v:=.slice yo rd.os.length yc) (jP (k:=7) (v:=.int .u64 rd.first) (jP (k:=6) (v:=.int .i64 rd.bag) (jP (k:=5) (v:=.int .i64 rd.again) (jP (k:=4) (v:=.int .i64 rd.pace) (jP (k:=3) (v:=.int .i64 rd.deadline) (jP (k:=2) (v:=.int .i64 rd.window) (jP (k:=1) (v:=.int .i64 rd.clients) (jP (k:=0) (v:=.slice xo rd.gs.length xc) hh))))))))))
   have hD2:=np (Sim.frame (G':=G) hs rfl fun c hh=>pN (of:=0) (v:=.int .i64 0) (H:=[c,[(w.heap.size+6,o)],[(w.heap.size+5,.deferred (some []))],[(w.heap.size+4,.cells #[.string r] 9)],[(w.heap.size+3,.cells #[.pointer (some ⟨w.heap.size+2,0,none⟩)] 55)]])
    (jP (k:=8) (v:=.slice yo rd.os.length yc) (jP (k:=7) (v:=.int .u64 rd.first) (jP (k:=6) (v:=.int .i64 rd.bag) (jP (k:=5) (v:=.int .i64 rd.again) (jP (k:=4) (v:=.int .i64 rd.pace) (jP (k:=3) (v:=.int .i64 rd.deadline) (jP (k:=2) (v:=.int .i64 rd.window) (jP (k:=1) (v:=.int .i64 rd.clients) (jP (k:=0) (v:=.slice xo rd.gs.length xc) hh)))))))))) (p:=(w.heap.size+5,.deferred (some []))) (by simp)
   rw[hsz]
   refine⟨by simp,.inl ⟨_,_,rfl,run_takeDeferred hD2,?_⟩⟩
   refine⟨_,DS rfl rfl rfl (np g (p:=(w.heap.size,.cells #[.slice xo rd.gs.length xc,.int .i64 rd.clients,.int .i64 rd.window,.int .i64 rd.deadline,.int .i64 rd.pace,.int .i64 rd.again,.int .i64 rd.bag,.int .u64 rd.first,.slice yo rd.os.length yc] 29)) (by simp[zV])) (np g (p:=(w.heap.size+1,.cells #[.int .i64 0] 3)) (by simp)),?_⟩
   have hz:r.data.toList=[]:=by have:=Lib.size_eq r;rw[hs0]at this;exact List.length_eq_zero_iff.1 this.symm
   exact hok E ρ rd _ _ e1 e2 (Sim.frame g rfl fun c hh=>hh.dropsnd.dropsnd.dropsnd.dropsnd.dropsnd.dropsnd) hrd (by omega) (hres _ _ (by rw[hz];exact .whole _ _ (hrd.2.1.1 hop))) hden
  ·rw[prB_false.2 hop]at q12
   have h7:¬(dB rd).set=7:=fun q=>hop (hrd.2.1.2 q)
   have hr:dt eF 1 t.data.toList jO (rd.line+1):=hres _ _ (by rw[show r.data.toList=[] from by have:=Lib.size_eq r;rw[hs0]at this;exact List.length_eq_zero_iff.1 this.symm];exact .short _ _ h7)
   gi_wp2
   gi_region
   all_goals
    gi_wp2
    have g:=tN (o':=.deferred none) (H:=[[(w.heap.size+6,o)]]) (Holds.drew (zp (n:=0) (m:=rd.line+1) (bK (k:=8) (bK (k:=7) (bK (k:=6) (bK (k:=5) (bK (k:=4) (bK (k:=3) (bK (k:=2) (bK (k:=1) (bK (k:=0) (iY hs) rfl) rfl) rfl) rfl) rfl) rfl) rfl) rfl) rfl)))
    have hD2:=(Holds.drew (zp (n:=0) (m:=rd.line+1) (bK (k:=8) (bK (k:=7) (bK (k:=6) (bK (k:=5) (bK (k:=4) (bK (k:=3) (bK (k:=2) (bK (k:=1) (bK (k:=0) (iY hs) rfl) rfl) rfl) rfl) rfl) rfl) rfl) rfl) rfl))).own (w.heap.size+5,.deferred (some [])) (by simp[ng])
    rw[hsz]
    refine⟨by simp,.inl ⟨_,_,rfl,run_takeDeferred hD2,?_⟩⟩
    refine⟨_,DS rfl rfl rfl (g.own (w.heap.size,.cells zV 29) (by simp)) (g.own (w.heap.size+1,.cells #[.int .i64 (rd.line+1)] 3) (by simp)),?_⟩
    exact hfail E _ _ e1 e2 g.drop.drop.drop.drop.drop.drop hr
 case stop=>
  intro o W hX
  have hD:=x_D _ _ hX
  obtain⟨E,m,b,e1,e2,hh,hres⟩:=hX
  rw[←hsz]at hD
  gi_wp2
  refine⟨by simp,.inl ⟨_,_,rfl,run_takeDeferred hD,?_⟩⟩
  have g:=tN (o':=.deferred none) (H:=[[(w.heap.size+6,o)]]) hh
  rw[hsz]
  refine⟨_,DS rfl rfl rfl (g.own (w.heap.size,.cells zV 29) (by simp)) (g.own (w.heap.size+1,.cells #[.int .i64 m] 3) (by simp)),?_⟩
  exact hfail E m _ e1 e2 g.drop.drop.drop.drop.drop.drop hres
noncomputable def yS:cq:=fun us _ _ K=>match us with
 |[v]=>sA v fun t=>ac (aC (t.length≤70000))
  (ac (am fun rd:ah=>aY (aC (jN rd∧rd.os.length≤70000∧dt eF 1 t (li rd) 0)) (K (.tup [.agg (uo rd),.sy (.int 0 0)]) (aU rd) 3) true)
   (am fun m:Int=>aY (aC (dt eF 1 t jO m)) (K (.tup [.agg [.nilS,.int 0 (.ofNat 0),.int 0 (.ofNat 0),.int 0 (.ofNat 0),.int 0 (.ofNat 0),.int 0 (.ofNat 0),.int 0 (.ofNat 0),.int 4 (.ofNat 0),.nilS],.sy (.int 0 m)]) .leaf 0) true))
 |_=>false
theorem IC:bR Tryz.prog 6 0 yS:=by
 intro us xs E ρ G F M nx w K R hE hs hd hk hr
 unfold yS at hk
 split at hk
 case h_2=>cases hk
 rename_i v
 obtain⟨s,e1,hk2⟩:=uL (E:=E) (ρ:=ρ) hk
 obtain⟨hl,hk3⟩:=aa hk2
 obtain⟨hk4,hk5⟩:=ai hk3
 obtain⟨x,ys,d1,d2,rfl⟩:=bh hd
 obtain rfl:ys=[]:=by simpa[aJ] using d2.symm
 obtain rfl:x=S s:=acY (d1.symm.trans e1)
 obtain⟨c,hh,_,_⟩:=hs.ex
 have hsz:ByteArray.size ⟨s.toArray⟩=s.length:=by simp[ByteArray.size]
 refine aae ⟨s.toArray⟩ (by omega) hE hs.mem hh.drop R ?_ ?_
 ·intro E' m w' h1 h2 h3 h4
  exact hr _ _ _ ⟨E.at_,E'.M⟩ (fun _=>none) w' _ (au h4 (aG hk5 m)) ⟨hE.1,h1.2⟩ h2 (fun i e h=>absurd h (Nat.not_lt_zero i)) (hs.bare (G':={G with M:=E'.M}) ⟨rfl,rfl,rfl,h2⟩ h3) (by simp[den,aJ,bb,aH,zV])
 ·intro E' ρ' rd w' z h1 h2 h3 h4 h5 h6 h7
  exact hr _ _ _ E' ρ' w' _ (au ⟨h4,h5,h6⟩ (aG hk4 rd)) h1 h2 (fun i e h=>absurd h (Nat.not_lt_zero i)) h3 (by
   have e:aJ E' ρ' [.agg (uo rd),.sy (.int 0 0)]=some [z,.int .i64 0]:=bA h7 (bA rfl rfl)
   simp only[den,e])
theorem cW {rd:ah} {c:Prop} (h:jN rd∧rd.os.length≤70000∧c):gT rd.os:=⟨by omega,fun j x hx=>h.1.2.2.2 x (acF hx)⟩
theorem cX:gT []:=⟨by simp,fun j x hx=>by simp at hx⟩
theorem dQ {rd:ah} {c:Prop} (h:jN rd∧c):rd.gs.length≤10:=by have:=h.1.1;omega
end Go.Proofs.YtacomabmhnodlaaGreatDoor
