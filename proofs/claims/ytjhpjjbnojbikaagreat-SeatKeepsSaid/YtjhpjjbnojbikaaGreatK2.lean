/- Definitions and lemmas of the proof, without a condition of their own. -/
import Derived.Test.YtjhpjjbnojbikaaGreatK1
import Derived.LoopN
import Derived.Laws.ResultCell
import Derived.RangeFuncBox
import Derived.RangeFuncLeaves
import Derived.RangeFuncFrom
import Derived.RangeFuncNested
import Derived.Shelf.Abstract
import Derived.WalkKit
import Derived.OwnWalkIn
import Derived.TacticsInMore
import Derived.LoopNIn
import Derived.LoopIn
import Derived.Maps.AppendAt
import Derived.Test.YtjhpjjbnojbikaaGreatProg
import Derived.BigRegionIn
import Derived.Stop.RegionWithIn
set_option linter.unusedSimpArgs false
set_option linter.unusedVariables false
open Bool renaming and_eq_true→aml
open Go.Result renaming andThen_ok→ame
open Go.Sem renaming run_bind→amf
open List renaming append_assoc→amb,cons_append→ama,flatten_cons→al8,length_cons→al3,length_map→al4,length_nil→al5,length_take→ami,map_cons→al9,mem_of_getElem?→al7,nil_append→amc
open Nat renaming blt_eq→amq,eq_of_beq_eq_true→al6,le_refl→amj
open Option renaming map_eq_some_iff→amd
open Option.some renaming injEq→amm
namespace Go.Sy
open Go Go.RowKit Go.Eng
noncomputable def sP (v:AV):Nat:=AV.casesOn v 0 (fun _ _=>0) (fun _=>0) (fun _=>0) (fun _ _=>0) (fun _ _ _ _=>0) (fun _=>0) 1 2 3 4 5 (fun _ _=>0) (fun _ _=>0) (fun _=>0) (fun _=>0) (fun _=>0) (fun _=>0) (fun _=>0)
noncomputable def eqC (c d:ACap):Bool:=ACap.casesOn c (fun n=>ACap.casesOn d (fun m=>Nat.beq n m) (fun _=>false)) (fun n=>ACap.casesOn d (fun _=>false) (fun m=>Nat.beq n m))
noncomputable def alV (s:SY) (v:AV):Bool:=ej v fun s'=>aq (s=s')
noncomputable def kD (u v:AV):Bool:=AV.casesOn u false (fun k a=>fD v fun k2 b=>Bool.and (Nat.beq k k2) (mn a b)) (fun a=>GB v fun b=>Bool.rec (Bool.not b) b a) (fun l=>jh v fun m=>yL l m) (fun i o=>fO v fun j p=>Bool.and (Nat.beq i j) (Nat.beq o p))
 (fun i o n c=>kz v false fun j p m d=>Bool.and (Nat.beq i j) (Bool.and (Nat.beq o p) (Bool.and (Nat.beq n m) (eqC c d)))) (fun i=>nr v false fun j=>Nat.beq i j) (Nat.beq (sP v) 1) (Nat.beq (sP v) 2) (Nat.beq (sP v) 3) (Nat.beq (sP v) 4) (Nat.beq (sP v) 5) (fun _ _=>false) (fun _ _=>false) (fun _=>false) (fun _=>false) (fun _=>false) (fun _=>false) (fun s=>alV s v)
noncomputable def UD (l m:List AV):Bool:=List.rec (motive:=fun _=>List AV→Bool) (fun m=>List.casesOn m true (fun _ _=>false)) (fun x _ ih m=>List.casesOn m false (fun y r=>Bool.and (kD x y) (ih r))) l m
noncomputable def Jm (v:AV) (K:Nat→List AV→Bool):Bool:=AV.casesOn v false (fun _ _=>false) (fun _=>false) (fun _=>false) (fun _ _=>false) (fun _ _ _ _=>false) (fun _=>false) false false false false false (fun _ _=>false) (fun g c=>K g c) (fun _=>false) (fun _=>false) (fun _=>false) (fun _=>false) (fun _=>false)
theorem De {v:AV} {K:Nat→List AV→Bool} (h:Jm v K=true):∃g c,v= .fn g c∧K g c=true:=by
 cases v<;>first|(cases h;done)|exact⟨_,_,rfl,h⟩
noncomputable def eqA (u v:AV):Bool:=AV.casesOn u false (fun _ _=>kD u v) (fun _=>kD u v) (fun _=>kD u v) (fun _ _=>kD u v) (fun _ _ _ _=>kD u v) (fun _=>kD u v) (kD u v) (kD u v) (kD u v) (kD u v) (kD u v) (fun _ _=>false) (fun f c=>Jm v fun g d=>Bool.and (Nat.beq f g) (UD c d)) (fun _=>false) (fun l=>asAgg v fun m=>UD l m) (fun _=>false) (fun _=>false) (fun _=>kD u v)
theorem agM {c d:ACap} (h:eqC c d=true):c=d:=by
 cases c<;>cases d<;>first|(cases h;done)|(have:=al6 h;subst this;rfl)
theorem ad6 {v:AV} {n:Nat} (h:Nat.beq (sP v) n=true):sP v=n:=al6 h
theorem Mp {u v:AV} (h:kD u v=true):u=v:=by
 cases u<;>first|(cases h;done)|skip
 case int k a=>
  obtain⟨k2,b,rfl,h1⟩:=eZ h
  obtain⟨h2,h3⟩:=mD h1
  rw[mj,decide_eq_true_eq]at h3
  rw[al6 h2,h3]
 case bool a=>
  obtain⟨b,rfl,h1⟩:=vF h
  cases a<;>cases b<;>first|rfl|cases h1
 case str l=>
  obtain⟨m,rfl,h1⟩:=fg h
  rw[ot,decide_eq_true_eq]at h1
  rw[h1]
 case ptr i o=>
  obtain⟨j,p,rfl,h1⟩:=eK h
  obtain⟨h2,h3⟩:=mD h1
  rw[al6 h2,al6 h3]
 case sl i o n c=>
  rcases fC h with⟨_,h1⟩|⟨j,p,m,d,rfl,h1⟩
  ·cases h1
  ·obtain⟨h2,h3⟩:=mD h1
   obtain⟨h4,h5⟩:=mD h3
   obtain⟨h6,h7⟩:=mD h5
   rw[al6 h2,al6 h4,al6 h6,agM h7]
 case map i=>
  rcases il h with⟨_,h1⟩|⟨j,rfl,h1⟩
  ·cases h1
  ·rw[al6 h1]
 case sy s=>
  obtain⟨s',rfl,h1⟩:=co (K:=fun s'=>aq (s=s')) h
  rw[prB_true.1 h1]
 all_goals
  have:=ad6 h
  cases v<;>first|rfl|cases this
theorem Cv:∀{l m:List AV},UD l m=true→l=m
 |[],[],_=>rfl
 |[],_::_,h=>by cases h
 |_::_,[],h=>by cases h
 |x::l,y::m,h=>by
  obtain⟨h1,h2⟩:=mD (a:=kD x y) (b:=UD l m) h
  rw[Mp h1,Cv h2]
theorem agO {u v:AV} (h:eqA u v=true):u=v:=by
 cases u<;>first|(cases h;done)|exact Mp (show kD _ v=true from h)|skip
 case agg l=>
  obtain⟨m,rfl,h1⟩:=dz h
  rw[Cv h1]
 case fn f c=>
  obtain⟨g,d,rfl,h1⟩:=De h
  obtain⟨h2,h3⟩:=mD h1
  rw[al6 h2,Cv h3]
abbrev fe:=Nat→List AV→T→Nat→(AV→T→Nat→Bool)→Bool
inductive XSt
 |p (i:Nat) (d:Option Nat) (g:Option (Nat×Bool)) (x:XO)|r (i:Nat) (d:Option Nat) (g:Option (Nat×Bool)) (x:XO)|e (i:Nat) (d:Option Nat) (g:Option (Nat×Bool)) (x:XO)
 |c (i:Nat) (d:Option Nat) (g:Option (Nat×Bool)) (f:Nat) (xs:List XP)|a (i d:Nat) (g:Option (Nat×Bool)) (x:XO)|k (i:Nat) (d:Option Nat) (g:Option (Nat×Bool)) (t:Nat) (fs:List Nat) (xs:List XP)
noncomputable def ff (d:Option Nat) (v:AV) (S:SL) (K:SL→Bool):Bool:=Option.casesOn d (K S) fun d=>K (.cons d v S)
theorem fT (d:Option Nat) (v:AV) (S:SL) (K:SL→Bool):ff d v S K=K (aes d v S):=by cases d<;>rfl
noncomputable def we (t:Nat) (S:SL) (K:Bool→SL→Bool):Bool:=AV.casesOn (aS t S) false (fun _ _=>false) (fun b=>K b S) (fun _=>false) (fun _ _=>false) (fun _ _ _ _=>false) (fun _=>false) false false false false false (fun _ _=>false) (fun _ _=>false) (fun _=>false) (fun _=>false) (fun _=>false) (fun _=>false)
 fun s=>SY.casesOn s (fun _ _=>false) (fun p=>aM (aq p) (K true (.cons t (.bool true) S)) (K false (.cons t (.bool false) S))) (fun _=>false) (fun _ _ _ _ _=>false) (fun _ _ _=>false) (fun _ _=>false) (fun _ _ _ _ _ _=>false) (fun _ _ _ _=>false) (fun _ _ _=>false) (fun _=>false) (fun _ _ _ _ _=>false)
noncomputable def gd (w b:Bool):Bool:=Bool.rec (Bool.not w) w b
noncomputable def Lr (v:AV):Bool:=AV.casesOn v false (fun _ _=>false) (fun _=>false) (fun _=>false) (fun _ _=>false) (fun _ _ _ _=>false) (fun _=>false) false false false false false (fun _ _=>false) (fun _ _=>false) (fun _=>false) (fun _=>false) (fun l=>List.casesOn l true fun _ _=>false) (fun _=>false) (fun _=>false)
theorem Lq {v:AV} (h:Lr v=true):v= .tup []:=by
 cases v<;>first|(cases h;done)|skip
 case tup l=>cases l<;>first|rfl|(cases h)
theorem gz (E:Env) (ρ:Ren):den E ρ (.tup [])=some undef:=by simp[den,ay,undef]
noncomputable def ma (g:Option (Nat×Bool)) (S:SL) (Kn Ky:SL→Bool):Bool:=Option.casesOn g (Ky S) fun p=>aM (Lr (aS p.1 S)) (Kn S) (we p.1 S fun b S=>aM (gd p.2 b) (Ky S) (Kn S))
noncomputable def eP (l m:List AV):List AV:=List.rec m (fun x _ ih=>x::ih) l
theorem GC:∀(l m:List AV),eP l m=l++m
 |[],_=>rfl
 |x::l,m=>congrArg (x:: ·) (GC l m)
noncomputable def Pj (n:Nat) (l:List Nat):Bool:=List.rec false (fun m _ ih=>Bool.rec ih true (Nat.beq n m)) l
theorem FB:∀{n:Nat} {l:List Nat},Pj n l=true→n∈l
 |n,[],h=>by cases h
 |n,m::l,h=>by
  have h:(Bool.rec (Pj n l) true (Nat.beq n m):Bool)=true:=h
  cases e:Nat.beq n m with
  |true=>rw[al6 e];simp
  |false=>rw[e]at h;exact List.mem_cons_of_mem _ (FB h)
noncomputable def fnK (fs:List Nat) (v:AV) (K:Nat→List AV→Bool):Bool:=Jm v fun g c=>ae (Pj g fs) (K g c)
theorem agD {fs:List Nat} {v:AV} {K:Nat→List AV→Bool} (h:fnK fs v K=true):∃f c,f∈fs∧v= .fn f c∧K f c=true:=by
 obtain⟨g,c,h1,h2⟩:=De h
 obtain⟨h3,h4⟩:=ac h2
 exact⟨g,c,FB h3,h1,h4⟩
theorem Mt {E:Env} {ρ:Ren} {l m:List AV} {xs ys:List Value} (h1:ay E ρ l=some xs) (h2:ay E ρ m=some ys):ay E ρ (eP l m)=some (xs++ys):=by
 rw[GC];exact dl h1 h2
noncomputable def TO (cf:fe) (st:XSt) (S:SL) (M:T) (nx:Nat) (K:SL→T→Nat→Bool):Bool:=XSt.casesOn st
 (fun _ d g x=>ma g S (fun S=>ff d (.tup []) S fun S=>K S M nx) fun S=>TV x S fun v=>ff d v S fun S=>K S M nx)
 (fun _ d g x=>ma g S (fun S=>ff d (.tup []) S fun S=>K S M nx) fun S=>Fa x S M fun v=>ff d v S fun S=>K S M nx)
 (fun _ d g x=>ma g S (fun S=>ff d (.tup []) S fun S=>K S M nx) fun S=>TW x S M nx fun v M nx=>ff d v S fun S=>K S M nx)
 (fun _ d g f xs=>ma g S (fun S=>ff d (.tup []) S fun S=>K S M nx) fun S=>vu S xs fun vs=>cf f vs M nx fun v M nx=>ff d v S fun S=>K S M nx)
 (fun _ d g x=>ma g S (fun S=>ae (Lr (aS d S)) (K S M nx)) fun S=>Fa x S M fun v=>ae (eqA v (aS d S)) (K S M nx))
 (fun _ d g t fs xs=>ma g S (fun S=>ff d (.tup []) S fun S=>K S M nx) fun S=>fnK fs (aS t S) fun f c=>vu S xs fun vs=>cf f (eP vs c) M nx fun v M nx=>ff d v S fun S=>K S M nx)
noncomputable def gu (cf:fe) (sts:List XSt):SL→T→Nat→(SL→T→Nat→Bool)→Bool:=List.rec (fun S M nx K=>K S M nx) (fun st _ ih S M nx K=>TO cf st S M nx fun S M nx=>ih S M nx K) sts
def ng:XSt→Nat×Kd
 |.p i ..=>(i,.P)|.r i ..=>(i,.R)|.e i ..=>(i,.E)|.c i ..=>(i,.E)|.a i ..=>(i,.A)|.k i ..=>(i,.E)
def xE (ops:Array Oper) (N:Nat) (g:Option (Nat×Bool)) (o:Oper):Bool:=match g,o.guard with
 |none,none=>true
 |some (t,b),some (k,c)=>decide (b=c)&&decide ((ops[k]?).bind (·.dst)=some t)&&Nat.blt t N
 |_,_=>false
def xF (N:Nat) (d:Option Nat) (o:Oper):Bool:=decide (o.dst=d)&&(match d with|some t=>Nat.blt t N|none=>true)
def BU (P:Program) (f:Nat) (xs:List XP):Op→Bool
 |.call {callee:=.value (.func f'),args:=args,argTypes:=_}=>Nat.beq f' f&&jI xs args.toList&&decide (xR P f=some (false,false))
 |_=>false
def xq (P:Program) (t:Nat) (fs:List Nat) (xs:List XP):Op→Bool
 |.call {callee:=.value (.tmp t'),args:=args,argTypes:=_}=>Nat.beq t' t&&jI xs args.toList&&fs.all fun f=>decide (xR P f=some (false,false))
 |_=>false
theorem Ih {P:Program} {t:Nat} {fs:List Nat} {xs:List XP} {op:Op} (h:xq P t fs xs op=true):∃args ta,op= .call {callee:=.value (.tmp t),args:=args,argTypes:=ta}∧jI xs args.toList=true∧∀f∈fs,xR P f=some (false,false):=by
 unfold xq at h
 split at h
 ·rename_i f' args ta
  simp only[aml,List.all_eq_true,decide_eq_true_eq]at h
  obtain⟨⟨h1,h2⟩,h3⟩:=h
  have h1:=al6 h1
  subst h1
  exact⟨args,ta,rfl,h2,h3⟩
 ·cases h
theorem Ls {P:Program} {f:Nat} {xs:List XP} {op:Op} (h:BU P f xs op=true):∃args ta,op= .call {callee:=.value (.func f),args:=args,argTypes:=ta}∧jI xs args.toList=true∧xR P f=some (false,false):=by
 unfold BU at h
 split at h
 ·rename_i f' args ta
  simp only[aml,decide_eq_true_eq]at h
  obtain⟨⟨h1,h2⟩,h3⟩:=h
  have h1:=al6 h1
  subst h1
  exact⟨args,ta,rfl,h2,h3⟩
 ·cases h
def kT (P:Program) (ops:Array Oper) (N:Nat):XSt→Bool
 |.p i d g x|.r i d g x|.e i d g x=>match ops[i]? with|some o=>xF N d o&&xE ops N g o&&qN P x o.op|none=>false
 |.c i d g f xs=>match ops[i]? with
  |some o=>xF N d o&&xE ops N g o&&BU P f xs o.op
  |none=>false
 |.a i d g x=>match ops[i]? with|some o=>xF N (some d) o&&xE ops N g o&&qN P x o.op|none=>false
 |.k i d g t fs xs=>match ops[i]? with
  |some o=>xF N d o&&xE ops N g o&&xq P t fs xs o.op
  |none=>false
section
variable {P:Program} {E:Env} {ρ:Ren} {G:GS} {F:List aH} {M:T} {nx:Nat} {w:World} {N:Nat} {S:SL} {a:Act} {ops:Array Oper} {o:Oper}
theorem EY (s:SR E ρ N S a) {t:Nat} {K:Bool→SL→Bool} (h:we t S K=true):∃b S',a.tmps.getD t undef= .bool b∧SR E ρ N S' a∧K b S'=true:=by
 have put:∀b,a.tmps.getD t undef= .bool b→SR E ρ N (.cons t (.bool b) S) a:=fun b hb=>⟨s.size,s.defs,fun u=>by
  by_cases q:t=u
  ·subst q
   rw[dq]
   exact .inr ⟨.bool b,rfl,hb⟩
  ·rw[ey _ _ q]
   exact s.at_ u⟩
 unfold we at h
 rcases e:aS t S with _|⟨k,z⟩|⟨b⟩|⟨l⟩|⟨i,o⟩|⟨i,o,n,c⟩|⟨i⟩|_|_|_|_|_|⟨tt,v⟩|⟨f,c⟩|⟨i⟩|⟨l⟩|⟨l⟩|⟨i⟩|⟨sy⟩<;>rw[e]at h<;>first|(cases h;done)|skip
 ·rcases s.at_ t with q|⟨x,h1,h2⟩
  ·rw[e]at q;cases q
  ·rw[e]at h1
   cases h1
   exact⟨b,S,h2,s,h⟩
 ·cases sy<;>first|(cases h;done)|skip
  rename_i p
  rcases s.at_ t with q|⟨x,h1,h2⟩
  ·rw[e]at q;cases q
  ·rw[e]at h1
   cases h1
   rcases aL h with⟨q,g⟩|⟨q,g⟩
   ·rw[q]at h2
    exact⟨true,_,h2,put true h2,g⟩
   ·rw[q]at h2
    exact⟨false,_,h2,put false h2,g⟩
theorem jt (s:SR E ρ N S a) {g:Option (Nat×Bool)} {Kn Ky:SL→Bool} (hc:xE ops N g o=true) (h:ma g S Kn Ky=true):
  ∃S',SR E ρ N S' a∧((Region.wanted o (yielded ops a.tmps)=true∧Ky S'=true)∨(Region.wanted o (yielded ops a.tmps)=false∧Kn S'=true)):=by
 unfold xE at hc
 split at hc
 ·rename_i h1
  exact⟨S,s,.inl ⟨by simp[Region.wanted,h1],h⟩⟩
 ·rename_i t b k c h1
  simp only[aml,decide_eq_true_eq,amq]at hc
  obtain⟨⟨rfl,h2⟩,h3⟩:=hc
  have h:aM (Lr (aS t S)) (Kn S) (we t S fun b' S=>aM (gd b b') (Ky S) (Kn S))=true:=h
  rcases aL h with⟨hu,h⟩|⟨_,h⟩
  ·have hu:=Lq hu
   have hlt:t<a.tmps.size:=by rw[s.size];exact h3
   rcases s.at_ t with q|⟨x,q1,q2⟩
   ·rw[hu]at q;cases q
   ·rw[hu,gz]at q1
    cases q1
    have e:a.tmps[t]?=some undef:=by
     rw[Array.getElem?_eq_getElem hlt]
     simp only[Array.getD,hlt,dif_pos,Array.getInternal_eq_getElem]at q2
     rw[q2]
    have hy:yielded ops a.tmps k=none:=by simp[yielded,h2,e,undef]
    have hw:Region.wanted o (yielded ops a.tmps)=false:=by simp[Region.wanted,h1,hy]
    refine⟨S,s,?_⟩
    rw[hw]
    exact .inr ⟨rfl,h⟩
  obtain⟨v,S',h7,s',h5⟩:=EY (t:=t) (K:=fun b' S=>aM (gd b b') (Ky S) (Kn S)) s h
  have hlt:t<a.tmps.size:=by rw[s.size];exact h3
  have e:a.tmps[t]?=some (.bool v):=by
   rw[Array.getElem?_eq_getElem hlt]
   simp only[Array.getD,hlt,dif_pos,Array.getInternal_eq_getElem]at h7
   rw[h7]
  have hy:yielded ops a.tmps k=some v:=by simp[yielded,h2,e]
  have hw:Region.wanted o (yielded ops a.tmps)=(v==b):=by simp[Region.wanted,h1,hy]
  have hvb:(v==b)=gd b v:=by cases v<;>cases b<;>rfl
  refine⟨S',s',?_⟩
  rw[hw,hvb]
  rcases aL h5 with⟨q,g⟩|⟨q,g⟩
  ·exact .inl ⟨q,g⟩
  ·exact .inr ⟨q,g⟩
 ·cases hc
theorem JA {i:Nat} {z:Value} (hi:ops[i]?=some o) (hw:Region.wanted o (yielded ops a.tmps)=true) (hr:(execOp a.eval o).run P w= .ok (.value z) w):RV P ops i z a w:=by
 unfold RV op1 wpOp
 simp only[hi,hw,if_true]
 exact .inl (TY hr ⟨by rw[bI hi],rfl⟩)
theorem Jz {i:Nat} (hi:ops[i]?=some o) (hw:Region.wanted o (yielded ops a.tmps)=false):RV P ops i undef a w:=by
 unfold RV op1 wpOp
 simp only[hi,hw]
 constructor
 ·rw[bI hi]
 ·trivial
theorem AH {i:Nat} {K:Act→World→Prop} (hi:ops[i]?=some o) (hw:Region.wanted o (yielded ops a.tmps)=false) (k:K (a.put o.dst undef) w):op1 P ops i K a w:=by
 unfold op1 wpOp
 simp only[hi,hw]
 exact k
theorem wm {i:Nat} {K:Act→World→Prop} (hi:ops[i]?=some o) (hw:Region.wanted o (yielded ops a.tmps)=true) (k:o.wp P a w K Q0):op1 P ops i K a w:=by
 unfold op1 wpOp
 simp only[hi,hw,if_true]
 exact .inl k
theorem lA {d:Option Nat} (h:xF N d o=true):o.dst=d∧∀t,d=some t→t<N:=by
 unfold xF at h
 simp only[aml,decide_eq_true_eq]at h
 refine⟨h.1,fun t ht=> ?_⟩
 subst ht
 simpa[amq] using h.2
theorem Rh {dst:Option Tmp} {ty:TypeId} {pos:String} {af:Array Edge} {g:Option (Nat×Bool)} {f:Nat} {args:Array Operand} {ta:Array TypeId} (hf:xR P f=some (false,false)):
  (execOp a.eval ⟨dst,.call {callee:=.value (.func f),args:=args,argTypes:=ta},ty,pos,af,g⟩).run P w= .ok (.enter f (args.toList.map a.eval).toArray) w:=by
 simp[execOp,resolve,Act.eval,Deferred.ofValue,invoke]
 rw[pR hf]
 congr 2
 apply Array.ext'
 simp
theorem MA {dst:Option Tmp} {ty:TypeId} {pos:String} {af:Array Edge} {g:Option (Nat×Bool)} {t f:Nat} {args:Array Operand} {ta:Array TypeId} {cs:List Value} (hf:xR P f=some (false,false)) (hv:a.tmps.getD t undef= .func (.func f) #[] cs.toArray):
  (execOp a.eval ⟨dst,.call {callee:=.value (.tmp t),args:=args,argTypes:=ta},ty,pos,af,g⟩).run P w= .ok (.enter f (args.toList.map a.eval++cs).toArray) w:=by
 have hv2:a.eval (.tmp t)= .func (.func f) #[] cs.toArray:=hv
 simp only[execOp,resolve,hv2]
 simp[Deferred.ofValue,invoke]
 rw[pR hf]
 congr 2
 apply Array.ext'
 simp
structure Ext (E:Env) (ρ:Ren) (E':Env) (ρ':Ren):Prop where
 env:kG ρ E E'
 le:ρ.Le ρ'
 one:cK E'
theorem Ext.of (hE:cK E) {ρ ρ':Ren} (h:ρ.Le ρ'):Ext E ρ E ρ':=⟨⟨fun _ _ _=>rfl,MLe.refl _⟩,h,hE⟩
theorem Ext.trans {E1 E2 E3:Env} {r1 r2 r3:Ren} (h:Ext E1 r1 E2 r2) (k:Ext E2 r2 E3 r3):Ext E1 r1 E3 r3:=
 ⟨⟨fun i e hi=>(k.env.at_ i e (h.le i e hi)).trans (h.env.at_ i e hi),MLe.trans h.env.mem k.env.mem⟩,h.le.trans k.le,k.one⟩
theorem Ext.den {E':Env} {ρ':Ren} (x:Ext E ρ E' ρ') {v:AV} {z:Value} (h:den E ρ v=some z):den E' ρ' v=some z:=dL x.le v z (ez x.env v z h)
theorem SR.ext {E':Env} {ρ':Ren} (s:SR E ρ N S a) (x:Ext E ρ E' ρ'):SR E' ρ' N S a:=⟨s.size,s.defs,fun t=>(s.at_ t).imp id fun⟨y,h1,h2⟩=>⟨y,x.den h1,h2⟩⟩
def gG (P:Program) (cf:fe):Prop:=∀(f:Nat) (vs:List AV) (M:T) (nx:Nat) (K:AV→T→Nat→Bool) (E:Env) (ρ:Ren) (G:GS) (F:List aH) (w:World) (xs:List Value) (R:Ending→World→Prop),cK E→
 Sim E ρ G F M nx w→ay E ρ vs=some xs→cf f vs M nx K=true→(∀v M' nx' E' ρ' w' z,K v M' nx'=true→Ext E ρ E' ρ'→Sim E' ρ' G F M' nx' w'→den E' ρ' v=some z→R (.returned z) w')→Calls P f xs.toArray w R
theorem wb {cf:fe} (hcf:gG P cf) {Q:Act→World→Prop}:∀{sts:List XSt} {S:SL} {M:T} {nx:Nat} {E:Env} {ρ:Ren} {a:Act} {w:World} {K:SL→T→Nat→Bool},cK E→(∀st∈sts,kT P ops N st=true)→SR E ρ N S a→Sim E ρ G F M nx w→gu cf sts S M nx K=true→
  (∀S' M' nx' E' ρ' a' w',K S' M' nx'=true→Ext E ρ E' ρ'→SR E' ρ' N S' a'→Sim E' ρ' G F M' nx' w'→Q a' w')→ji P ops Q (sts.map ng) a w
 |[],S,M,nx,E,ρ,a,w,K,hE,_,s,h,hk,hq=>hq _ _ _ _ _ _ _ hk (Ext.of hE (Ren.Le.refl _)) s h
 |st::sts,S,M,nx,E,ρ,a,w,K,hE,hc,s,h,hk,hq=>by
  have hst:=hc st (by simp)
  have hk':TO cf st S M nx (fun S M nx=>gu cf sts S M nx K)=true:=hk
  have nextE:∀{S' M' nx' E' ρ' a' w'},gu cf sts S' M' nx' K=true→Ext E ρ E' ρ'→SR E' ρ' N S' a'→Sim E' ρ' G F M' nx' w'→ji P ops Q (sts.map ng) a' w':=fun r hl s' h'=>
   wb hcf hl.one (fun st hst=>hc st (by simp[hst])) s' h' r fun S' M' nx' E2 ρ' a' w' k1 k2=>hq S' M' nx' E2 ρ' a' w' k1 (hl.trans k2)
  have next:∀{S' M' nx' ρ' a' w'},gu cf sts S' M' nx' K=true→ρ.Le ρ'→SR E ρ' N S' a'→Sim E ρ' G F M' nx' w'→ji P ops Q (sts.map ng) a' w':=fun r hl s' h'=>nextE r (Ext.of hE hl) s' h'
  cases st with
  |p i d g x=>
   simp only[kT]at hst
   split at hst
   case h_2=>cases hst
   rename_i o hi
   simp only[aml]at hst
   obtain⟨⟨c1,c2⟩,c3⟩:=hst
   obtain⟨d1,d2⟩:=lA c1
   obtain⟨S,s,hgd⟩:=jt (Kn:=fun S=>ff d (.tup []) S fun S=>gu cf sts S M nx K) (Ky:=fun S=>TV x S fun v=>ff d v S fun S=>gu cf sts S M nx K) s c2 hk'
   rcases hgd with⟨q1,q2⟩|⟨q1,q2⟩
   ·obtain⟨v,z,g1,g2,g3⟩:=aey hE s c3 q2
    rw[fT]at g2
    refine⟨z,fun w'=>JA hi q1 (g3 w'),?_⟩
    rw[bI hi,d1]
    exact next g2 (Ren.Le.refl _) (s.put d2 (.inr g1)) h
   ·rw[fT]at q2
    refine⟨undef,fun w'=>Jz hi q1,?_⟩
    rw[bI hi,d1]
    exact next q2 (Ren.Le.refl _) (s.put d2 (.inr (gz _ _))) h
  |r i d g x=>
   simp only[kT]at hst
   split at hst
   case h_2=>cases hst
   rename_i o hi
   simp only[aml]at hst
   obtain⟨⟨c1,c2⟩,c3⟩:=hst
   obtain⟨d1,d2⟩:=lA c1
   obtain⟨S,s,hgd⟩:=jt (Kn:=fun S=>ff d (.tup []) S fun S=>gu cf sts S M nx K) (Ky:=fun S=>Fa x S M fun v=>ff d v S fun S=>gu cf sts S M nx K) s c2 hk'
   rcases hgd with⟨q1,q2⟩|⟨q1,q2⟩
   ·obtain⟨v,z,g1,g2,g3⟩:=Ki h s c3 q2
    rw[fT]at g2
    refine⟨z,JA hi q1 g3,?_⟩
    rw[bI hi,d1]
    exact next g2 (Ren.Le.refl _) (s.put d2 (.inr g1)) h
   ·rw[fT]at q2
    refine⟨undef,Jz hi q1,?_⟩
    rw[bI hi,d1]
    exact next q2 (Ren.Le.refl _) (s.put d2 (.inr (gz _ _))) h
  |e i d g x=>
   simp only[kT]at hst
   split at hst
   case h_2=>cases hst
   rename_i o hi
   simp only[aml]at hst
   obtain⟨⟨c1,c2⟩,c3⟩:=hst
   obtain⟨d1,d2⟩:=lA c1
   obtain⟨S,s,hgd⟩:=jt (Kn:=fun S=>ff d (.tup []) S fun S=>gu cf sts S M nx K) (Ky:=fun S=>TW x S M nx fun v M nx=>ff d v S fun S=>gu cf sts S M nx K) s c2 hk'
   rcases hgd with⟨q1,q2⟩|⟨q1,q2⟩
   ·obtain⟨v,M',nx',ρ',w',g1,g2,g3,g4⟩:=aez hE h s c3 q2
    rw[fT]at g3
    refine wm hi q1 ?_
    rcases g4 with⟨z,g5,g6⟩|⟨g5,g6⟩
    ·refine TY g6 ?_
     rw[d1]
     exact next g3 g1 ((s.mono g1).put d2 (.inr g5)) g2
    ·refine aeF g6 ?_
     rw[d1]
     exact next g3 g1 ((s.mono g1).put d2 (.inl g5)) g2
   ·rw[fT]at q2
    refine AH hi q1 ?_
    rw[d1]
    exact next q2 (Ren.Le.refl _) (s.put d2 (.inr (gz _ _))) h
  |k i d g t fs xs=>
   simp only[kT]at hst
   split at hst
   case h_2=>cases hst
   rename_i o hi
   simp only[aml]at hst
   obtain⟨⟨c1,c2⟩,c3⟩:=hst
   obtain⟨d1,d2⟩:=lA c1
   obtain⟨dst,op,ty,pos,af,gg⟩:=o
   obtain⟨args,ta,hop,c5,c6⟩:=Ih c3
   dsimp only at hop
   subst hop
   obtain⟨S,s,hgd⟩:=jt (Kn:=fun S=>ff d (.tup []) S fun S=>gu cf sts S M nx K) (Ky:=fun S=>fnK fs (aS t S) fun f c=>vu S xs fun vs=>cf f (eP vs c) M nx fun v M nx=>ff d v S fun S=>gu cf sts S M nx K) s c2 hk'
   rcases hgd with⟨q1,q2⟩|⟨q1,q2⟩
   ·obtain⟨f,c,hf,hu,q2⟩:=agD q2
    obtain⟨cs,hv,hcs⟩:∃cs,a.tmps.getD t undef= .func (.func f) #[] cs.toArray∧ay E ρ c=some cs:=by
     rcases s.at_ t with q|⟨x,y1,y2⟩
     ·rw[hu]at q;cases q
     ·rw[hu]at y1
      simp only[den]at y1
      rcases e:ay E ρ c with _|cs
      ·rw[e]at y1;cases y1
      ·rw[e]at y1
       simp only[amm]at y1
       exact⟨cs,by rw[y2,←y1],rfl⟩
    obtain⟨vs,g1,g2,g3⟩:=oi s c5 q2
    refine wm hi q1 (Fg (MA (c6 f hf) hv) ?_)
    refine hcf _ (eP vs c) M nx _ E ρ G F w _ _ hE h (Mt g1 hcs) g2 fun v M' nx' E' ρ' w' z k1 k2 k3 k4=>⟨z,rfl,?_⟩
    rw[fT]at k1
    simp only at d1
    rw[d1]
    exact nextE k1 k2 ((s.ext k2).put d2 (.inr k4)) k3
   ·rw[fT]at q2
    refine AH hi q1 ?_
    simp only at d1
    rw[d1]
    exact next q2 (Ren.Le.refl _) (s.put d2 (.inr (gz _ _))) h
  |c i d g f xs=>
   simp only[kT]at hst
   split at hst
   case h_2=>cases hst
   rename_i o hi
   simp only[aml]at hst
   obtain⟨⟨c1,c2⟩,c3⟩:=hst
   obtain⟨d1,d2⟩:=lA c1
   obtain⟨dst,op,ty,pos,af,gg⟩:=o
   obtain⟨args,ta,hop,c5,c6⟩:=Ls c3
   dsimp only at hop
   subst hop
   obtain⟨S,s,hgd⟩:=jt (Kn:=fun S=>ff d (.tup []) S fun S=>gu cf sts S M nx K) (Ky:=fun S=>vu S xs fun vs=>cf f vs M nx fun v M nx=>ff d v S fun S=>gu cf sts S M nx K) s c2 hk'
   rcases hgd with⟨q1,q2⟩|⟨q1,q2⟩
   ·obtain⟨vs,g1,g2,g3⟩:=oi s c5 q2
    refine wm hi q1 (Fg (Rh c6) ?_)
    refine hcf _ vs M nx _ E ρ G F w _ _ hE h g1 g2 fun v M' nx' E' ρ' w' z k1 k2 k3 k4=>⟨z,rfl,?_⟩
    rw[fT]at k1
    simp only at d1
    rw[d1]
    exact nextE k1 k2 ((s.ext k2).put d2 (.inr k4)) k3
   ·rw[fT]at q2
    refine AH hi q1 ?_
    simp only at d1
    rw[d1]
    exact next q2 (Ren.Le.refl _) (s.put d2 (.inr (gz _ _))) h
  |a i d g x=>
   simp only[kT]at hst
   split at hst
   case h_2=>cases hst
   rename_i o hi
   simp only[aml]at hst
   obtain⟨⟨c1,c2⟩,c3⟩:=hst
   obtain⟨d1,d2⟩:=lA c1
   obtain⟨S,s,hgd⟩:=jt (Kn:=fun S=>ae (Lr (aS d S)) (gu cf sts S M nx K)) (Ky:=fun S=>Fa x S M fun v=>ae (eqA v (aS d S)) (gu cf sts S M nx K)) s c2 hk'
   rcases hgd with⟨q1,q2⟩|⟨q1,q2⟩
   ·obtain⟨v,z,g1,g2,g3⟩:=Ki h s c3 q2
    obtain⟨g4,g5⟩:=ac g2
    have g4:=agO g4
    refine⟨⟨z,JA hi q1 g3,?_⟩,next g5 (Ren.Le.refl _) s h⟩
    rw[bI hi,d1]
    have hz:a.tmps.getD d undef=z:=by
     rcases s.at_ d with e|⟨x',e1,e2⟩
     ·rw[g4,e]at g1;cases g1
     ·rw[←g4,g1]at e1
      cases e1
      exact e2
    exact put_self hz
   ·obtain⟨g4,g5⟩:=ac q2
    have g4:=Lq g4
    refine⟨⟨undef,Jz hi q1,?_⟩,next g5 (Ren.Le.refl _) s h⟩
    rw[bI hi,d1]
    have hz:a.tmps.getD d undef=undef:=by
     rcases s.at_ d with e|⟨x',e1,e2⟩
     ·rw[g4]at e;cases e
     ·rw[g4,gz]at e1
      cases e1
      exact e2
    exact put_self hz
where
 put_self {a:Act} {d:Nat} {z:Value} (h:a.tmps.getD d undef=z):a.put (some d) z=a:=by
  simp only[Act.put]
  have:a.tmps.setIfInBounds d z=a.tmps:=by
   apply Array.ext_getElem?
   intro j
   by_cases q:d=j
   ·subst q
    rcases Nat.lt_or_ge d a.tmps.size with hl|hl
    ·rw[Array.getElem?_setIfInBounds_self_of_lt hl,Array.getElem?_eq_getElem hl]
     simp only[Array.getD,hl,dif_pos,Array.getInternal_eq_getElem]at h
     rw[h]
    ·rw[Array.getElem?_eq_none (by simpa using hl),Array.getElem?_eq_none hl]
   ·rw[Array.getElem?_setIfInBounds_ne q]
  rw[this]
inductive XTr|leaf (sts:List XSt)|split (x y:Nat) (s t:XTr)
def He:XTr→Tr
 |.leaf sts=>.leaf (sts.map ng)
 |.split x y s t=>.split x y (He s) (He t)
def vz (P:Program) (ops:Array Oper) (N:Nat):XTr→Bool
 |.leaf sts=>sts.all (kT P ops N)
 |.split _ _ s t=>vz P ops N s&&vz P ops N t
noncomputable def zB (cf:fe) (tr:XTr) (S:SL) (M:T) (nx:Nat) (K:SL→T→Nat→Bool):Bool:=XTr.rec (fun sts=>gu cf sts S M nx K) (fun _ _ _ _ p q=>ae p q) tr
theorem sO (hE:cK E) {cf:fe} (hcf:gG P cf) {Q:Act→World→Prop} {K:SL→T→Nat→Bool} (s:SR E ρ N S a) (h:Sim E ρ G F M nx w)
  (hq:∀S' M' nx' E' ρ' a' w',K S' M' nx'=true→Ext E ρ E' ρ'→SR E' ρ' N S' a'→Sim E' ρ' G F M' nx' w'→Q a' w'):∀{tr:XTr},vz P ops N tr=true→zB cf tr S M nx K=true→Ag P ops Q a w (He tr)
 |.leaf sts,hc,hk=>wb hcf hE (fun st hst=>List.all_eq_true.1 hc st hst) s h hk hq
 |.split x y t u,hc,hk=>by
  simp only[vz,aml]at hc
  obtain⟨k1,k2⟩:=ac (b:=zB cf t S M nx K) (x:=zB cf u S M nx K) hk
  exact⟨sO hE hcf s h hq hc.1 k1,sO hE hcf s h hq hc.2 k2⟩
end
noncomputable def pJ (ps:List (Nat×Nat)) (i:Nat):Option Nat:=List.rec none (fun p _ ih=>Bool.rec ih (some p.2) (Nat.beq p.1 i)) ps
theorem fu:∀{ps:List (Nat×Nat)} {i j:Nat},pJ ps i=some j→(i,j)∈ps
 |[],i,j,h=>by cases h
 |p::ps,i,j,h=>by
  have h':(Bool.rec (pJ ps i) (some p.2) (Nat.beq p.1 i):Option Nat)=some j:=h
  cases hb:Nat.beq p.1 i with
  |true=>
   rw[hb]at h'
   cases h'
   have:=al6 hb
   subst this
   simp
  |false=>rw[hb]at h';exact List.mem_cons_of_mem _ (fu h')
def fX (ps:List (Nat×Nat)) (ρ:Ren):Ren:=fun j=>match ps.find? (fun p=>Nat.beq p.2 j) with|some p=>ρ p.1|none=>none
def eD:List (Nat×Nat)→Bool
 |[]=>true
 |p::ps=>(ps.all fun q=> !Nat.beq q.2 p.2)&&(ps.all fun q=> !Nat.beq q.1 p.1)&&eD ps
theorem cN:∀{ps:List (Nat×Nat)} {ρ:Ren} {i j:Nat},eD ps=true→(i,j)∈ps→fX ps ρ j=ρ i
 |[],ρ,i,j,_,h=>by cases h
 |p::ps,ρ,i,j,ho,h=>by
  simp only[eD,aml]at ho
  rcases List.mem_cons.1 h with rfl|h
  ·simp[fX]
  ·have hne:Nat.beq p.2 j=false:=by
    have:=List.all_eq_true.1 ho.1.1 _ h
    simp only[Bool.not_eq_true']at this
    cases hb:Nat.beq p.2 j with
    |false=>rfl
    |true=>
     have:=al6 hb
     subst this
     simp at this
   have:=cN (ρ:=ρ) ho.2 h
   simp only[fX,List.find?_cons,hne]at this ⊢
   exact this
theorem oM:∀{ps:List (Nat×Nat)} {i j k:Nat},eD ps=true→(i,j)∈ps→(i,k)∈ps→j=k
 |[],i,j,k,_,h,_=>by cases h
 |p::ps,i,j,k,ho,h,h2=>by
  simp only[eD,aml]at ho
  have hno:∀q∈ps,q.1≠p.1:=fun q hq e=>by
   have:=List.all_eq_true.1 ho.1.2 q hq
   rw[e]at this
   simp at this
  rcases List.mem_cons.1 h with e1|h1
  ·rcases List.mem_cons.1 h2 with e2|h3
   ·rw[←e1]at e2;injection e2 with _ e;exact e.symm
   ·exact absurd (by rw[←e1]) (hno _ h3)
  ·rcases List.mem_cons.1 h2 with e2|h3
   ·exact absurd (by rw[←e2]) (hno _ h1)
   ·exact oM ho.2 h1 h3
noncomputable def sV (ps:List (Nat×Nat)):SY→Option SY
 |.prow i n=>(pJ ps i).map fun j=>.prow j n
 |.psub i sz a n o oc=>(pJ ps i).map fun j=>.psub j sz a n o oc
 |.pfix i n c=>(pJ ps i).map fun j=>.pfix j n c
 |.rptr i sz q o=>(pJ ps i).map fun j=>.rptr j sz q o
 |.kmp i=>(pJ ps i).map fun j=>.kmp j
 |s=>some s
mutual
noncomputable def dO (ps:List (Nat×Nat)):AV→Option AV
 |.bad=>none
 |.int k z=>some (.int k z)
 |.bool b=>some (.bool b)
 |.str l=>some (.str l)
 |.nilP=>some .nilP
 |.nilS=>some .nilS
 |.nilM=>some .nilM
 |.nilF=>some .nilF
 |.nilI=>some .nilI
 |.ptr i o=>(pJ ps i).map fun j=>.ptr j o
 |.sl i o n c=>(pJ ps i).map fun j=>.sl j o n c
 |.map i=>(pJ ps i).map fun j=>.map j
 |.yl i=>(pJ ps i).map fun j=>.yl j
 |.any _=>none
 |.sy s=>(sV ps s).map .sy
 |.iface t v=>(dO ps v).map fun u=>.iface t u
 |.fn f c=>(fF ps c).map fun u=>.fn f u
 |.agg l=>(fF ps l).map .agg
 |.tup l=>(fF ps l).map .tup
noncomputable def fF (ps:List (Nat×Nat)):List AV→Option (List AV)
 |[]=>some []
 |v::r=>(dO ps v).bind fun u=>(fF ps r).map fun l=>u::l
end
section
variable {P:Program} {E:Env} {ρ:Ren} {G:GS} {F:List aH} {M:T} {nx:Nat} {w:World} {ps:List (Nat×Nat)} {t2:Nat→Value}
theorem Oe (ho:eD ps=true) {s u:SY} {x:Value} (h:sV ps s=some u) (hd:aJ E ρ s=some x):aJ ⟨t2,E.M⟩ (fX ps ρ) u=some x:=by
 cases s with
 |prow i n=>
  simp only[sV,amd]at h
  obtain⟨j,h1,rfl⟩:=h
  simp only[aJ,cN ho (fu h1)]at hd ⊢
  exact hd
 |psub i sz a n o oc=>
  simp only[sV,amd]at h
  obtain⟨j,h1,rfl⟩:=h
  simp only[aJ,cN ho (fu h1)]at hd ⊢
  exact hd
 |pfix i n c=>
  simp only[sV,amd]at h
  obtain⟨j,h1,rfl⟩:=h
  simp only[aJ,cN ho (fu h1)]at hd ⊢
  exact hd
 |rptr i sz q o=>
  simp only[sV,amd]at h
  obtain⟨j,h1,rfl⟩:=h
  simp only[aJ,cN ho (fu h1)]at hd ⊢
  exact hd
 |kmp i=>
  simp only[sV,amd]at h
  obtain⟨j,h1,rfl⟩:=h
  simp only[aJ,cN ho (fu h1)]at hd ⊢
  exact hd
 |int k z=>cases h;exact hd
 |bool p=>cases h;exact hd
 |str l=>cases h;exact hd
 |imm=>cases h;exact hd
 |pim=>cases h;exact hd
 |vl=>cases h;exact hd
mutual
theorem ib (ho:eD ps=true):∀(v u:AV) (x:Value),dO ps v=some u→den E ρ v=some x→den ⟨t2,E.M⟩ (fX ps ρ) u=some x
 |.bad,u,x,h,_=>by simp[dO]at h
 |.any _,u,x,h,_=>by simp[dO]at h
 |.int _ _,u,x,h,hd|.bool _,u,x,h,hd|.str _,u,x,h,hd|.nilP,u,x,h,hd|.nilS,u,x,h,hd|.nilM,u,x,h,hd|.nilF,u,x,h,hd|.nilI,u,x,h,hd=>by
  simp only[dO,amm]at h
  subst h
  simpa[den] using hd
 |.ptr i o,u,x,h,hd=>by
  simp only[dO,amd]at h
  obtain⟨j,h1,rfl⟩:=h
  simp only[den,cN ho (fu h1)]at hd ⊢
  exact hd
 |.sl i o n c,u,x,h,hd=>by
  simp only[dO,amd]at h
  obtain⟨j,h1,rfl⟩:=h
  simp only[den,cN ho (fu h1)]at hd ⊢
  exact hd
 |.map i,u,x,h,hd=>by
  simp only[dO,amd]at h
  obtain⟨j,h1,rfl⟩:=h
  simp only[den,cN ho (fu h1)]at hd ⊢
  exact hd
 |.yl i,u,x,h,hd=>by
  simp only[dO,amd]at h
  obtain⟨j,h1,rfl⟩:=h
  simp only[den,cN ho (fu h1)]at hd ⊢
  exact hd
 |.sy s,u,x,h,hd=>by
  simp only[dO,amd]at h
  obtain⟨s',h1,rfl⟩:=h
  simp only[den]at hd ⊢
  exact Oe ho h1 hd
 |.iface t v,u,x,h,hd=>by
  simp only[dO,amd]at h
  obtain⟨y,h1,rfl⟩:=h
  simp only[den]at hd ⊢
  rcases e:den E ρ v with _|z
  ·rw[e]at hd;cases hd
  ·rw[e]at hd;rw[ib ho v y z h1 e];exact hd
 |.fn f c,u,x,h,hd=>by
  simp only[dO,amd]at h
  obtain⟨y,h1,rfl⟩:=h
  simp only[den]at hd ⊢
  rcases e:ay E ρ c with _|z
  ·rw[e]at hd;cases hd
  ·rw[e]at hd;rw[jp ho c y z h1 e];exact hd
 |.agg c,u,x,h,hd=>by
  simp only[dO,amd]at h
  obtain⟨y,h1,rfl⟩:=h
  simp only[den]at hd ⊢
  rcases e:ay E ρ c with _|z
  ·rw[e]at hd;cases hd
  ·rw[e]at hd;rw[jp ho c y z h1 e];exact hd
 |.tup c,u,x,h,hd=>by
  simp only[dO,amd]at h
  obtain⟨y,h1,rfl⟩:=h
  simp only[den]at hd ⊢
  rcases e:ay E ρ c with _|z
  ·rw[e]at hd;cases hd
  ·rw[e]at hd;rw[jp ho c y z h1 e];exact hd
theorem jp (ho:eD ps=true):∀(l m:List AV) (xs:List Value),fF ps l=some m→ay E ρ l=some xs→ay ⟨t2,E.M⟩ (fX ps ρ) m=some xs
 |[],m,xs,h,hd=>by
  simp only[fF,amm]at h
  subst h
  simpa[ay] using hd
 |v::r,m,xs,h,hd=>by
  obtain⟨x,ys,h1,h2,rfl⟩:=bf hd
  simp only[fF,Option.bind_eq_some_iff,amd]at h
  obtain⟨u,g1,l,g2,rfl⟩:=h
  exact eR (ib ho v u x g1 h1) (jp ho r l ys g2 h2)
end
noncomputable def ul (ps:List (Nat×Nat)):List (List AV)→Option (List (List AV))
 |[]=>some []
 |v::r=>(fF ps v).bind fun u=>(ul ps r).map fun l=>u::l
theorem Au:∀{l m:List AV},fF ps l=some m→m.length=l.length
 |[],m,h=>by simp only[fF,amm]at h;subst h;rfl
 |v::r,m,h=>by
  simp only[fF,Option.bind_eq_some_iff,amd]at h
  obtain⟨u,g1,l,g2,rfl⟩:=h
  simp[Au g2]
theorem Av:∀{l m a b:List AV},fF ps l=some a→fF ps m=some b→fF ps (l++m)=some (a++b)
 |[],m,a,b,h,h2=>by simp only[fF,amm]at h;subst h;simpa using h2
 |v::r,m,a,b,h,h2=>by
  simp only[fF,Option.bind_eq_some_iff,amd]at h
  obtain⟨u,g1,l,g2,rfl⟩:=h
  simp[fF,g1,Av g2 h2]
theorem uk:∀{l m:List (List AV)},ul ps l=some m→fF ps l.flatten=some m.flatten∧m.length=l.length∧∀n,(∀x∈l,x.length=n)→∀x∈m,x.length=n
 |[],m,h=>by simp only[ul,amm]at h;subst h;exact⟨rfl,rfl,fun n _ x hx=>by simp at hx⟩
 |v::r,m,h=>by
  simp only[ul,Option.bind_eq_some_iff,amd]at h
  obtain⟨u,g1,l,g2,rfl⟩:=h
  obtain⟨h1,h2,h3⟩:=uk g2
  refine⟨Av g1 h1,by simp[h2],fun n hn x hx=> ?_⟩
  rcases List.mem_cons.1 hx with rfl|hx
  ·rw[Au g1];exact hn v (by simp)
  ·exact h3 n (fun y hy=>hn y (by simp[hy])) x hx
noncomputable def uo (ps:List (Nat×Nat)):List (AV×AV×Nat)→Option (List (AV×AV×Nat))
 |[]=>some []
 |e::r=>(dO ps e.1).bind fun k=>(dO ps e.2.1).bind fun v=>(uo ps r).map fun l=>(k,v,e.2.2)::l
theorem xP (ho:eD ps=true):∀{l m:List (AV×AV×Nat)} {ms:List MapEntry},uo ps l=some m→bp E ρ l=some ms→bp ⟨t2,E.M⟩ (fX ps ρ) m=some ms
 |[],m,ms,h,hd=>by
  simp only[uo,amm]at h
  subst h
  simpa[bp] using hd
 |(k,v,b)::r,m,ms,h,hd=>by
  obtain⟨x,y,ms',h1,h2,h3,rfl⟩:=cC hd
  simp only[uo,Option.bind_eq_some_iff,amd]at h
  obtain⟨k',g1,v',g2,l,g3,rfl⟩:=h
  simp only[bp,ib ho k k' x g1 h1,ib ho v v' y g2 h2,xP ho g3 h3]
noncomputable def dt (ps:List (Nat×Nat)):AObj→Option AObj
 |.blk g Ty sz els=>(ul ps els).map fun e=>.blk g Ty sz e
 |.map es cl=>(uo ps es).map fun e=>.map e cl
 |.prow Ty sz α l enc=>some (.prow Ty sz α l enc)
 |.kmap sure ak av α l k v=>some (.kmap sure ak av α l k v)
 |.defs=>some .defs
 |.kit i ak av α l k v bs seen cl=>(pJ ps i).map fun j=>.kit j ak av α l k v bs seen cl
 |.opq α x Φ=>some (.opq α x Φ)
 |.iter ..=>none
theorem sW (ho:eD ps=true) {e:cM} {o o':AObj} {ob:Obj} (h:dt ps o=some o') (hr:ORel E ρ e o ob):ORel ⟨t2,E.M⟩ (fX ps ρ) e o' ob:=by
 cases o with
 |blk g Ty sz els=>
  simp only[dt,amd]at h
  obtain⟨els',h1,rfl⟩:=h
  obtain⟨f1,f2,f3⟩:=uk h1
  obtain⟨q0,q1,arr,xs,q2,q3,q4⟩:=hr
  refine⟨f3 sz q0,q1,arr,xs,q2,jp ho _ _ _ f1 q3,?_⟩
  rw[f2];exact q4
 |map es cl=>
  simp only[dt,amd]at h
  obtain⟨es',h1,rfl⟩:=h
  obtain⟨ms,q1,q2⟩:=hr
  exact⟨ms,xP ho h1 q1,q2⟩
 |iter=>simp[dt]at h
 |defs=>
  simp only[dt,amm]at h
  subst h;exact hr
 |prow Ty sz α l enc=>
  simp only[dt,amm]at h
  subst h;exact hr
 |kmap sure ak av α l k v=>
  simp only[dt,amm]at h
  subst h
  obtain⟨es,cl,ms,h1,h2,h3⟩:=hr
  exact⟨es,cl,ms,h1,tX (E:=E) (E':=⟨t2,E.M⟩) rfl h1 h2,h3⟩
 |kit i ak av α l k v bs seen cl=>
  simp only[dt,amd]at h
  obtain⟨j,h1,rfl⟩:=h
  obtain⟨f,q1,q2⟩:=hr
  exact⟨f,by rw[cN ho (fu h1)];exact q1,q2⟩
 |opq=>exact hr.elim
theorem ek {e:cM} {o o':AObj} (h:dt ps o=some o'):bC e o'=bC e o∧(uf o→uf o'):=by
 cases o with
 |blk g Ty sz els=>
  simp only[dt,amd]at h
  obtain⟨els',h1,rfl⟩:=h
  exact⟨rfl,fun q=>q⟩
 |map es cl=>
  simp only[dt,amd]at h
  obtain⟨es',h1,rfl⟩:=h
  exact⟨rfl,fun q=>q⟩
 |iter=>simp[dt]at h
 |defs=>
  simp only[dt,amm]at h
  subst h;exact⟨rfl,fun q=>q⟩
 |prow Ty sz α l enc=>
  simp only[dt,amm]at h
  subst h;exact⟨rfl,fun q=>q⟩
 |kmap sure ak av α l k v=>
  simp only[dt,amm]at h
  subst h;exact⟨rfl,fun q=>q⟩
 |kit i ak av α l k v bs seen cl=>
  simp only[dt,amd]at h
  obtain⟨j,h1,rfl⟩:=h
  exact⟨rfl,fun q=>q⟩
 |opq=>
  simp only[dt,amm]at h
  subst h;exact⟨rfl,fun q=>q⟩
theorem sX {o:AObj} {α:Type} {x:α} {Φ:α→dS→aH→Prop} (h:dt ps o=some (.opq α x Φ)):o= .opq α x Φ:=by
 cases o with
 |opq=>simpa only[dt,amm] using h
 |_=>simp[dt]at h
noncomputable def nJ (ps:List (Nat×Nat)) (M:T) (l:List (Nat×Nat)):T→(T→Bool)→Bool:=List.rec (fun acc K=>K acc) (fun p _ ih acc K=>bF (M.get p.1) fun o=>bF (dt ps o) fun o'=>T.set aP acc p.2 (some o') fun acc=>ih acc K) l
theorem rn:∀{l:List (Nat×Nat)} {acc:T} {K:T→Bool},(∀j o,acc.get j=some o→∃i o0,(i,j)∈ps∧M.get i=some o0∧dt ps o0=some o)→(∀p∈l,p∈ps)→nJ ps M l acc K=true→
  ∃M',K M'=true∧∀j o,M'.get j=some o→∃i o0,(i,j)∈ps∧M.get i=some o0∧dt ps o0=some o
 |[],acc,K,ha,_,h=>⟨acc,h,ha⟩
 |p::l,acc,K,ha,hl,h=>by
  have h':(bF (M.get p.1) fun o=>bF (dt ps o) fun o'=>T.set aP acc p.2 (some o') fun acc=>nJ ps M l acc K)=true:=h
  obtain⟨o,h1,h2⟩:=aT h'
  obtain⟨o',h3,h4⟩:=aT h2
  obtain⟨acc',h5,s1,s2⟩:=T.set_ok _ _ _ _ _ h4
  refine rn (fun j ob hj=> ?_) (fun q hq=>hl q (by simp[hq])) h5
  by_cases e:j=p.2
  ·subst e
   rw[s1]at hj
   cases hj
   exact⟨p.1,o,hl p (by simp),h1,h3⟩
  ·rw[s2 j e]at hj
   exact ha j ob hj
noncomputable def aeq (live:List Nat) (ps:List (Nat×Nat)) (nx':Nat) (S:SL) (M:T) (K:SL→T→Nat→Bool):Bool:=
 ae (eD ps&&ps.all fun p=>Nat.blt p.2 nx') (nJ ps M ps .leaf fun M'=>List.rec (motive:=fun _=>SL→Bool) (fun acc=>K acc M' nx') (fun t _ ih acc=>Option.casesOn (dO ps (aS t S)) (ih acc) fun v=>ih (.cons t v acc)) live .nil)
theorem Sim.ren (h:Sim E ρ G F M nx w) (ho:eD ps=true) {nx':Nat} (hn:∀p∈ps,p.2<nx') {M':T} (hM:∀j o,M'.get j=some o→∃i o0,(i,j)∈ps∧M.get i=some o0∧dt ps o0=some o):Sim E (fX ps ρ) G F M' nx' w:=by
 obtain⟨D_,F_,c,hF_,hq_,hh,hob,hinj⟩:=h.ex
 refine⟨⟨D_,F_,c,hF_,fun j α x Φ hj=>(by
  obtain⟨i,o0,h1,h2,h3⟩:=hM j _ hj
  rw[sX h3]at h2
  exact hq_ i α x Φ h2),hh,fun j o hj=> ?_,fun j k e f o o' hj hk he hf hb1 hb2 hb=> ?_⟩,h.mem,fun j hj=> ?_⟩
 ·obtain⟨i,o0,h1,h2,h3⟩:=hM j o hj
  obtain⟨e,a1,q⟩:=hob i o0 h2
  have hB:=ek (e:=e) h3
  refine⟨e,by rw[cN ho h1];exact a1,?_⟩
  rcases q with⟨q1,ob,q2,q3⟩|⟨q1,q2⟩
  ·exact .inl ⟨by rw[hB.1];exact q1,ob,q2,sW ho h3 q3⟩
  ·exact .inr ⟨by rw[hB.1];exact q1,hB.2 q2⟩
 ·obtain⟨i,o0,h1,h2,h3⟩:=hM j o hj
  obtain⟨i',o1,g1,g2,g3⟩:=hM k o' hk
  rw[cN ho h1]at he
  rw[cN ho g1]at hf
  rw[(ek (e:=e) h3).1]at hb1
  rw[(ek (e:=f) g3).1]at hb2
  have:=hinj i i' e f o0 o1 h2 g2 he hf hb1 hb2 hb
  subst this
  exact oM ho h1 g1
 ·unfold fX
  split
  ·rename_i p hp
   have h1:=List.mem_of_find?_eq_some hp
   have h2:=List.find?_some hp
   have:=al6 h2
   have:=hn p h1
   omega
  ·rfl
theorem Wk {N:Nat} {S:SL} {a:Act} (s:SR E ρ N S a) (h:Sim E ρ G F M nx w) {live:List Nat} {nx':Nat} {K:SL→T→Nat→Bool} (hk:aeq live ps nx' S M K=true):
  ∃S' M' ρ',SR E ρ' N S' a∧Sim E ρ' G F M' nx' w∧K S' M' nx'=true∧∀i j,(i,j)∈ps→ρ' j=ρ i:=by
 obtain⟨h1,h2⟩:=ac hk
 simp only[aml]at h1
 obtain⟨M',h3,h4⟩:=rn (ps:=ps) (fun j o hj=>by simp[T.get_leaf]at hj) (fun p hp=>hp) h2
 have hn:∀p∈ps,p.2<nx':=fun p hp=>by
  have:=List.all_eq_true.1 h1.2 p hp
  simpa[amq] using this
 have key:∀(live:List Nat) (acc:SL),SR E (fX ps ρ) N acc a→(List.rec (motive:=fun _=>SL→Bool) (fun acc=>K acc M' nx') (fun t _ ih acc=>Option.casesOn (dO ps (aS t S)) (ih acc) fun v=>ih (.cons t v acc)) live acc)=true→∃S',SR E (fX ps ρ) N S' a∧K S' M' nx'=true:=by
  intro live
  induction live with
  |nil=>exact fun acc sa hk=>⟨acc,sa,hk⟩
  |cons t live ih=>
   intro acc sa hk
   have hk':Option.casesOn (motive:=fun _=>Bool) (dO ps (aS t S)) (List.rec (motive:=fun _=>SL→Bool) (fun acc=>K acc M' nx') (fun t _ ih acc=>Option.casesOn (dO ps (aS t S)) (ih acc) fun v=>ih (.cons t v acc)) live acc)
    (fun v=>List.rec (motive:=fun _=>SL→Bool) (fun acc=>K acc M' nx') (fun t _ ih acc=>Option.casesOn (dO ps (aS t S)) (ih acc) fun v=>ih (.cons t v acc)) live (.cons t v acc))=true:=hk
   rcases e:dO ps (aS t S) with _|v
   ·rw[e]at hk'
    exact ih acc sa hk'
   ·rw[e]at hk'
    refine ih (.cons t v acc) ⟨sa.size,sa.defs,fun u=> ?_⟩ hk'
    by_cases q:t=u
    ·subst q
     rw[dq]
     rcases s.at_ t with q|⟨x,q1,q2⟩
     ·rw[q]at e;simp[dO]at e
     ·exact .inr ⟨x,ib h1.1 _ _ _ e q1,q2⟩
    ·rw[ey _ _ q]
     exact sa.at_ u
 obtain⟨S',k1,k2⟩:=key live .nil ⟨s.size,s.defs,fun _=>.inl rfl⟩ h3
 exact⟨S',M',_,k1,h.ren h1.1 hn h4,k2,fun i j q=>cN h1.1 q⟩
noncomputable def alB:SY→List Nat
 |.prow i _=>[i]
 |.psub i _ _ _ _ _=>[i]
 |.pfix i _ _=>[i]
 |.rptr i _ _ _=>[i]
 |.kmp i=>[i]
 |_=>[]
mutual
noncomputable def oV:AV→List Nat
 |.ptr i _=>[i]
 |.sl i _ _ _=>[i]
 |.map i=>[i]
 |.yl i=>[i]
 |.sy s=>alB s
 |.iface _ v=>oV v
 |.fn _ c=>tL c
 |.agg l=>tL l
 |.tup l=>tL l
 |_=>[]
noncomputable def tL:List AV→List Nat
 |[]=>[]
 |v::r=>oV v++tL r
end
noncomputable def alC:AObj→List Nat
 |.blk _ _ _ els=>tL els.flatten
 |.map es _=>es.flatMap fun e=>oV e.1++oV e.2.1
 |.kit i ..=>[i]
 |_=>[]
noncomputable def kH (M:T):Nat→List Nat→List Nat→List Nat
 |0,_,seen=>seen
 |_+1,[],seen=>seen
 |n+1,i::todo,seen=>match seen.any (Nat.beq i),M.get i with
  |false,some o=>kH M n (todo++alC o) (seen++[i])
  |_,_=>kH M n todo seen
def wt:Nat→List Nat→List (Nat×Nat)
 |_,[]=>[]
 |k,i::r=>(i,k)::wt (k+1) r
def vV:Nat→List Nat→List Nat
 |0,l=>l
 |k+1,l=>vV k (k::l)
def ux (ps:List (Nat×Nat)):Nat→Bool
 |0=>true
 |k+1=>List.any ps (fun p=>Nat.beq p.1 k&&Nat.beq p.2 k)&&ux ps k
theorem te {ps:List (Nat×Nat)}:∀{k:Nat},ux ps k=true→∀i,i<k→(i,i)∈ps
 |0,_,i,hi=>by omega
 |k+1,h,i,hi=>by
  simp only[ux,aml]at h
  rcases Nat.lt_succ_iff_lt_or_eq.1 hi with h1|rfl
  ·exact te h.2 i h1
  ·obtain⟨p,q1,q2⟩:=List.any_eq_true.1 h.1
   simp only[aml]at q2
   have e1:=al6 q2.1
   have e2:=al6 q2.2
   have:p=(i,i):=by cases p;simp_all
   rw[←this];exact q1
noncomputable def fP (l:List (Nat×Nat)):(List (Nat×Nat)→Bool)→Bool:=List.rec (fun K=>K []) (fun p _ ih K=>fN p.1 fun a=>fN p.2 fun b=>ih fun l=>K ((a,b)::l)) l
theorem vr:∀{l:List (Nat×Nat)} {K:List (Nat×Nat)→Bool},fP l K=K l
 |[],K=>rfl
 |p::l,K=>by
  have:fP (p::l) K=(fN p.1 fun a=>fN p.2 fun b=>fP l fun l=>K ((a,b)::l)):=rfl
  rw[this,bt,bt,vr]
noncomputable def alR (k:Nat) (live:List Nat) (S:SL) (M:T):List (Nat×Nat):=wt 0 (kH M 200 (vV k (live.flatMap fun t=>oV (aS t S))) [])
noncomputable def Jd (k:Nat) (live:List Nat) (S:SL) (M:T) (K:SL→T→Nat→Bool):Bool:=fP (alR k live S M) fun ps=>ae (ux ps k) (fM ps.length fun n=>aeq live ps n S M K)
theorem Gh {N k:Nat} {S:SL} {a:Act} (s:SR E ρ N S a) (h:Sim E ρ G F M nx w) {live:List Nat} {K:SL→T→Nat→Bool} (hk:Jd k live S M K=true):
  ∃S' M' nx' ρ',SR E ρ' N S' a∧Sim E ρ' G F M' nx' w∧K S' M' nx'=true∧∀i e,i<k→ρ i=some e→ρ' i=some e:=by
 unfold Jd at hk
 rw[vr]at hk
 obtain⟨h1,h2⟩:=ac hk
 rw[IZ]at h2
 obtain⟨S',M',ρ',g1,g2,g3,g4⟩:=Wk s h h2
 exact⟨S',M',_,ρ',g1,g2,g3,fun i e q1 q2=>by rw[g4 i i (te h1 i q1)];exact q2⟩
end
section
variable {P:Program} {E:Env} {ρ:Ren} {G:GS} {F:List aH} {M:T} {nx:Nat} {w:World}
noncomputable def Jh (v:AV) (Ty sz:Nat) (α:Type) (enc:α→List PL) (M:T) (nx:Nat) (K:AV→T→Nat→Bool):Bool:=aM (dx v) (ej v fun s=>SY.casesOn s (fun _ _=>false) (fun _=>false) (fun _=>false) (fun _ _ _ _ _=>false) (fun _ _ _=>false) (fun i n=>cV M i fun Ty' sz' _ l _=>ae (Nat.beq Ty Ty') (ae (Nat.beq sz sz') (ae (aq (l=[])) (T.set aP M i (some (.prow Ty sz α [] enc)) fun M'=>K (.sy (.prow i n)) M' nx)))) (fun i sz0 a n o c=>cV M i fun Ty' sz' _ l _=>ae (Nat.beq Ty Ty') (ae (Nat.beq sz sz') (ae (aq (l=[])) (T.set aP M i (some (.prow Ty sz α [] enc)) fun M'=>K (.sy (.psub i sz0 a n o c)) M' nx)))) (fun _ _ _ _=>false) (fun _ _ _=>false) (fun _=>false) (fun _ _ _ _ _=>false)) (kz v
 (ae (Nat.blt 0 sz) (T.set aP M nx (some (.prow Ty sz α [] enc)) fun M'=>fN (Nat.succ nx) fun q=>K (.sy (.prow nx 0)) M' q))
 (fun i o n c=>ae (Nat.beq o 0) (cA M i fun g Ty' sz' els=>ae (Nat.beq Ty Ty') (ae (Nat.beq sz sz') (ACap.casesOn c
  (fun c=>ae (Bool.rec true false g) (ae (Nat.beq (cj els) c) (ae (Nat.ble c 9223372036854775807) (aM (Nat.beq n 0)
   (T.set aP M i none fun M1=>T.set aP M1 nx (some (.prow Ty sz α [] enc)) fun M'=>fN (Nat.succ nx) fun q=>K (.sy (.prow nx 0)) M' q)
   (ae (Nat.beq n c) (uh els fun pss=>ee fun l:List α=>ae (aq (l.map enc=pss))
    (T.set aP M i none fun M1=>T.set aP M1 nx (some (.prow Ty sz α l enc)) fun M'=>fN (Nat.succ nx) fun q=>K (.sy (.prow nx l.length)) M' q)))))))
  (fun k=>ae (Nat.beq k 0) (ae g (ae (Nat.beq (cj els) n) (uh els fun pss=>ee fun l:List α=>ae (aq (l.map enc=pss))
   (T.set aP M i none fun M1=>T.set aP M1 nx (some (.prow Ty sz α l enc)) fun M'=>fN (Nat.succ nx) fun q=>K (.sy (.prow nx l.length)) M' q))))))))))
theorem Sim.nilRow (h:Sim E ρ G F M nx w) {M':T} {Ty sz:Nat} {α:Type} {enc:α→List PL} (hsz:0<sz) (h1:M'.get nx=some (.prow Ty sz α [] enc)) (h2:∀m,m≠nx→M'.get m=M.get m):Sim E (ρ.set nx ⟨0,0⟩) G F M' (nx+1) w:=by
 have h0:=h.fresh nx (amj _)
 have hle:=Ren.le_set (ρ:=ρ) ⟨0,0⟩ h0
 obtain⟨D_,F_,c,hF_,hq_,hh,hob,hinj⟩:=h.ex
 refine⟨⟨D_,F_,c,hF_,hq_.at_ h1 id (fun m_ q_ o_ hm_=>by rw[←h2 m_ q_];exact hm_),hh,fun j o hj=> ?_,fun j k e f o o' hj hk he hf hb1 hb2 hb=> ?_⟩,h.mem,fun j hj=> ?_⟩
 ·by_cases q:j=nx
  ·subst q
   rw[h1]at hj;cases hj
   exact⟨_,Ren.set_self _ _ _,.inr ⟨rfl,rfl,hsz⟩⟩
  ·rw[h2 j q]at hj
   obtain⟨e,a1,⟨q1,ob,q2,q3⟩|q1⟩:=hob j o hj
   ·exact⟨e,hle _ _ a1,.inl ⟨q1,ob,q2,q3.mono hle⟩⟩
   ·exact⟨e,hle _ _ a1,.inr q1⟩
 ·have nb:∀m e o,M'.get m=some o→ρ.set nx ⟨0,0⟩ m=some e→bC e o=true→m≠nx:=fun m e o q1 q2 q3 q4=>by
   subst q4
   rw[h1]at q1;cases q1
   rw[Ren.set_self]at q2;cases q2
   cases q3
  have nj:=nb j e o hj he hb1
  have nk:=nb k f o' hk hf hb2
  rw[h2 j nj]at hj
  rw[h2 k nk]at hk
  rw[Ren.set_ne _ nj]at he
  rw[Ren.set_ne _ nk]at hf
  exact hinj j k e f o o' hj hk he hf hb1 hb2 hb
 ·rw[Ren.set_ne _ (by omega)]
  exact h.fresh j (by omega)
theorem Sim.rekey (h:Sim E ρ G F M nx w) {i:Nat} {o o':AObj} {e e':cM} {M':T} (hi:M.get i=some o) (he:ρ i=some e) (hb:e'.b=e.b) (hB:bC e o=true) (hB':bC e' o'=true) (hr:∀ob,ORel E ρ e o ob→ORel E ρ e' o' ob)
  (h1:M'.get nx=some o') (h2:∀m,m≠nx→m≠i→M'.get m=M.get m) (h3:M'.get i=none) (hQ:¬BR o':=by exact id):Sim E (ρ.set nx e') G F M' (nx+1) w:=by
 have h0:=h.fresh nx (amj _)
 have hle:=Ren.le_set (ρ:=ρ) e' h0
 have hinx:i≠nx:=fun q=>by rw[q,h0]at he;cases he
 obtain⟨D_,F_,c,hF_,hq_,hh,hob,hinj⟩:=h.ex
 refine⟨⟨D_,F_,c,hF_,hq_.at_ h1 hQ (fun m_ q_ o_ hm_=>by
   by_cases q2_:m_=i
   ·subst q2_
    rw[h3]at hm_;cases hm_
   ·rw[←h2 m_ q_ q2_];exact hm_),hh,fun j o2 hj=> ?_,fun j k f1 f2 o1 o2 hj hk hf1 hf2 hb1 hb2 hbb=> ?_⟩,h.mem,fun j hj=> ?_⟩
 ·by_cases q:j=nx
  ·subst q
   rw[h1]at hj;cases hj
   obtain⟨f,a1,⟨q1,ob,q2,q3⟩|⟨q1,_⟩⟩:=hob i o hi
   ·rw[he]at a1;cases a1
    exact⟨e',Ren.set_self _ _ _,.inl ⟨hB',ob,by rw[hb];exact q2,(hr ob q3).mono hle⟩⟩
   ·rw[he]at a1;cases a1
    rw[hB]at q1;cases q1
  ·have qi:j≠i:=fun q=>by subst q;rw[h3]at hj;cases hj
   rw[h2 j q qi]at hj
   obtain⟨f,a1,⟨q1,ob,q2,q3⟩|q1⟩:=hob j o2 hj
   ·exact⟨f,hle _ _ a1,.inl ⟨q1,ob,q2,q3.mono hle⟩⟩
   ·exact⟨f,hle _ _ a1,.inr q1⟩
 ·have old:∀m,m≠nx→∀o3,M'.get m=some o3→m≠i∧M.get m=some o3:=fun m q o3 q2=>by
   have qi:m≠i:=fun q=>by subst q;rw[h3]at q2;cases q2
   exact⟨qi,by rw[←h2 m q qi];exact q2⟩
  by_cases q1:j=nx
  ·by_cases q2:k=nx
   ·omega
   ·exfalso
    subst q1
    rw[Ren.set_self]at hf1;cases hf1
    rw[Ren.set_ne _ q2]at hf2
    obtain⟨p1,p2⟩:=old k q2 o2 hk
    exact p1 (hinj k i f2 e o2 o p2 hi hf2 he hb2 hB (by rw[←hb,hbb]))
  ·by_cases q2:k=nx
   ·exfalso
    subst q2
    rw[Ren.set_self]at hf2;cases hf2
    rw[Ren.set_ne _ q1]at hf1
    obtain⟨p1,p2⟩:=old j q1 o1 hj
    exact p1 (hinj j i f1 e o1 o p2 hi hf1 he hb1 hB (by rw[hbb,hb]))
   ·rw[Ren.set_ne _ q1]at hf1
    rw[Ren.set_ne _ q2]at hf2
    exact hinj j k f1 f2 o1 o2 (old j q1 o1 hj).2 (old k q2 o2 hk).2 hf1 hf2 hb1 hb2 hbb
 ·rw[Ren.set_ne _ (by omega)]
  exact h.fresh j (by omega)
theorem CK (h:Sim E ρ G F M nx w) {v:AV} {Ty sz:Nat} {α:Type} {enc:α→List PL} {K:AV→T→Nat→Bool} (hk:Jh v Ty sz α enc M nx K=true):
  ∃v' M' nx' ρ',ρ.Le ρ'∧Sim E ρ' G F M' nx' w∧K v' M' nx'=true∧(∀x,den E ρ v=some x→den E ρ' v'=some x)∧v≠ .bad:=by
 have h0:=h.fresh nx (amj _)
 rcases aL hk with⟨-,g⟩|⟨-,hk⟩
 ·replace g:=co g
  clear hk
  obtain⟨s,rfl,g⟩:=g
  cases s<;>first|(cases g;done)|skip
  case prow i n=>
   obtain⟨Ty',sz',α',l,enc',hi,g1⟩:=bP g
   obtain⟨q1,g2⟩:=ac g1
   obtain⟨q2,g3⟩:=ac g2
   have q1:=al6 q1
   have q2:=al6 q2
   subst q1;subst q2
   obtain⟨hl,g4⟩:=ai g3
   subst hl
   obtain⟨M',g5,s1,s2⟩:=T.set_ok _ _ _ _ _ g4
   refine⟨_,M',nx,ρ,Ren.Le.refl _,h.reobj (o':=.prow Ty sz α [] enc) hi (fun e=>rfl) (fun e ob _ hr=> ?_) (fun q=>⟨rfl,q.2⟩) s1 s2,g5,fun x hx=>hx,by simp⟩
   obtain⟨arr,xs,o1,o2,o3,o4,o5,o6,o7⟩:=hr
   exact⟨arr,xs,o1,o2,fun y hy=>(by simp at hy),by simpa using o4,o5,o6,o7⟩
  case psub i sz0 a n o c=>
   obtain⟨Ty',sz',α',l,enc',hi,g1⟩:=bP g
   obtain⟨q1,g2⟩:=ac g1
   obtain⟨q2,g3⟩:=ac g2
   have q1:=al6 q1
   have q2:=al6 q2
   subst q1;subst q2
   obtain⟨hl,g4⟩:=ai g3
   subst hl
   obtain⟨M',g5,s1,s2⟩:=T.set_ok _ _ _ _ _ g4
   refine⟨_,M',nx,ρ,Ren.Le.refl _,h.reobj (o':=.prow Ty sz α [] enc) hi (fun e=>rfl) (fun e ob _ hr=> ?_) (fun q=>⟨rfl,q.2⟩) s1 s2,g5,fun x hx=>hx,by simp⟩
   obtain⟨arr,xs,o1,o2,o3,o4,o5,o6,o7⟩:=hr
   exact⟨arr,xs,o1,o2,fun y hy=>(by simp at hy),by simpa using o4,o5,o6,o7⟩
 rcases fC hk with⟨e,g⟩|⟨i,o,n,c,e,g⟩
 ·obtain⟨g1,g2⟩:=ac g
  rw[amq]at g1
  obtain⟨M',k1,s1,s2⟩:=T.set_ok _ _ _ _ _ g2
  rw[bt]at k1
  have hle:=Ren.le_set (ρ:=ρ) ⟨0,0⟩ h0
  refine⟨_,M',nx+1,_,hle,h.nilRow g1 s1 s2,k1,(fun x hx=> ?_),(by rw[e];simp)⟩
  rw[e]at hx
  cases hx
  simp[den,aJ,Ren.set_self,ii]
 ·obtain⟨q2,g2⟩:=ac g
  have q2:=al6 q2
  subst q2
  obtain⟨gr,Ty',sz',els,hi,g3⟩:=bE g2
  obtain⟨q4,g5⟩:=ac g3
  obtain⟨q5,g6⟩:=ac g5
  have q4:=al6 q4
  have q5:=al6 q5
  subst q4;subst q5
  obtain⟨f,arr,xs,e1,e2,e3,e4,e5,e6,e7,e8,e9⟩:=h.cellsAt hi
  have hinx:i≠nx:=fun q=>by rw[q,h0]at e1;cases e1
  cases c with
  |ex c=>
   obtain⟨q1,g7⟩:=ac g6
   obtain⟨q6,g8⟩:=ac g7
   obtain⟨q7,g9⟩:=ac g8
   have q1:gr=false:=by cases gr;rfl;cases q1
   subst q1
   have q6:els.length=c:=by rw[←bB];exact al6 q6
   rw[Nat.ble_eq]at q7
   have hle:=Ren.le_set (ρ:=ρ) ⟨f.b,c+1⟩ h0
   rcases aL g9 with⟨q3,g10⟩|⟨-,g10⟩
   ·have q3:=al6 q3
    subst q3
    obtain⟨M1,k1,s1,s2⟩:=T.set_ok _ _ _ _ _ g10
    obtain⟨M',k2,s3,s4⟩:=T.set_ok _ _ _ _ _ k1
    rw[bt]at k2
    refine⟨_,M',nx+1,_,hle,h.rekey (o':=.prow Ty sz α [] enc) (e':=⟨f.b,c+1⟩) hi e1 rfl rfl (bW rfl) (fun ob hr=> ?_) s3 (fun m a1 a2=>by rw[s4 m a1,s2 m a2]) (by rw[s4 i hinx,s1]),k2,(fun x hx=> ?_),(by rw[e];simp)⟩
    ·obtain⟨_,_,arr',xs',o1,o2,o3⟩:=hr
     simp only[cond_false]at o3
     have hl:=bA o2
     rw[dk e4,←o3,Array.length_toList]at hl
     refine⟨arr',[],o1,e5,fun y hy=>(by simp at hy),by simp[jK],?_,by simp,by simp,by simpa[maxLen] using q7⟩
     simp only[Nat.add_sub_cancel]
     rw[hl,q6]
    ·rw[e]at hx
     simp only[den,e1,cw]at hx
     cases hx
     simp[den,aJ,Ren.set_self,ii]
   ·obtain⟨q3,g11⟩:=ac g10
    have q3:=al6 q3
    subst q3
    obtain⟨pss,g12,r1,r2,r3,r4⟩:=oA e3 e4 g11
    obtain⟨l,g13⟩:=bk g12
    obtain⟨hl,g14⟩:=ai g13
    obtain⟨M1,k1,s1,s2⟩:=T.set_ok _ _ _ _ _ g14
    obtain⟨M',k2,s3,s4⟩:=T.set_ok _ _ _ _ _ k1
    rw[bt]at k2
    have hlen:l.length=els.length:=by rw[←r4,←hl,al4]
    refine⟨_,M',nx+1,_,hle,h.rekey (o':=.prow Ty sz α l enc) (e':=⟨f.b,n+1⟩) hi e1 rfl rfl (bW rfl) (fun ob hr=> ?_) s3 (fun m a1 a2=>by rw[s4 m a1,s2 m a2]) (by rw[s4 i hinx,s1]),k2,(fun x hx=> ?_),(by rw[e];simp)⟩
    ·obtain⟨_,_,arr',xs',o1,o2,o3⟩:=hr
     rw[e3]at o2
     cases o2
     simp only[cond_false]at o3
     have hl2:=bA e3
     rw[dk e4]at hl2
     have hx:xs=(l.flatMap enc).map aQ:=by rw[r1,←hl,List.flatMap_def]
     refine⟨arr',xs,o1,e5,fun y hy=>r3 _ (by rw[←hl];exact List.mem_map.2 ⟨y,hy,rfl⟩),by rw[hx];exact eI (fun p hp=>r2 p (by rw[←hl,←List.flatMap_def];exact hp)),?_,?_,by rw[hlen,q6];simp,by simpa[maxLen] using q7⟩
     ·simp only[Nat.add_sub_cancel]
      rw[←Array.length_toList,o3,hl2,q6]
     ·rw[o3,hlen,List.take_of_length_le (by rw[hl2];exact amj _)]
    ·rw[e]at hx
     simp only[den,e1,cw]at hx
     cases hx
     simp[den,aJ,Ren.set_self,ii,hlen,q6]
  |rest k=>
   obtain⟨q1,g7⟩:=ac g6
   have q1:=al6 q1
   subst q1
   obtain⟨q3,g8⟩:=ac g7
   subst q3
   obtain⟨q6,g9⟩:=ac g8
   have q6:els.length=n:=by rw[←bB];exact al6 q6
   obtain⟨p1,p2,p3⟩:=e9 rfl
   obtain⟨pss,g10,r1,r2,r3,r4⟩:=oA e3 e4 g9
   obtain⟨l,g11⟩:=bk g10
   obtain⟨hl,g12⟩:=ai g11
   obtain⟨M1,k1,s1,s2⟩:=T.set_ok _ _ _ _ _ g12
   obtain⟨M',k2,s3,s4⟩:=T.set_ok _ _ _ _ _ k1
   rw[bt]at k2
   have hle:=Ren.le_set (ρ:=ρ) ⟨f.b,f.cap+1⟩ h0
   have hlen:l.length=els.length:=by rw[←r4,←hl,al4]
   refine⟨_,M',nx+1,_,hle,h.rekey (o':=.prow Ty sz α l enc) (e':=⟨f.b,f.cap+1⟩) hi e1 rfl rfl (bW rfl) (fun ob hr=> ?_) s3 (fun m a1 a2=>by rw[s4 m a1,s2 m a2]) (by rw[s4 i hinx,s1]),k2,(fun x hx=> ?_),(by rw[e];simp)⟩
   ·obtain⟨_,_,arr',xs',o1,o2,o3⟩:=hr
    rw[e3]at o2
    cases o2
    simp only[cond_true]at o3
    obtain⟨u1,u2,u3,u4⟩:=o3
    have hx:xs=(l.flatMap enc).map aQ:=by rw[r1,←hl,List.flatMap_def]
    refine⟨arr',xs,o1,e5,fun y hy=>r3 _ (by rw[←hl];exact List.mem_map.2 ⟨y,hy,rfl⟩),by rw[hx];exact eI (fun p hp=>r2 p (by rw[←hl,←List.flatMap_def];exact hp)),by simpa using u1,by rw[hlen];exact u2,by rw[hlen];simpa using u3,by simpa using u4⟩
   ·rw[e]at hx
    simp only[den,e1,cw]at hx
    cases hx
    simp[den,aJ,Ren.set_self,ii,hlen,q6]
noncomputable def zU (t Ty sz:Nat) (α:Type) (enc:α→List PL) (S:SL) (M:T) (nx:Nat) (K:SL→T→Nat→Bool):Bool:=Jh (aS t S) Ty sz α enc M nx fun v M nx=>K (.cons t v S) M nx
theorem CJ {N:Nat} {S:SL} {a:Act} (s:SR E ρ N S a) (h:Sim E ρ G F M nx w) {t Ty sz:Nat} {α:Type} {enc:α→List PL} {K:SL→T→Nat→Bool} (hk:zU t Ty sz α enc S M nx K=true):
  ∃S' M' nx' ρ',ρ.Le ρ'∧SR E ρ' N S' a∧Sim E ρ' G F M' nx' w∧K S' M' nx'=true:=by
 obtain⟨v',M',nx',ρ',hl,h1,h2,h3,h4⟩:=CK h hk
 refine⟨_,M',nx',ρ',hl,⟨s.size,s.defs,fun u=> ?_⟩,h1,h2⟩
 by_cases q:t=u
 ·subst q
  rw[dq]
  obtain⟨x,q1,q2⟩:=(s.at_ t).resolve_left h4
  exact .inr ⟨x,h3 x q1,q2⟩
 ·rw[ey _ _ q]
  exact(s.mono hl).at_ u
theorem Sim.swap (h:Sim E ρ G F M nx w) {i q r:Nat} {g:Bool} {Ty sz:Nat} {els:List (List AV)} {el:List AV} {v v':AV} (hi:M.get i=some (.blk g Ty sz els)) (hq:els[q]?=some el) (hr:el[r]?=some v)
  (hv:∀x,den E ρ v=some x→den E ρ v'=some x) {M':T} (h1:M'.get i=some (.blk g Ty sz (els.take q++[el.take r++[v']++el.drop (r+1)]++els.drop (q+1)))) (h2:∀m,m≠i→M'.get m=M.get m):Sim E ρ G F M' nx w:=by
 obtain⟨D_,F_,c,hF_,hq_,hh,hob,hinj⟩:=h.ex
 have hle1:=(List.getElem?_eq_some_iff.1 hq).1
 have hle2:=(List.getElem?_eq_some_iff.1 hr).1
 have old:∀m o,M'.get m=some o→∃o2,M.get m=some o2∧∀e,bC e o=bC e o2:=fun m o hm=>by
  by_cases q1:m=i
  ·subst q1
   rw[h1]at hm;cases hm
   exact⟨_,hi,fun e=>rfl⟩
  ·rw[h2 m q1]at hm
   exact⟨o,hm,fun e=>rfl⟩
 refine⟨⟨D_,F_,c,hF_,hq_.at_ h1 id (fun m_ q_ o_ hm_=>by rw[←h2 m_ q_];exact hm_),hh,fun m o hm=> ?_,fun m k e f o o' hm hk he hf hb1 hb2 hb=> ?_⟩,h.mem,h.fresh⟩
 ·by_cases q1:m=i
  ·subst q1
   rw[h1]at hm;cases hm
   obtain⟨e,a1,⟨b1,ob,b2,b3⟩|⟨b1,b2⟩⟩:=hob m _ hi
   ·refine⟨e,a1,.inl ⟨rfl,ob,b2,?_⟩⟩
    obtain⟨c1,c2,arr,xs,c3,c4,c5⟩:=b3
    have hel:∀l∈els.take q++[el.take r++[v']++el.drop (r+1)]++els.drop (q+1),l.length=sz:=by
     intro l hl
     simp only[List.mem_append,List.mem_singleton]at hl
     have:=c1 el (al7 hq)
     rcases hl with(hl|rfl)|hl
     ·exact c1 l (List.mem_of_mem_take hl)
     ·simp only[List.length_append,ami,List.length_drop,List.length_singleton];omega
     ·exact c1 l (List.mem_of_mem_drop hl)
    have hlen:(els.take q++[el.take r++[v']++el.drop (r+1)]++els.drop (q+1)).length=els.length:=by
     simp only[List.length_append,ami,List.length_drop,List.length_singleton];omega
    have e1:els=els.take q++[el]++els.drop (q+1):=by
     rw[amb,List.singleton_append]
     have:=List.take_append_drop q els
     rw[List.drop_eq_getElem_cons hle1]at this
     rw[←(List.getElem?_eq_some_iff.1 hq).2];exact this.symm
    have e2:el=el.take r++[v]++el.drop (r+1):=by
     rw[amb,List.singleton_append]
     have:=List.take_append_drop r el
     rw[List.drop_eq_getElem_cons hle2]at this
     rw[←(List.getElem?_eq_some_iff.1 hr).2];exact this.symm
    have hd:ay E ρ (els.take q++[el.take r++[v']++el.drop (r+1)]++els.drop (q+1)).flatten=some xs:=by
     rw[e1]at c4
     simp only[List.flatten_append,al8,List.flatten_nil,List.append_nil]at c4 ⊢
     obtain⟨y1,z1,d1,d2,rfl⟩:=dy c4
     obtain⟨y2,z2,d3,d4,rfl⟩:=dy d1
     rw[e2]at d4
     obtain⟨y3,z3,d5,d6,rfl⟩:=dy d4
     obtain⟨y4,z4,d7,d8,rfl⟩:=dy d5
     obtain⟨x,_,d9,d10,rfl⟩:=bf d8
     refine dl (dl d3 (dl (dl d7 ?_) d6)) d2
     exact eR (hv x d9) d10
    refine⟨hel,c2,arr,xs,c3,hd,?_⟩
    rw[hlen];exact c5
   ·cases b1
  ·rw[h2 m q1]at hm
   exact hob m o hm
 ·obtain⟨o2,f1,f2⟩:=old m o hm
  obtain⟨o3,f3,f4⟩:=old k o' hk
  rw[f2]at hb1
  rw[f4]at hb2
  exact hinj m k e f o2 o3 f1 f3 he hf hb1 hb2 hb
noncomputable def UH (i q r Ty sz:Nat) (α:Type) (enc:α→List PL) (M:T) (nx:Nat) (K:T→Nat→Bool):Bool:=
 cA M i fun _ _ _ els=>bF (bS els q) fun el=>bF (bS el r) fun v=>aM (dx v) (K M nx) (Jh v Ty sz α enc M nx fun v' M' nx'=>cA M' i fun g T2 s2 els=>bF (bS els q) fun el'=>bF (bS el' r) fun v2=>ae (aq (v2=v))
  (upd el' r [v'] fun e2=>upd els q [e2] fun els2=>T.set aP M' i (some (.blk g T2 s2 els2)) fun M2=>K M2 nx'))
theorem Rg (h:Sim E ρ G F M nx w) {i q r Ty sz:Nat} {α:Type} {enc:α→List PL} {K:T→Nat→Bool} (hk:UH i q r Ty sz α enc M nx K=true):
  ∃M' nx' ρ',ρ.Le ρ'∧Sim E ρ' G F M' nx' w∧K M' nx'=true:=by
 obtain⟨g,T1,s1,els,h1,hk⟩:=bE hk
 obtain⟨el,h2,hk⟩:=aT hk
 obtain⟨v,h3,hk⟩:=aT hk
 rcases aL hk with⟨-,hk⟩|⟨-,hk⟩
 ·exact⟨M,nx,ρ,Ren.Le.refl _,h,hk⟩
 obtain⟨v',M',nx',ρ',le,sm,hk,hv,hb⟩:=CK h hk
 obtain⟨g,T2,s2,els2,h4,hk⟩:=bE hk
 obtain⟨el2,h5,hk⟩:=aT hk
 obtain⟨v2,h6,hk⟩:=aT hk
 obtain⟨hvv,hk2⟩:=ai hk
 obtain⟨hk3,l1⟩:=bG hk2
 obtain⟨hk4,l2⟩:=bG hk3
 obtain⟨M2,hk5,g1,g2⟩:=T.set_ok _ _ _ _ _ hk4
 clear hk hk2 hk3 hk4
 subst hvv
 rw[cx]at h2 h3 h5 h6
 refine⟨M2,nx',ρ',le,sm.swap h4 h5 h6 (fun x hx=> ?_) g1 g2,hk5⟩
 -- the cell's value is known already in the old numbers
 obtain⟨e,arr,xs,e1,e2,e3,e4,e5,e6,e7,e8,e9⟩:=h.cellsAt h1
 have hmem:v2∈els.flatten:=List.mem_flatten.2 ⟨el,al7 h2,al7 h3⟩
 obtain⟨k,hk2⟩:=List.mem_iff_getElem?.1 hmem
 obtain⟨y,y1,_⟩:=eS e3 hk2
 have:=dL le v2 y y1
 rw[this]at hx
 cases hx
 exact hv _ y1
noncomputable def Uz (i q r:Nat) (M:T) (K:T→Bool):Bool:=
 cA M i fun _ _ _ els=>bF (bS els q) fun el=>bF (bS el r) fun v=>xz v M fun u M'=>cA M' i fun g T2 s2 els=>bF (bS els q) fun el'=>bF (bS el' r) fun v2=>ae (aq (v2=v))
  (upd el' r [u] fun e2=>upd els q [e2] fun els2=>T.set aP M' i (some (.blk g T2 s2 els2)) K)
theorem QM (h:Sim E ρ G F M nx w) {i q r:Nat} {K:T→Bool} (hk:Uz i q r M K=true):
  ∃E' M',kG ρ E E'∧E'.at_=E.at_∧Sim E' ρ G F M' nx w∧K M'=true:=by
 obtain⟨g,T1,s1,els,h1,hk⟩:=bE hk
 obtain⟨el,h2,hk⟩:=aT hk
 obtain⟨v,h3,hk⟩:=aT hk
 rw[cx]at h2 h3
 obtain⟨e,arr,xs,e1,e2,e3,e4,e5,e6,e7,e8,e9⟩:=h.cellsAt h1
 have hmem:v∈els.flatten:=List.mem_flatten.2 ⟨el,al7 h2,al7 h3⟩
 obtain⟨k,hk2⟩:=List.mem_iff_getElem?.1 hmem
 obtain⟨y,y1,_⟩:=eS e3 hk2
 obtain⟨E1,M1,u,f1,f2,f3,f4,hk3⟩:=rD h y1 hk
 obtain⟨g,T2,s2,els2,h4,hk4⟩:=bE hk3
 obtain⟨el2,h5,hk5⟩:=aT hk4
 obtain⟨v2,h6,hk6⟩:=aT hk5
 obtain⟨hvv,hk7⟩:=ai hk6
 obtain⟨hk8,l1⟩:=bG hk7
 obtain⟨hk9,l2⟩:=bG hk8
 obtain⟨M2,hk10,g1,g2⟩:=T.set_ok _ _ _ _ _ hk9
 subst hvv
 rw[cx]at h5 h6
 refine⟨E1,M2,f1,f2,f3.swap h4 h5 h6 (fun x hx=> ?_) g1 g2,hk10⟩
 rw[ez f1 _ _ y1]at hx
 cases hx
 exact dL (ρ:=fun _=>none) (fun _ _ q=>by cases q) u y f4
noncomputable def QP (v:AV) (K:AV→Bool):Bool:=AV.casesOn v (K .bad) (fun k z=>K (.int k z)) (fun b=>K (.bool b)) (fun l=>K (.str l)) (fun i o=>K (.ptr i o)) (fun i o n c=>K (.sl i o n c)) (fun i=>K (.map i)) (K .nilP) (K .nilS) (K .nilM) (K .nilF) (K .nilI) (fun t v=>K (.iface t v)) (fun f c=>K (.fn f c)) (fun i=>K (.yl i)) (fun l=>K (.agg l)) (fun l=>K (.tup l)) (fun i=>K (.any i)) (fun s=>K (.sy s))
theorem FS {v:AV} {K:AV→Bool} (h:QP v K=true):K v=true:=by
 cases v<;>exact h
noncomputable def upV (v:AV):AV:=AV.casesOn v .bad (fun k z=>.sy (.int k z)) (fun b=>.sy (.bool (b=true))) (fun l=>.sy (.str (l.map UInt8.ofNat))) (fun i o=>.ptr i o) (fun i o n c=>.sl i o n c) (fun i=>.map i) .nilP .nilS .nilM .nilF .nilI (fun t v=>.iface t v) (fun f c=>.fn f c) (fun i=>.yl i) (fun l=>.agg l) (fun l=>.tup l) (fun i=>.any i) (fun s=>.sy s)
theorem ED {v:AV} {x:Value} (h:den E ρ v=some x):den E ρ (upV v)=some x:=by
 cases v<;>first|exact h|skip
 case bool b=>
  simp only[den]at h
  cases h
  show aJ E ρ (.bool (b=true))=_
  simp only[aJ,oH]
noncomputable def upX (t:Nat) (S:SL) (K:SL→Bool):Bool:=QP (upV (aS t S)) fun v=>K (.cons t v S)
theorem ab1 {N:Nat} {S:SL} {a:Act} (s:SR E ρ N S a) {t:Nat} {K:SL→Bool} (hk:upX t S K=true):∃S',SR E ρ N S' a∧K S'=true:=by
 have hk:=FS hk
 refine⟨_,⟨s.size,s.defs,fun u=> ?_⟩,hk⟩
 by_cases q:t=u
 ·subst q
  rw[dq]
  rcases s.at_ t with q|⟨x,q1,q2⟩
  ·rw[q];exact .inl rfl
  ·exact .inr ⟨x,ED q1,q2⟩
 ·rw[ey _ _ q]
  exact s.at_ u
noncomputable def alG (M:T) (i q r:Nat):Bool:=Option.casesOn (M.get i) false fun ob=>AObj.casesOn ob (fun _ _ _ els=>Option.casesOn (bS els q) false fun el=>Option.casesOn (bS el r) false fun _=>true) (fun _ _=>false) (fun _ _ _ _=>false) false (fun _ _ _ _ _=>false) (fun _ _ _ _ _ _ _=>false) (fun _ _ _ _ _ _ _ _ _ _=>false) (fun _ _ _=>false)
noncomputable def ab0 (i q r:Nat) (M:T) (K:T→Bool):Bool:=aM (alG M i q r) (cA M i fun g Ty sz els=>bF (bS els q) fun el=>bF (bS el r) fun v=>QP (upV v) fun v'=>upd el r [v'] fun e2=>upd els q [e2] fun els2=>T.set aP M i (some (.blk g Ty sz els2)) K) (K M)
theorem UZ (h:Sim E ρ G F M nx w) {i q r:Nat} {K:T→Bool} (hk:ab0 i q r M K=true):∃M',Sim E ρ G F M' nx w∧K M'=true:=by
 rcases aL hk with⟨-,hk⟩|⟨-,hk⟩
 case inr=>exact⟨M,h,hk⟩
 obtain⟨g,Ty,sz,els,h1,hk⟩:=bE hk
 obtain⟨el,h2,hk⟩:=aT hk
 obtain⟨v,h3,hk⟩:=aT hk
 have hk:=FS hk
 obtain⟨hk,l1⟩:=bG hk
 obtain⟨hk,l2⟩:=bG hk
 obtain⟨M2,hk,g1,g2⟩:=T.set_ok _ _ _ _ _ hk
 rw[cx]at h2 h3
 exact⟨M2,h.swap h1 h2 h3 (fun x hx=>ED hx) g1 g2,hk⟩
theorem Sim.swapK (h:Sim E ρ G F M nx w) {i:Nat} {es:List (AV×AV×Nat)} {cl:Nat} {ak av:Bool} {α:Type} {l:List α} {kf vf:α→List PL} (hi:M.get i=some (.map es cl)) (hs:es.map (fun e=>(e.1,e.2.1))=l.map (fun x=>(aU ak (kf x),aU av (vf x)))) (hbo:BOk es cl) {M':T} (h1:M'.get i=some (.kmap true ak av α l kf vf)) (h2:∀m,m≠i→M'.get m=M.get m):Sim E ρ G F M' nx w:=by
 obtain⟨D_,F_,c,hF_,hq_,hh,hob,hinj⟩:=h.ex
 have old:∀m o,M'.get m=some o→∃o2,M.get m=some o2∧∀e,bC e o=bC e o2:=fun m o hm=>by
  by_cases q1:m=i
  ·subst q1
   rw[h1]at hm;cases hm
   exact⟨_,hi,fun e=>rfl⟩
  ·rw[h2 m q1]at hm
   exact⟨o,hm,fun e=>rfl⟩
 refine⟨⟨D_,F_,c,hF_,hq_.at_ h1 id (fun m_ q_ o_ hm_=>by rw[←h2 m_ q_];exact hm_),hh,fun m o hm=> ?_,fun m k e f o o' hm hk he hf hb1 hb2 hb=> ?_⟩,h.mem,h.fresh⟩
 ·by_cases q1:m=i
  ·subst q1
   rw[h1]at hm;cases hm
   obtain⟨e,a1,⟨b1,ob,b2,b3⟩|⟨b1,b2⟩⟩:=hob m _ hi
   ·obtain⟨ms,c1,c2⟩:=b3
    exact⟨e,a1,.inl ⟨rfl,ob,b2,es,cl,ms,hs,c1,c2,hbo⟩⟩
   ·cases b1
  ·rw[h2 m q1]at hm
   exact hob m o hm
 ·obtain⟨o2,f1,f2⟩:=old m o hm
  obtain⟨o3,f3,f4⟩:=old k o' hk
  rw[f2]at hb1
  rw[f4]at hb2
  exact hinj m k e f o2 o3 f1 f3 he hf hb1 hb2 hb
noncomputable def kbX (i:Nat) (ak av:Bool) (α:Type) (kf vf:α→List PL) (M:T) (K:T→Bool):Bool:=aM (FK M i) (K M) (gL M i fun es cl=>ee fun l:List α=>ae (aq (es.map (fun e=>(e.1,e.2.1))=l.map (fun x=>(aU ak (kf x),aU av (vf x)))∧BOk es cl)) (T.set aP M i (some (.kmap true ak av α l kf vf)) K))
theorem af2 (h:Sim E ρ G F M nx w) {i:Nat} {ak av:Bool} {α:Type} {kf vf:α→List PL} {K:T→Bool} (hk:kbX i ak av α kf vf M K=true):∃M',Sim E ρ G F M' nx w∧K M'=true:=by
 rcases aL hk with⟨_,hk⟩|⟨_,hk⟩
 ·exact⟨M,h,hk⟩
 obtain⟨es,cl,h1,hk⟩:=dY hk
 obtain⟨l,hk⟩:=bk hk
 obtain⟨⟨hs,hbo⟩,hk⟩:=ai hk
 obtain⟨M2,hk,g1,g2⟩:=T.set_ok _ _ _ _ _ hk
 exact⟨M2,h.swapK h1 hs hbo g1 g2,hk⟩
noncomputable def QS (t n:Nat) (S:SL) (K:SL→Bool):Bool:=AV.casesOn (aS t S) false (fun _ _=>K S) (fun _=>false) (fun _=>false) (fun _ _=>false) (fun _ _ _ _=>false) (fun _=>false) false false false false false (fun _ _=>false) (fun _ _=>false) (fun _=>false) (fun _=>false) (fun _=>false) (fun _=>false)
 (fun s=>SY.casesOn s (fun k z=>qE n z (fun j=>fN j fun j=>K (.cons t (.int k (Int.ofNat j)) S)) 0) (fun _=>false) (fun _=>false) (fun _ _ _ _ _=>false) (fun _ _ _=>false) (fun _ _=>false) (fun _ _ _ _ _ _=>false) (fun _ _ _ _=>false) (fun _ _ _=>false) (fun _=>false) (fun _ _ _ _ _=>false))
theorem ZF {N:Nat} {S:SL} {a:Act} (s:SR E ρ N S a) {t n:Nat} {K:SL→Bool} (hk:QS t n S K=true):∃S',SR E ρ N S' a∧K S'=true:=by
 unfold QS at hk
 generalize e:aS t S=v at hk
 cases v<;>first|(cases hk;done)|exact⟨S,s,hk⟩|skip
 case sy s'=>
  cases s'<;>first|(cases hk;done)|skip
  case int k z=>
   obtain⟨j,h1,_,h2⟩:=oh (show qE n z (fun j=>fN j fun j=>K (.cons t (.int k (Int.ofNat j)) S)) 0=true from hk)
   rw[bt]at h2
   refine⟨_,⟨s.size,s.defs,fun u=> ?_⟩,h2⟩
   by_cases q:t=u
   ·subst q
    rw[dq]
    rcases s.at_ t with q|⟨x,q1,q2⟩
    ·rw[e]at q;cases q
    ·refine .inr ⟨x,?_,q2⟩
     rw[e]at q1
     rw[←q1,h1]
     rfl
   ·rw[ey _ _ q]
    exact s.at_ u
noncomputable def TM (i q r:Nat) (M:T) (K:T→Bool):Bool:=cA M i fun g Ty sz els=>bF (bS els q) fun el=>bF (bS el r) fun v=>ej v fun s=>SY.casesOn s (fun _ _=>false) (fun _=>false) (fun _=>false) (fun _ _ _ _ _=>false) (fun _ _ _=>false)
 (fun j n=>cV M j fun _ sz' _ l _=>ae (aq (n=l.length)) (aj fun c:Nat=>upd el r [.sy (.psub j sz' 0 n 0 (some c))] fun e2=>upd els q [e2] fun els2=>T.set aP M i (some (.blk g Ty sz els2)) K)) (fun _ _ _ _ _ _=>K M) (fun _ _ _ _=>false) (fun _ _ _=>false) (fun _=>false) (fun _ _ _ _ _=>false)
theorem NE (h:Sim E ρ G F M nx w) {i q r:Nat} {K:T→Bool} (hk:TM i q r M K=true):∃M',Sim E ρ G F M' nx w∧K M'=true:=by
 obtain⟨g,Ty,sz,els,h1,hk1⟩:=bE hk
 obtain⟨el,h2,hk2⟩:=aT hk1
 obtain⟨v,h3,hk3⟩:=aT hk2
 obtain⟨s,rfl,hk4⟩:=co hk3
 clear hk hk1 hk2 hk3
 rw[cx]at h2 h3
 cases s<;>first|(cases hk4;done)|exact⟨M,h,hk4⟩|skip
 case prow j n=>
  obtain⟨Ty',sz',α,l,enc,hi',g1⟩:=bP hk4
  obtain⟨hn,e2⟩:=ai g1
  obtain⟨f,q1,hsz,hrow⟩:=h.prow hi'
  obtain⟨e3,l1⟩:=bG (aV e2 (f.cap - 1))
  obtain⟨e4,l2⟩:=bG e3
  obtain⟨M2,e5,g1,g2⟩:=T.set_ok _ _ _ _ _ e4
  refine⟨M2,h.swap h1 h2 h3 (v':=.sy (.psub j sz' 0 n 0 (some (f.cap - 1)))) (fun x hx=> ?_) g1 g2,e5⟩
  simp only[den,aJ,q1]at hx ⊢
  rcases cZ hx with⟨c0,rfl,rfl⟩|⟨c,qc,rfl⟩
  ·simp[gQ,c0]
  ·rcases hrow with⟨q2,_⟩|⟨c',arr,q2,q3,r⟩
   ·omega
   ·have:=r.le
    simp only[gQ,qc]
    rw[if_pos ⟨by omega,fun q e=>by cases e;omega⟩]
    simp
noncomputable def IW (i q r lo n:Nat) (M:T) (K:T→Bool):Bool:=cA M i fun g Ty sz els=>bF (bS els q) fun el=>bF (bS el r) fun v=>AV.casesOn v false (fun _ _=>K M) (fun _=>false) (fun _=>false) (fun _ _=>false) (fun _ _ _ _=>false) (fun _=>false) false false false false false (fun _ _=>false) (fun _ _=>false) (fun _=>false) (fun _=>false) (fun _=>false) (fun _=>false)
 (fun s=>SY.casesOn s (fun k z=>qE n z (fun j=>fN j fun j=>upd el r [.int k (Int.ofNat j)] fun e2=>upd els q [e2] fun els2=>T.set aP M i (some (.blk g Ty sz els2)) K) lo) (fun _=>false) (fun _=>false) (fun _ _ _ _ _=>false) (fun _ _ _=>false) (fun _ _=>false) (fun _ _ _ _ _ _=>false) (fun _ _ _ _=>false) (fun _ _ _=>false) (fun _=>false) (fun _ _ _ _ _=>false))
theorem Co (h:Sim E ρ G F M nx w) {i q r lo n:Nat} {K:T→Bool} (hk:IW i q r lo n M K=true):∃M',Sim E ρ G F M' nx w∧K M'=true:=by
 obtain⟨g,Ty,sz,els,h1,hk1⟩:=bE hk
 obtain⟨el,h2,hk2⟩:=aT hk1
 obtain⟨v,h3,hk3⟩:=aT hk2
 clear hk hk1 hk2
 rw[cx]at h2 h3
 cases v<;>first|(cases hk3;done)|exact⟨M,h,hk3⟩|skip
 case sy s'=>
  cases s'<;>first|(cases hk3;done)|skip
  case int k z=>
   obtain⟨j,e1,_,e2⟩:=oh (show qE n z (fun j=>fN j fun j=>upd el r [.int k (Int.ofNat j)] fun e2=>upd els q [e2] fun els2=>T.set aP M i (some (.blk g Ty sz els2)) K) lo=true from hk3)
   rw[bt]at e2
   obtain⟨e3,l1⟩:=bG e2
   obtain⟨e4,l2⟩:=bG e3
   obtain⟨M2,e5,g1,g2⟩:=T.set_ok _ _ _ _ _ e4
   refine⟨M2,h.swap h1 h2 h3 (v':=.int k (Int.ofNat j)) (fun x hx=> ?_) g1 g2,e5⟩
   rw[←hx,e1]
   rfl
noncomputable def Hj (t:Nat) (S:SL):Nat:=AV.casesOn (aS t S) 0 (fun _ z=>Int.casesOn z (fun n=>n) (fun _=>0)) (fun _=>0) (fun _=>0) (fun _ _=>0) (fun _ _ _ _=>0) (fun _=>0) 0 0 0 0 0 (fun _ _=>0) (fun _ _=>0) (fun _=>0) (fun _=>0) (fun _=>0) (fun _=>0) (fun _=>0)
noncomputable def Ig (t:Nat) (S:SL):Bool:=AV.casesOn (aS t S) false (fun _ _=>true) (fun _=>false) (fun _=>false) (fun _ _=>false) (fun _ _ _ _=>false) (fun _=>false) false false false false false (fun _ _=>false) (fun _ _=>false) (fun _=>false) (fun _=>false) (fun _=>false) (fun _=>false) (fun _=>false)
noncomputable def IX (t u v n m:Nat) (S:SL) (K:SL→Bool):Bool:=AV.casesOn (aS t S) false (fun _ _=>false) (fun _=>K S) (fun _=>false) (fun _ _=>false) (fun _ _ _ _=>false) (fun _=>false) false false false false false (fun _ _=>false) (fun _ _=>false) (fun _=>false) (fun _=>false) (fun _=>false) (fun _=>false)
 (fun s=>SY.casesOn s (fun _ _=>false) (fun p=>Bool.rec (ae (aq (¬p)) (K (.cons t (.bool false) S))) (ae (aq p) (K (.cons t (.bool true) S))) (Nat.blt (Hj u S) (Bool.rec m n (Ig v S)))) (fun _=>false) (fun _ _ _ _ _=>false) (fun _ _ _=>false) (fun _ _=>false) (fun _ _ _ _ _ _=>false) (fun _ _ _ _=>false) (fun _ _ _=>false) (fun _=>false) (fun _ _ _ _ _=>false))
theorem QR {N:Nat} {S:SL} {a:Act} (s:SR E ρ N S a) {t u v n m:Nat} {K:SL→Bool} (hk:IX t u v n m S K=true):∃S',SR E ρ N S' a∧K S'=true:=by
 unfold IX at hk
 generalize e:aS t S=x at hk
 cases x<;>first|(cases hk;done)|exact⟨S,s,hk⟩|skip
 case sy s'=>
  cases s'<;>first|(cases hk;done)|skip
  case bool p=>
   have fin:∀b:Bool,aq p=b→∃S',SR E ρ N S' a∧S'= .cons t (.bool b) S:=fun b hb=>by
    refine⟨_,⟨s.size,s.defs,fun r=> ?_⟩,rfl⟩
    by_cases q:t=r
    ·subst q
     rw[dq]
     rcases s.at_ t with q1|⟨x,q1,q2⟩
     ·rw[e]at q1;cases q1
     ·rw[e]at q1
      refine .inr ⟨x,?_,q2⟩
      simp only[den,aJ]at q1 ⊢
      rw[←q1,hb]
    ·rw[ey _ _ q]
     exact s.at_ r
   have hk:(Bool.rec (ae (aq (¬p)) (K (.cons t (.bool false) S))) (ae (aq p) (K (.cons t (.bool true) S))) (Nat.blt (Hj u S) (Bool.rec m n (Ig v S))):Bool)=true:=hk
   cases hb:Nat.blt (Hj u S) (Bool.rec m n (Ig v S)) with
   |false=>
    rw[hb]at hk
    obtain⟨h1,h2⟩:=ai (show ae (aq (¬p)) (K (.cons t (.bool false) S))=true from hk)
    obtain⟨S',h3,h4⟩:=fin false (prB_false.2 h1)
    exact⟨S',h3,by rw[h4];exact h2⟩
   |true=>
    rw[hb]at hk
    obtain⟨h1,h2⟩:=ai (show ae (aq p) (K (.cons t (.bool true) S))=true from hk)
    obtain⟨S',h3,h4⟩:=fin true (prB_true.2 h1)
    exact⟨S',h3,by rw[h4];exact h2⟩
end
section
variable {P:Program} {E:Env} {ρ:Ren} {G:GS} {F:List aH} {M:T} {nx:Nat} {w:World}
noncomputable def agT (t:Nat) (S:SL) (M:T) (K:SL→T→Bool):Bool:=ej (aS t S) fun s=>SY.casesOn s (fun _ _=>false) (fun _=>false) (fun _=>false) (fun _ _ _ _ _=>false) (fun _ _ _=>false) (fun i n=>cV M i fun _ _ _ l _=>ae (aq (n=l.length)) (K (.cons t (.sy (.prow i l.length)) S) M))
 (fun i _ a n o c=>cV M i fun Ty sz' _ l enc=>ae (aq (a=0∧o=0∧n≤l.length)) (T.set aP M i (some (.prow Ty sz' _ (l.take n) enc)) fun M'=>K (.cons t (.sy (.prow i (l.take n).length)) S) M')) (fun _ _ _ _=>false) (fun _ _ _=>false) (fun _=>false) (fun _ _ _ _ _=>false)
theorem ZN {N:Nat} {S:SL} {a:Act} (s:SR E ρ N S a) (h:Sim E ρ G F M nx w) {t:Nat} {K:SL→T→Bool} (hk:agT t S M K=true):∃S' M',SR E ρ N S' a∧Sim E ρ G F M' nx w∧K S' M'=true:=by
 obtain⟨sy,hv,g⟩:=co hk
 cases sy<;>first|(cases g;done)|skip
 case prow i n=>
  obtain⟨Ty,sz',α,l,enc,hi,g⟩:=bP g
  obtain⟨hn,g2⟩:=ai g
  refine⟨_,M,⟨s.size,s.defs,fun u=> ?_⟩,h,g2⟩
  by_cases q:t=u
  ·subst q
   rw[dq]
   rw[←hn,←hv]
   exact s.at_ t
  ·rw[ey _ _ q];exact s.at_ u
 case psub i sz b n o c=>
  obtain⟨Ty,sz',α,l,enc,hi,g⟩:=bP g
  obtain⟨⟨hb0,ho0,hn⟩,g2⟩:=ai g
  clear g
  subst hb0;subst ho0
  obtain⟨M',k1,k2,k3⟩:=T.set_ok _ _ _ _ _ g2
  refine⟨_,M',⟨s.size,s.defs,fun u=> ?_⟩,h.reobj (o':=.prow Ty sz' α (l.take n) enc) hi (fun e=>rfl) (fun e ob _ hr=> ?_) (fun hr=>⟨by rw[hr.1];exact List.take_nil,hr.2⟩) k2 k3,k1⟩
  ·by_cases q:t=u
   ·subst q
    rw[dq]
    rcases s.at_ t with q|⟨x,q1,q2⟩
    ·rw[hv]at q;cases q
    refine .inr ⟨x,?_,q2⟩
    rw[hv]at q1
    simp only[den,aJ]at q1 ⊢
    split at q1
    case h_2=>cases q1
    rename_i e he
    show ii e (l.take n).length=some x
    rw[show(l.take n).length=n by rw[ami];omega]
    rcases dp q1 with⟨c1,c2,_,rfl⟩|⟨c',c1,rfl,c2,c3⟩
    ·subst c2;simp[ii,c1]
    ·simp[ii,c1]
   ·rw[ey _ _ q];exact s.at_ u
  ·exact hr.take hn
theorem RowAt.taken {e:cM} {Ty sz c n:Nat} {α:Type} {l:List α} {enc:α→List PL} {arr:Array Value} (hm:∀x∈l,(enc x).length=sz) (hn:n≤l.length) (r:RowAt E w e Ty sz (l.flatMap enc) l.length c arr):RowAt E w e Ty sz ((l.take n).flatMap enc) (l.take n).length c arr:=by
 have hlen:(l.take n).length=n:=by rw[ami];omega
 have hsp:(l.take n).flatMap enc++(l.drop n).flatMap enc=l.flatMap enc:=by rw[←List.flatMap_append,List.take_append_drop]
 have htl:((l.take n).flatMap enc).length=n*sz:=by rw[db fun x hx=>hm x (List.mem_of_mem_take hx),hlen]
 refine⟨r.heap,fun p hp=>r.ok p (by rw[←hsp];exact List.mem_append.2 (.inl hp)),by rw[htl,hlen],r.size,?_,by rw[hlen];exact Nat.le_trans hn r.le,r.max⟩
 rw[hlen]
 have e1:(arr.toList.take (l.length*sz)).take (n*sz)=arr.toList.take (n*sz):=by rw[List.take_take];congr 1;exact Nat.min_eq_left (Nat.mul_le_mul_right _ hn)
 rw[←e1,r.take,←hsp,List.map_append,List.take_left' (by rw[al4,htl])]
noncomputable def agA (t:Nat) (S:SL) (M:T) (K:SL→T→Bool):Bool:=ej (aS t S) fun s=>SY.casesOn s (fun _ _=>false) (fun _=>false) (fun _=>false) (fun _ _ _ _ _=>K S M) (fun _ _ _=>false) (fun _ _=>xz (aS t S) M fun v M=>K (.cons t v S) M)
 (fun _ _ _ _ _ _=>false) (fun _ _ _ _=>false) (fun i n c=>cV M i fun _ sz α l enc=>ae (aq (n≤c∧c≤l.length)) (T.set aP M i none fun M'=>aj fun h:Value=>K (.cons t (.sy (.imm h sz α (l.take n) enc)) S) M')) (fun _=>false) (fun _ _ _ _ _=>false)
theorem ZB {N:Nat} {S:SL} {a:Act} (s:SR E ρ N S a) (h:Sim E ρ G F M nx w) {t:Nat} {K:SL→T→Bool} (hk:agA t S M K=true):
  ∃E' S' M',kG ρ E E'∧E'.at_=E.at_∧SR E' ρ N S' a∧Sim E' ρ G F M' nx w∧K S' M'=true:=by
 have mv:∀{E1:Env} {u:AV} {x:Value},kG ρ E E1→a.tmps.getD t undef=x→den E1 (fun _=>none) u=some x→SR E1 ρ N (.cons t u S) a:=fun{E1 u x} e1 q2 e4=>⟨s.size,s.defs,fun r=>by
  by_cases q:t=r
  ·subst q
   rw[dq]
   exact .inr ⟨x,dL (ρ:=fun _=>none) (fun _ _ q=>by cases q) u x e4,q2⟩
  ·rw[ey _ _ q]
   exact(s.at_ r).imp id fun⟨y,y1,y2⟩=>⟨y,ez e1 _ _ y1,y2⟩⟩
 obtain⟨sy,hv,g⟩:=co hk
 have hne:aS t S≠ .bad:=fun e=>by rw[e]at hv;cases hv
 obtain⟨x,q1,q2⟩:=(s.at_ t).resolve_left hne
 cases sy<;>first|(cases g;done)|skip
 case imm=>exact⟨E,S,M,⟨fun _ _ _=>rfl,MLe.refl _⟩,rfl,s,h,g⟩
 case prow=>
  obtain⟨E1,M1,u,e1,e2,e3,e4,k1⟩:=rD (K:=fun v M=>K (.cons t v S) M) h q1 g
  exact⟨E1,_,M1,e1,e2,mv e1 q2 e4,e3,k1⟩
 case pfix i n c=>
  obtain⟨Ty,sz,α,l,enc,hi,g1⟩:=bP g
  obtain⟨⟨hn,hc⟩,g2⟩:=ai g1
  obtain⟨M',g3,s1,s2⟩:=T.set_ok _ _ _ _ _ g2
  obtain⟨e,p1,hsz,hrow⟩:=h.prow hi
  rw[hv]at q1
  simp only[den,aJ,p1]at q1
  rcases hrow with⟨c1,c2⟩|⟨cc,arr,c1,c2,r⟩
  ·rcases dP q1 with⟨_,rfl,rfl,rfl⟩|⟨c',q4,_⟩
   ·subst c2
    refine⟨E,_,M',⟨fun _ _ _=>rfl,MLe.refl _⟩,rfl,mv (u:=.sy (.imm (.slice none 0 0) sz α (([]:List α).take 0) enc)) ⟨fun _ _ _=>rfl,MLe.refl _⟩ q2 ?_,?_,aV g3 (.slice none 0 0)⟩
    ·show dQ E _=_
     exact fy (.imm none 0 rfl (by simp) (by decide) hsz (fun q=>by simp at q) (fun x hx=>by simp at hx) (fun x hx=>by simp at hx) (fun i x hx=>by simp at hx))
    ·obtain⟨D_,F_,cc,hF_,hq_,hh,ho,hinj⟩:=h.ex
     refine⟨⟨D_,F_,cc,hF_,hq_.sub (MLe.refl _) (fun m_ o_ hm_=>by
      by_cases q_:m_=i
      ·subst q_
       rw[s1]at hm_;cases hm_
      ·rw[←s2 m_ q_];exact hm_),hh,fun k o2 hk=> ?_,fun k l e' f' o1 o2 hk hl=> ?_⟩,h.mem,h.fresh⟩
     ·have hki:k≠i:=fun q=>by subst q;rw[s1]at hk;cases hk
      rw[s2 k hki]at hk
      exact ho k o2 hk
     ·have hki:k≠i:=fun q=>by subst q;rw[s1]at hk;cases hk
      have hli:l≠i:=fun q=>by subst q;rw[s1]at hl;cases hl
      rw[s2 k hki]at hk
      rw[s2 l hli]at hl
      exact hinj k l e' f' o1 o2 hk hl
   ·omega
  ·rcases dP q1 with⟨q4,_⟩|⟨c',q4,rfl⟩
   ·omega
   ·have hB:bC e (.prow Ty sz α l enc)=true:=bW c1
    obtain⟨ob,E',f1,f2,f3,f4,f5⟩:=h.freeze hi p1 hB s1 s2
    have hob:ob= .cells arr Ty (0,0):=by
     obtain⟨G',_,hh,hM⟩:=f5.holds
     have:=hh.mem e.b ob (by rw[hM];exact f3)
     rw[r.heap]at this
     exact(Option.some.inj this).symm
    subst hob
    have hlen:(l.take n).length=n:=by rw[ami];omega
    have hle:=r.le
    refine⟨E',_,M',f1,f2,mv f1 q2 ?_,f5,aV g3 (.slice (some ⟨e.b,0,none⟩) (l.take n).length c)⟩
    show dQ E' _=_
    rw[fy (AI f1.mem f3 hsz (fun x hx=>c2 x (List.mem_of_mem_take hx)) (r.taken (n:=n) c2 (by omega)) (m:=c) (by omega) (by omega))]
    show some (Value.slice (some ⟨e.b,0,none⟩) (l.take n).length c)=_
    rw[hlen]
noncomputable def Ro (v:AV) (K:Value→Bool→(α:Type)→Option α→(α→List PL)→Bool) (K0:Bool):Bool:=match v with
 |.sy (.vl h f α x enc)=>K h f α x enc
 |_=>K0
theorem aai {v:AV} {K:Value→Bool→(α:Type)→Option α→(α→List PL)→Bool} {K0:Bool} (h:Ro v K K0=true):(∃hv f α x enc,v= .sy (.vl hv f α x enc)∧K hv f α x enc=true)∨K0=true:=by
 unfold Ro at h
 split at h
 ·exact .inl ⟨_,_,_,_,_,rfl,h⟩
 ·exact .inr h
noncomputable def agf (i q r:Nat) (M:T) (K:T→Bool):Bool:=cA M i fun g Ty sz els=>bF (bS els q) fun el=>bF (bS el r) fun v=>Ro v (fun _ f α x enc=>ae f (ae (aM (aq (x=none)) (upd el r [.nilP] fun e2=>upd els q [e2] fun els2=>T.set aP M i (some (.blk g Ty sz els2)) K) true)
 (aj fun y:α=>aj fun b:Nat=>aj fun o:Nat=>aM (aq (x=some y)) (upd el r [.sy (.pim b o (enc y))] fun e2=>upd els q [e2] fun els2=>T.set aP M i (some (.blk g Ty sz els2)) K) true))) (K M)
theorem YQ (h:Sim E ρ G F M nx w) {i q r:Nat} {K:T→Bool} (hk:agf i q r M K=true):∃M',Sim E ρ G F M' nx w∧K M'=true:=by
 obtain⟨g,Ty,sz,els,h1,hk⟩:=bE hk
 obtain⟨el,h2,hk⟩:=aT hk
 obtain⟨v,h3,hk⟩:=aT hk
 rw[cx]at h2 h3
 rcases aai hk with⟨hv,f,α,x,enc,rfl,hk⟩|hk
 case inr=>exact⟨M,h,hk⟩
 obtain⟨hf,hk3⟩:=ac hk
 obtain⟨k1,k2⟩:=ac hk3
 clear hk hk3
 subst hf
 obtain⟨e,arr,xs,e1,e2,e3,e4,e5,e6,e7,e8,e9⟩:=h.cellsAt h1
 have hmem:(AV.sy (.vl hv true α x enc))∈els.flatten:=List.mem_flatten.2 ⟨el,al7 h2,al7 h3⟩
 obtain⟨k,hk2⟩:=List.mem_iff_getElem?.1 hmem
 obtain⟨y,y1,_⟩:=eS e3 hk2
 have y2:=y1
 simp only[den,aJ]at y1
 split at y1
 case isFalse=>cases y1
 rename_i hc
 cases y1
 have hI:=hc.2 rfl
 cases x with
 |none=>
  have k1:(upd el r [.nilP] fun e2=>upd els q [e2] fun els2=>T.set aP M i (some (.blk g Ty sz els2)) K)=true:=by
   have:=k1;rw[prB_true.2 rfl]at this;exact this
  obtain⟨hk,_⟩:=bG k1
  obtain⟨hk,_⟩:=bG hk
  obtain⟨M2,hk,g1,g2⟩:=T.set_ok _ _ _ _ _ hk
  have hI:hv= .pointer none:=hI
  subst hI
  exact⟨M2,h.swap h1 h2 h3 (fun x hx=>by rw[y2]at hx;cases hx;rfl) g1 g2,hk⟩
 |some y=>
  obtain⟨b,o,rfl,q1,q2⟩:=hI
  have k1:=aV (aV (aV k2 y) b) o
  rw[prB_true.2 rfl]at k1
  obtain⟨hk,_⟩:=bG (show(upd el r [.sy (.pim b o (enc y))] fun e2=>upd els q [e2] fun els2=>T.set aP M i (some (.blk g Ty sz els2)) K)=true from k1)
  obtain⟨hk,_⟩:=bG hk
  obtain⟨M2,hk,g1,g2⟩:=T.set_ok _ _ _ _ _ hk
  refine⟨M2,h.swap h1 h2 h3 (fun x hx=> ?_) g1 g2,hk⟩
  rw[y2]at hx;cases hx
  simp only[den,aJ]
  rw[if_pos ⟨q1,q2⟩]
noncomputable def PQ (v:AV) (α:Type) (enc:α→List PL) (M:T) (K:AV→T→Bool):Bool:=match v with
 |.nilP=>K (.sy (.vl (.pointer none) true α none enc)) M
 |.sy (.pim b o cs)=>ee fun y:α=>ae (aq (enc y=cs)) (K (.sy (.vl (.pointer (some ⟨b,o,none⟩)) true α (some y) enc)) M)
 |.ptr j o=>ae (Nat.beq o 0) (cA M j fun g _ _ els=>ae (Bool.rec true false g) (Ak (els.flatten) fun ps=>ee fun y:α=>ae (aq (enc y=ps)) (T.set aP M j none fun M1=>aj fun h:Value=>K (.sy (.vl h true α (some y) enc)) M1)))
 |.sy (.vl h f β x e)=>K (.sy (.vl h f β x e)) M
 |_=>false
theorem YO (h:Sim E ρ G F M nx w) {v:AV} {x:Value} {α:Type} {enc:α→List PL} {K:AV→T→Bool} (hd:den E ρ v=some x) (hk:PQ v α enc M K=true):
  ∃E' M' u,kG ρ E E'∧E'.at_=E.at_∧Sim E' ρ G F M' nx w∧den E' (fun _=>none) u=some x∧K u M'=true:=by
 unfold PQ at hk
 split at hk
 ·cases hd
  exact⟨E,M,_,⟨fun _ _ _=>rfl,MLe.refl _⟩,rfl,h,by simp only[den,aJ];rw[if_pos ⟨rfl,fun _=>rfl⟩],hk⟩
 ·rename_i b o cs
  obtain⟨y,hk⟩:=bk hk
  obtain⟨he,hk⟩:=ai hk
  simp only[den,aJ]at hd
  split at hd
  case isFalse=>cases hd
  rename_i hc
  cases hd
  exact⟨E,M,_,⟨fun _ _ _=>rfl,MLe.refl _⟩,rfl,h,by simp only[den,aJ];rw[if_pos ⟨rfl,fun _=>⟨b,o,rfl,by rw[he];exact hc.1,by rw[he];exact hc.2⟩⟩],hk⟩
 ·rename_i j o
  obtain⟨ho,hk⟩:=ac hk
  have ho:=al6 ho
  subst ho
  obtain⟨g,Ty,sz,els,h1,hk⟩:=bE hk
  obtain⟨hg,hk⟩:=ac hk
  cases g with
  |true=>cases hg
  |false=>
  obtain⟨e,arr,xs,e1,e2,e3,e4,e5,e6,e7,e8,e9⟩:=h.cellsAt h1
  obtain⟨ps,p1,p2,hk,p3⟩:=ri e3 hk
  obtain⟨y,hk⟩:=bk hk
  obtain⟨he,hk⟩:=ai hk
  obtain⟨M1,k1,s1,s2⟩:=T.set_ok _ _ _ _ _ hk
  simp only[den,e1]at hd
  cases hd
  obtain⟨ob,E',f1,f2,f3,f4,f5⟩:=h.freeze h1 e1 rfl s1 s2
  obtain⟨a0,a1,arr',xs',rfl,a3,a4⟩:=f4
  have a4:arr'.toList=xs':=a4
  rw[e3]at a3
  cases a3
  refine⟨E',M1,_,f1,f2,f5,?_,aV k1 (.pointer (some ⟨e.b,0,none⟩))⟩
  simp only[den,aJ]
  have hM:MRow E'.M e.b 0 ((enc y).map aQ):=fun j v hv=>by
   have a5:(ps.map aQ)[j]?=some v:=by rw[←he];exact hv
   rw[←p2,←a4]at a5
   simp only[gn,f3,Nat.zero_add]
   simpa using a5
  rw[if_pos ⟨rfl,fun _=>⟨e.b,0,rfl,by rw[he];exact fun p hp=>(p1 p hp).mono f1.mem,hM⟩⟩]
 ·rename_i hv f β x' e
  simp only[den,aJ]at hd
  split at hd
  case isFalse=>cases hd
  rename_i hc
  cases hd
  exact⟨E,M,_,⟨fun _ _ _=>rfl,MLe.refl _⟩,rfl,h,by simp only[den,aJ];rw[if_pos hc],hk⟩
 ·cases hk
noncomputable def age (i q r:Nat) (α:Type) (enc:α→List PL) (M:T) (K:T→Bool):Bool:=
 cA M i fun _ _ _ els=>bF (bS els q) fun el=>bF (bS el r) fun v=>PQ v α enc M fun u M'=>cA M' i fun g T2 s2 els=>bF (bS els q) fun el'=>bF (bS el' r) fun v2=>ae (aq (v2=v))
  (upd el' r [u] fun e2=>upd els q [e2] fun els2=>T.set aP M' i (some (.blk g T2 s2 els2)) K)
theorem YP (h:Sim E ρ G F M nx w) {i q r:Nat} {α:Type} {enc:α→List PL} {K:T→Bool} (hk:age i q r α enc M K=true):
  ∃E' M',kG ρ E E'∧E'.at_=E.at_∧Sim E' ρ G F M' nx w∧K M'=true:=by
 obtain⟨g,T1,s1,els,h1,hk⟩:=bE hk
 obtain⟨el,h2,hk⟩:=aT hk
 obtain⟨v,h3,hk⟩:=aT hk
 rw[cx]at h2 h3
 obtain⟨e,arr,xs,e1,e2,e3,e4,e5,e6,e7,e8,e9⟩:=h.cellsAt h1
 have hmem:v∈els.flatten:=List.mem_flatten.2 ⟨el,al7 h2,al7 h3⟩
 obtain⟨k,hk2⟩:=List.mem_iff_getElem?.1 hmem
 obtain⟨y,y1,_⟩:=eS e3 hk2
 obtain⟨E1,M1,u,f1,f2,f3,f4,hk3⟩:=YO h y1 hk
 obtain⟨g,T2,s2,els2,h4,hk4⟩:=bE hk3
 obtain⟨el2,h5,hk5⟩:=aT hk4
 obtain⟨v2,h6,hk6⟩:=aT hk5
 obtain⟨hvv,hk7⟩:=ai hk6
 obtain⟨hk8,l1⟩:=bG hk7
 obtain⟨hk9,l2⟩:=bG hk8
 obtain⟨M2,hk10,g1,g2⟩:=T.set_ok _ _ _ _ _ hk9
 subst hvv
 rw[cx]at h5 h6
 refine⟨E1,M2,f1,f2,f3.swap h4 h5 h6 (fun x hx=> ?_) g1 g2,hk10⟩
 rw[ez f1 _ _ y1]at hx
 cases hx
 exact dL (ρ:=fun _=>none) (fun _ _ q=>by cases q) u y f4
theorem Sim.reobjW (h:Sim E ρ G F M nx w) {i:Nat} {o o':AObj} {e0:cM} {ob0:Obj} (hi:M.get i=some o) (he0:ρ i=some e0) (hB:bC e0 o=true) (hB':bC e0 o'=true) (hw:w.heap[e0.b]?=some ob0) (hr:ORel E ρ e0 o' ob0) {M':T} (h1:M'.get i=some o') (h2:∀m,m≠i→M'.get m=M.get m):Sim E ρ G F M' nx w:=by
 obtain⟨D_,F_,c,hF_,hq_,hh,hob,hinj⟩:=h.ex
 have old:∀m o2 e,M'.get m=some o2→ρ m=some e→∃o3,M.get m=some o3∧bC e o2=bC e o3:=fun m o2 e hm he=>by
  by_cases q1:m=i
  ·subst q1
   rw[h1]at hm;cases hm
   rw[he0]at he;cases he
   exact⟨_,hi,by rw[hB,hB']⟩
  ·rw[h2 m q1]at hm
   exact⟨o2,hm,rfl⟩
 refine⟨⟨D_,F_,c,hF_,hq_.at_ h1 hr.notQ (fun m_ q_ o_ hm_=>by rw[←h2 m_ q_];exact hm_),hh,fun m o2 hm=> ?_,fun m k e f o2 o3 hm hk he hf hb1 hb2 hb=> ?_⟩,h.mem,h.fresh⟩
 ·by_cases q1:m=i
  ·subst q1
   rw[h1]at hm;cases hm
   obtain⟨e,a1,⟨b1,ob,b2,b3⟩|⟨b1,b2⟩⟩:=hob m _ hi
   ·rw[he0]at a1;cases a1
    have q:=hh.own (e0.b,ob) (by simp[b2])
    simp only at q
    rw[hw]at q;cases q
    exact⟨_,he0,.inl ⟨hB',ob0,b2,hr⟩⟩
   ·rw[he0]at a1;cases a1
    rw[hB]at b1;cases b1
  ·rw[h2 m q1]at hm
   exact hob m o2 hm
 ·obtain⟨o4,f1,f2⟩:=old m o2 e hm he
  obtain⟨o5,f3,f4⟩:=old k o3 f hk hf
  rw[f2]at hb1
  rw[f4]at hb2
  exact hinj m k e f o4 o5 f1 f3 he hf hb1 hb2 hb
noncomputable def ag8 (k:Nat) (live:List Nat) (i:Nat) (ak av:Bool) (α:Type) (kf vf:α→List PL) (S:SL) (M:T) (K:SL→T→Nat→Bool):Bool:=gL M i fun es cl=>ee fun l:List α=>ae (aq (es.map (fun e=>(e.1,e.2.1))=l.map (fun x=>(aU ak (kf x),aU av (vf x)))∧BOk es cl)) (ae (Nat.blt i k) (T.set aP M i (some (.kmap true ak av α l kf vf)) fun M1=>Jd k live S M1 fun S' M' n=>jY M' i fun sure _ _ _ _ _ _=>ae sure (T.set aP M' i (some (.map es cl)) fun M2=>K S' M2 n)))
theorem ZY {N k:Nat} {S:SL} {a:Act} (s:SR E ρ N S a) (h:Sim E ρ G F M nx w) {live:List Nat} {i:Nat} {ak av:Bool} {α:Type} {kf vf:α→List PL} {K:SL→T→Nat→Bool} (hk:ag8 k live i ak av α kf vf S M K=true):
  ∃S' M' nx' ρ',SR E ρ' N S' a∧Sim E ρ' G F M' nx' w∧K S' M' nx'=true∧∀i e,i<k→ρ i=some e→ρ' i=some e:=by
 obtain⟨es,cl,hi,hk⟩:=dY hk
 obtain⟨l,hk⟩:=bk hk
 obtain⟨⟨hs,hbo⟩,hk⟩:=ai hk
 obtain⟨hik,hk⟩:=ac hk
 obtain⟨M1,hk,g1,g2⟩:=T.set_ok _ _ _ _ _ hk
 obtain⟨S',M',n',ρ',s',h',k',p'⟩:=Gh s (h.swapK hi hs hbo g1 g2) hk
 obtain⟨sure,ak2,av2,α2,l2,kf2,vf2,hi2,k'⟩:=gw k'
 obtain⟨hsu,k2⟩:=ac k'
 subst hsu
 obtain⟨M2,k3,g3,g4⟩:=T.set_ok _ _ _ _ _ k2
 obtain⟨D_,F_,c,hF_,hq_,hh,hob,_⟩:=h.ex
 obtain⟨e0,a1,⟨_,ob,b2,b3⟩|⟨b1,b2⟩⟩:=hob i _ hi
 ·have hw:=hh.own (e0.b,ob) (by simp[b2])
  obtain⟨ms,c1,c2⟩:=b3
  have he:=p' i e0 (by simpa[amq] using hik) a1
  exact⟨S',M2,n',ρ',s',h'.reobjW (o':=.map es cl) hi2 he rfl rfl hw (show ORel E ρ' e0 (.map es cl) ob from⟨ms,tX rfl hs c1,c2⟩) g3 g4,k3,p'⟩
 ·cases b1
noncomputable def agB (v:AV) (M:T) (K:AV→T→Bool):Bool:=ej v fun s=>SY.casesOn s (fun _ _=>false) (fun _=>false) (fun _=>false) (fun h sz α l enc=>K (.sy (.imm h sz α l enc)) M) (fun _ _ _=>false) (fun i n=>xz (.sy (.prow i n)) M K)
 (fun _ _ _ _ _ _=>false) (fun _ _ _ _=>false) (fun i n c=>cV M i fun _ sz α l enc=>ae (aq (n≤c∧c≤l.length)) (T.set aP M i none fun M'=>aj fun h:Value=>K (.sy (.imm h sz α (l.take n) enc)) M')) (fun _=>false) (fun _ _ _ _ _=>false)
theorem ZC (h:Sim E ρ G F M nx w) {v:AV} {x:Value} (q1:den E ρ v=some x) {K:AV→T→Bool} (hk:agB v M K=true):
  ∃E' M' u,kG ρ E E'∧E'.at_=E.at_∧Sim E' ρ G F M' nx w∧den E' (fun _=>none) u=some x∧K u M'=true:=by
 obtain⟨sy,hv,g⟩:=co hk
 clear hk
 subst hv
 cases sy<;>first|(cases g;done)|skip
 case imm hh sz α l enc=>exact⟨E,M,.sy (.imm hh sz α l enc),⟨fun _ _ _=>rfl,MLe.refl _⟩,rfl,h,(show dQ E (.imm hh sz α l enc)=some x from q1),g⟩
 case prow=>
  obtain⟨E1,M1,u,e1,e2,e3,e4,k1⟩:=rD h q1 g
  exact⟨E1,M1,u,e1,e2,e3,e4,k1⟩
 case pfix i n c=>
  obtain⟨Ty,sz,α,l,enc,hi,g1⟩:=bP g
  obtain⟨⟨hn,hc⟩,g2⟩:=ai g1
  obtain⟨M',g3,s1,s2⟩:=T.set_ok _ _ _ _ _ g2
  obtain⟨e,p1,hsz,hrow⟩:=h.prow hi
  simp only[den,aJ,p1]at q1
  rcases hrow with⟨c1,c2⟩|⟨cc,arr,c1,c2,r⟩
  ·rcases dP q1 with⟨_,rfl,rfl,rfl⟩|⟨c',q4,_⟩
   ·subst c2
    refine⟨E,M',.sy (.imm (.slice none 0 0) sz α (([]:List α).take 0) enc),⟨fun _ _ _=>rfl,MLe.refl _⟩,rfl,?_,?_,aV g3 (.slice none 0 0)⟩
    ·obtain⟨D_,F_,cc,hF_,hq_,hh,ho,hinj⟩:=h.ex
     refine⟨⟨D_,F_,cc,hF_,hq_.sub (MLe.refl _) (fun m_ o_ hm_=>by
      by_cases q_:m_=i
      ·subst q_
       rw[s1]at hm_;cases hm_
      ·rw[←s2 m_ q_];exact hm_),hh,fun k o2 hk=> ?_,fun k l e' f' o1 o2 hk hl=> ?_⟩,h.mem,h.fresh⟩
     ·have hki:k≠i:=fun q=>by subst q;rw[s1]at hk;cases hk
      rw[s2 k hki]at hk
      exact ho k o2 hk
     ·have hki:k≠i:=fun q=>by subst q;rw[s1]at hk;cases hk
      have hli:l≠i:=fun q=>by subst q;rw[s1]at hl;cases hl
      rw[s2 k hki]at hk
      rw[s2 l hli]at hl
      exact hinj k l e' f' o1 o2 hk hl
    ·show dQ E _=_
     exact fy (.imm none 0 rfl (by simp) (by decide) hsz (fun q=>by simp at q) (fun x hx=>by simp at hx) (fun x hx=>by simp at hx) (fun i x hx=>by simp at hx))
   ·omega
  ·rcases dP q1 with⟨q4,_⟩|⟨c',q4,rfl⟩
   ·omega
   ·have hB:bC e (.prow Ty sz α l enc)=true:=bW c1
    obtain⟨ob,E',f1,f2,f3,f4,f5⟩:=h.freeze hi p1 hB s1 s2
    have hob:ob= .cells arr Ty (0,0):=by
     obtain⟨G',_,hh,hM⟩:=f5.holds
     have:=hh.mem e.b ob (by rw[hM];exact f3)
     rw[r.heap]at this
     exact(Option.some.inj this).symm
    subst hob
    have hlen:(l.take n).length=n:=by rw[ami];omega
    have hle:=r.le
    refine⟨E',M',_,f1,f2,f5,?_,aV g3 (.slice (some ⟨e.b,0,none⟩) (l.take n).length c)⟩
    show dQ E' _=_
    rw[fy (AI f1.mem f3 hsz (fun x hx=>c2 x (List.mem_of_mem_take hx)) (r.taken (n:=n) c2 (by omega)) (m:=c) (by omega) (by omega))]
    show some (Value.slice (some ⟨e.b,0,none⟩) (l.take n).length c)=_
    rw[hlen]
noncomputable def UA (i q r:Nat) (M:T) (K:T→Bool):Bool:=
 cA M i fun _ _ _ els=>bF (bS els q) fun el=>bF (bS el r) fun v=>agB v M fun u M'=>cA M' i fun g T2 s2 els=>bF (bS els q) fun el'=>bF (bS el' r) fun v2=>ae (aq (v2=v))
  (upd el' r [u] fun e2=>upd els q [e2] fun els2=>T.set aP M' i (some (.blk g T2 s2 els2)) K)
theorem QO (h:Sim E ρ G F M nx w) {i q r:Nat} {K:T→Bool} (hk:UA i q r M K=true):
  ∃E' M',kG ρ E E'∧E'.at_=E.at_∧Sim E' ρ G F M' nx w∧K M'=true:=by
 obtain⟨g,T1,s1,els,h1,hk⟩:=bE hk
 obtain⟨el,h2,hk⟩:=aT hk
 obtain⟨v,h3,hk⟩:=aT hk
 rw[cx]at h2 h3
 obtain⟨e,arr,xs,e1,e2,e3,e4,e5,e6,e7,e8,e9⟩:=h.cellsAt h1
 have hmem:v∈els.flatten:=List.mem_flatten.2 ⟨el,al7 h2,al7 h3⟩
 obtain⟨k,hk2⟩:=List.mem_iff_getElem?.1 hmem
 obtain⟨y,y1,_⟩:=eS e3 hk2
 obtain⟨E1,M1,u,f1,f2,f3,f4,hk3⟩:=ZC h y1 hk
 obtain⟨g,T2,s2,els2,h4,hk4⟩:=bE hk3
 obtain⟨el2,h5,hk5⟩:=aT hk4
 obtain⟨v2,h6,hk6⟩:=aT hk5
 obtain⟨hvv,hk7⟩:=ai hk6
 obtain⟨hk8,l1⟩:=bG hk7
 obtain⟨hk9,l2⟩:=bG hk8
 obtain⟨M2,hk10,g1,g2⟩:=T.set_ok _ _ _ _ _ hk9
 subst hvv
 rw[cx]at h5 h6
 refine⟨E1,M2,f1,f2,f3.swap h4 h5 h6 (fun x hx=> ?_) g1 g2,hk10⟩
 rw[ez f1 _ _ y1]at hx
 cases hx
 exact dL (ρ:=fun _=>none) (fun _ _ q=>by cases q) u y f4
noncomputable def agF (i q r:Nat) (M:T) (K:T→Bool):Bool:=cA M i fun g Ty sz els=>bF (bS els q) fun el=>bF (bS el r) fun v=>ae (qa v) (aj fun f:Nat→Value=>upd el r [.sy (.vl (f r) false Unit none fun _=>[])] fun e2=>upd els q [e2] fun els2=>T.set aP M i (some (.blk g Ty sz els2)) K)
theorem ZH (hE:cK E) (h:Sim E ρ G F M nx w) {i q r:Nat} {K:T→Bool} (hk:agF i q r M K=true):∃M',Sim E ρ G F M' nx w∧K M'=true:=by
 obtain⟨g,Ty,sz,els,h1,hk⟩:=bE hk
 obtain⟨el,h2,hk⟩:=aT hk
 obtain⟨v,h3,hk⟩:=aT hk
 rw[cx]at h2 h3
 obtain⟨ho,hk⟩:=ac hk
 obtain⟨e,arr,xs,e1,e2,e3,e4,e5,e6,e7,e8,e9⟩:=h.cellsAt h1
 have hmem:v∈els.flatten:=List.mem_flatten.2 ⟨el,al7 h2,al7 h3⟩
 obtain⟨k,hk2⟩:=List.mem_iff_getElem?.1 hmem
 obtain⟨y,y1,_⟩:=eS e3 hk2
 have hk:=aV hk fun _=>y
 obtain⟨hk,_⟩:=bG hk
 obtain⟨hk,_⟩:=bG hk
 obtain⟨M2,hk,g1,g2⟩:=T.set_ok _ _ _ _ _ hk
 refine⟨M2,h.swap h1 h2 h3 (fun x hx=> ?_) g1 g2,hk⟩
 rw[y1]at hx
 cases hx
 show aJ E ρ _=_
 simp only[aJ]
 rw[if_pos ⟨tj hE ho y1,fun q=>by cases q⟩]
noncomputable def agK (i q r:Nat) (M:T) (K:T→Bool):Bool:=cA M i fun g Ty sz els=>bF (bS els q) fun el=>bF (bS el r) fun v=>ej v fun s=>SY.casesOn s (fun _ _=>false) (fun _=>false) (fun _=>false)
 (fun h sz' α l enc=>ee fun l2:List α=>ae (aq (l=l2)) (upd el r [.sy (.imm h sz' α l2 enc)] fun e2=>upd els q [e2] fun els2=>T.set aP M i (some (.blk g Ty sz els2)) K)) (fun _ _ _=>false) (fun j n=>cV M j fun Ty' sz' α l enc=>ee fun l2:List α=>ae (aq (l=l2)) (ae (aq (n=l2.length)) (T.set aP M j (some (.prow Ty' sz' α l2 enc)) fun M1=>upd el r [.sy (.prow j l2.length)] fun e2=>upd els q [e2] fun els2=>T.set aP M1 i (some (.blk g Ty sz els2)) K))) (fun _ _ _ _ _ _=>false) (fun _ _ _ _=>false) (fun _ _ _=>false) (fun _=>false) (fun _ _ _ _ _=>false)
theorem ZJ (h:Sim E ρ G F M nx w) {i q r:Nat} {K:T→Bool} (hk:agK i q r M K=true):∃M',Sim E ρ G F M' nx w∧K M'=true:=by
 obtain⟨g,Ty,sz,els,h1,hk⟩:=bE hk
 obtain⟨el,h2,hk⟩:=aT hk
 obtain⟨v,h3,hk⟩:=aT hk
 rw[cx]at h2 h3
 obtain⟨sy,hv,g2⟩:=co hk
 clear hk
 subst hv
 cases sy<;>first|(cases g2;done)|skip
 case imm hh sz' α l enc=>
  obtain⟨l2,g3⟩:=bk g2
  obtain⟨e,g4⟩:=ai g3
  subst e
  obtain⟨g5,_⟩:=bG g4
  obtain⟨g6,_⟩:=bG g5
  obtain⟨M2,g7,s1,s2⟩:=T.set_ok _ _ _ _ _ g6
  exact⟨M2,h.swap h1 h2 h3 (fun x hx=>hx) s1 s2,g7⟩
 case prow j n=>
  obtain⟨Ty',sz',α,l,enc,hj,g3⟩:=bP g2
  obtain⟨l2,g4⟩:=bk g3
  obtain⟨e,g5⟩:=ai g4
  subst e
  obtain⟨e,g6⟩:=ai g5
  subst e
  obtain⟨M1,g7,s1,s2⟩:=T.set_ok _ _ _ _ _ g6
  obtain⟨g8,_⟩:=bG g7
  obtain⟨g9,_⟩:=bG g8
  obtain⟨M2,g10,s3,s4⟩:=T.set_ok _ _ _ _ _ g9
  have hM:∀m,M1.get m=M.get m:=fun m=>by
   by_cases q:m=j
   ·rw[q,s1,hj]
   ·exact s2 m q
  exact⟨M2,h.swap h1 h2 h3 (fun x hx=>hx) s3 (fun m hm=>by rw[s4 m hm,hM m]),g10⟩
end
inductive Adm:Type 1|can (k:Nat) (live:List Nat)|born (t Ty sz:Nat) (α:Type) (enc:α→List PL)|cell (i q r Ty sz:Nat) (α:Type) (enc:α→List PL)|up (t:Nat)|upc (i q r:Nat)|fix (t n:Nat)|frz (t:Nat)|fixc (i q r n:Nat)|frzc (i q r:Nat)|kb (i:Nat) (ak av:Bool) (α:Type) (kf vf:α→List PL)|bors (t Ty sz:Nat) (α:Type) (enc:α→List PL)|tail (i q r:Nat)|fixl (i q r z:Nat)|fixb (t u v n m:Nat)|cut (t:Nat)|ipf (i q r:Nat)|ipj (i q r:Nat) (α:Type) (enc:α→List PL)|frp (t:Nat)|cam (k:Nat) (live:List Nat) (i:Nat) (ak av:Bool) (α:Type) (kf vf:α→List PL)|frpc (i q r:Nat)|fgt (i q r:Nat)|eqc (i q r:Nat)
noncomputable def cT (l:List Adm):SL→T→Nat→(SL→T→Nat→Bool)→Bool:=List.rec (fun S M nx K=>K S M nx) (fun a _ ih S M nx K=>Adm.casesOn a (fun k live=>Jd k live S M fun S M nx=>ih S M nx K) (fun t Ty sz α enc=>zU t Ty sz α enc S M nx fun S M nx=>ih S M nx K) (fun i q r Ty sz α enc=>UH i q r Ty sz α enc M nx fun M nx=>ih S M nx K) (fun t=>upX t S fun S=>ih S M nx K) (fun i q r=>ab0 i q r M fun M=>ih S M nx K) (fun t n=>QS t n S fun S=>ih S M nx K) (fun t=>xz (aS t S) M fun v M=>ih (.cons t v S) M nx K) (fun i q r n=>IW i q r 0 n M fun M=>ih S M nx K) (fun i q r=>Uz i q r M fun M=>ih S M nx K) (fun i ak av α kf vf=>kbX i ak av α kf vf M fun M=>ih S M nx K) (fun t Ty sz α enc=>aM (dx (aS t S)) (ih S M nx K) (zU t Ty sz α enc S M nx fun S M nx=>ih S M nx K)) (fun i q r=>TM i q r M fun M=>ih S M nx K) (fun i q r z=>IW i q r z 1 M fun M=>ih S M nx K) (fun t u v n m=>IX t u v n m S fun S=>ih S M nx K) (fun t=>agT t S M fun S M=>ih S M nx K) (fun i q r=>agf i q r M fun M=>ih S M nx K) (fun i q r α enc=>age i q r α enc M fun M=>ih S M nx K) (fun t=>agA t S M fun S M=>ih S M nx K) (fun k live i ak av α kf vf=>ag8 k live i ak av α kf vf S M fun S M nx=>ih S M nx K) (fun i q r=>UA i q r M fun M=>ih S M nx K) (fun i q r=>agF i q r M fun M=>ih S M nx K) (fun i q r=>agK i q r M fun M=>ih S M nx K)) l
noncomputable def qW (l:List (Nat×List Adm)) (e:Nat):List Adm:=List.rec [] (fun p _ ih=>Bool.rec ih p.2 (Nat.beq p.1 e)) l
noncomputable def Hk (S:SL):Nat:=AV.casesOn (aS 0 S) 0 (fun _ z=>Int.casesOn z (fun n=>Nat.succ n) (fun _=>0)) (fun _=>0) (fun _=>0) (fun _ _=>0) (fun _ _ _ _=>0) (fun _=>0) 0 0 0 0 0 (fun _ _=>0) (fun _ _=>0) (fun _=>0) (fun _=>0) (fun _=>0) (fun _=>0) (fun _=>0)
noncomputable def agp (l:List (Nat×List Adm)) (e:Nat):Bool:=List.rec false (fun p _ ih=>Bool.rec ih true (Nat.beq p.1 e)) l
noncomputable def xJ (l:List (Nat×List Adm)) (e:Nat) (S:SL):List Adm:=Bool.rec (qW l e) (qW l (Nat.add e (Nat.mul 1000 (Hk S)))) (agp l (Nat.add e (Nat.mul 1000 (Hk S))))
inductive XC:Type 1|bad|skip|ret|exit (k:Nat)|reg (draw:Bool) (n:Nat) (tr:XTr)|seq (x y:XC)|cond (p:XP) (x y:XC)|block (k:Nat) (c:XC)|loop (live:List Nat) (c:XC)|inv (j:Nat) (c:XC)|aft (x:XC) (l:List (Nat×List Adm))|pre (l:List Adm) (x:XC)|spc (j:Nat) (x:XC)
abbrev KC:=Nat→SL→T→Nat→Bool
noncomputable def frc (v:AV) (K0:Bool) (K:AV→Bool):Bool:=AV.casesOn v K0 (fun k z=>K (.int k z)) (fun b=>K (.bool b)) (fun l=>K (.str l)) (fun i o=>K (.ptr i o)) (fun i o n c=>K (.sl i o n c)) (fun i=>K (.map i)) (K .nilP) (K .nilS) (K .nilM) (K .nilF) (K .nilI) (fun t v=>K (.iface t v)) (fun f c=>K (.fn f c)) (fun i=>K (.yl i)) (fun l=>K (.agg l)) (fun l=>K (.tup l)) (fun i=>K (.any i)) (fun s=>K (.sy s))
theorem agC {v:AV} {K0:Bool} {K:AV→Bool} (h:frc v K0 K=true):(v= .bad∧K0=true)∨K v=true:=by
 cases v<;>first|exact .inr h|exact .inl ⟨rfl,h⟩
noncomputable def uy (S:SL) (live:List Nat):SL→(SL→Bool)→Bool:=List.rec (fun acc K=>K acc) (fun t _ ih acc K=>frc (aS t S) (ih acc K) fun v=>ih (.cons t v acc) K) live
noncomputable def UF (p:XP) (S:SL) (K:Bool→SL→Bool):Bool:=XP.casesOn p (fun n=>we n S K) (fun v=>GB v fun b=>K b S) (fun _=>false)
abbrev bN:=Nat→SL→T→Nat→KC→Bool
noncomputable def je (cf:fe) (lp:bN) (lf:Nat) (c:XC):SL→T→Nat→KC→Bool:=XC.rec
 (fun _ _ _ _=>false) (fun S M nx K=>K 0 S M nx) (fun S M nx K=>K 1 S M nx) (fun k S M nx K=>K k S M nx)
 (fun _ _ tr S M nx K=>zB cf tr S M nx fun S M nx=>K 0 S M nx)
 (fun _ _ ihx ihy S M nx K=>ihx S M nx fun e S M nx=>Nat.casesOn e (ihy S M nx K) fun e'=>K (Nat.succ e') S M nx)
 (fun p _ _ ihx ihy S M nx K=>UF p S fun b S=>aM b (ihx S M nx K) (ihy S M nx K))
 (fun k _ ih S M nx K=>ih S M nx fun e S M nx=>aM (Nat.beq e k) (K 0 S M nx) (K e S M nx))
 (fun live _ ih S M nx K=>Nat.rec (motive:=fun _=>SL→T→Nat→Bool) (fun _ _ _=>false) (fun _ fb S M nx=>uy S live .nil fun S=>ih S M nx fun e S M nx=>Nat.casesOn e (fb S M nx) fun e'=>K (Nat.succ e') S M nx) lf S M nx)
 (fun j _ _ S M nx K=>lp j S M nx K)
 (fun _ l ih S M nx K=>ih S M nx fun e S M nx=>cT (xJ l e S) S M nx (K e))
 (fun l _ ih S M nx K=>cT l S M nx fun S M nx=>ih S M nx K)
 (fun j _ _ S M nx K=>lp j S M nx K) c
def xB:Nat→Exit
 |0=>.normal|1=>.ret|n+2=>.exit n
def uC:List XSt→Bool
 |[]=>true
 |.a ..::_=>false
 |_::r=>uC r
def dZ (P:Program) (N:Nat):XC→Code→Bool
 |.bad,_=>true
 |.skip,.skip=>true
 |.ret,.ret=>true
 |.exit k,.exit i=>Nat.beq k (i+2)
 |.reg draw n tr,.region _ ops d=>decide (draw=d)&&vz P ops N tr&&(match draw,tr with|true,_=>rf ops n [] (He tr)|false,.leaf sts=>uC sts&&Nat.beq ops.size n&&decide ((sts.map fun s=>(ng s).1)=List.range n)|_,_=>false)
 |.seq x y,.seq a b=>dZ P N x a&&dZ P N y b
 |.cond p x y,.cond c a b=>bo p c&&dZ P N x a&&dZ P N y b
 |.block k c,.block i a=>Nat.beq k (i+2)&&dZ P N c a
 |.loop _ c,.loop a=>dZ P N c a
 |.inv _ c,.loop a=>dZ P N c a
 |.aft x _,c=>dZ P N x c
 |.pre _ x,c=>dZ P N x c
 |.spc _ x,c=>dZ P N x c
 |_,_=>false
def plain:XC→Bool
 |.seq x y=>plain x&&plain y
 |.cond _ x y=>plain x&&plain y
 |.block _ c=>plain c
 |.loop _ c=>plain c
 |.inv ..|.aft ..|.pre ..|.spc ..=>false
 |_=>true
def de:XC→List (Bool×Nat×XC)
 |.seq x y=>de x++de y
 |.cond _ x y=>de x++de y
 |.block _ c=>de c
 |.loop _ c=>de c
 |.inv j c=>[(true,j,c)]
 |.aft x _=>de x
 |.pre _ x=>de x
 |.spc j x=>[(false,j,x)]
 |_=>[]
section
variable {P:Program} {E:Env} {ρ:Ren} {G:GS} {F:List aH} {M:T} {nx:Nat} {w:World} {N:Nat} {S:SL} {a:Act} {ops:Array Oper} {o:Oper}
theorem Rb (s:SR E ρ N S a) {p:XP} {c:Operand} {K:Bool→SL→Bool} (ho:bo p c=true) (h:UF p S K=true):∃b S',a.eval c= .bool b∧SR E ρ N S' a∧K b S'=true:=by
 cases p with
 |t n=>
  cases c<;>simp only[bo]at ho<;>first|(cases ho;done)|skip
  have:=al6 ho
  subst this
  obtain⟨b,S',h1,h2,h3⟩:=EY s (show we n S K=true from h)
  exact⟨b,S',h1,h2,h3⟩
 |c v=>
  cases c<;>simp only[bo]at ho<;>first|(cases ho;done)|skip
  have hd:=oe (E:=E) (ρ:=ρ) ho
  obtain⟨b,rfl,h1⟩:=vF (show GB v (fun b=>K b S)=true from h)
  cases hd
  exact⟨b,S,rfl,s,h1⟩
 |f n=>cases h
theorem tf (s:SR E ρ N S a):∀{live:List Nat} {acc:SL} {K:SL→Bool},SR E ρ N acc a→uy S live acc K=true→∃S',SR E ρ N S' a∧K S'=true
 |[],acc,K,sa,h=>⟨acc,sa,h⟩
 |t::live,acc,K,sa,h=>by
  have h':frc (aS t S) (uy S live acc K) (fun v=>uy S live (.cons t v acc) K)=true:=h
  rcases agC h' with⟨_,h1⟩|h1
  ·exact tf s sa h1
  ·refine tf s ⟨sa.size,sa.defs,fun u=> ?_⟩ h1
   by_cases e:t=u
   ·subst e
    rw[dq]
    exact s.at_ t
   ·rw[ey _ _ e]
    exact sa.at_ u
theorem SR.nil (h1:a.tmps.size=N) (h2:a.defers=[]):SR E ρ N .nil a:=⟨h1,h2,fun _=>.inl rfl⟩
theorem kX {Q:Exit→Act→World→Prop}:∀{sts:List XSt} {a:Act} {w:World},uC sts=true→ji P ops (fun a w=>Q .normal a w) (sts.map ng) a w→wpOps P ops Q (sts.map fun s=>(ng s).1) a w
 |[],_,_,_,h=>h
 |.p i d g x::r,a,w,hn,⟨v,h1,h2⟩=>by
  rw[al9,wpOps_cons]
  exact rv ((h1 w).to (kX (Q:=Q) (by simpa[uC] using hn) h2))
 |.r i d g x::r,a,w,hn,⟨v,h1,h2⟩=>by
  rw[al9,wpOps_cons]
  exact rv (h1.to (kX (Q:=Q) (by simpa[uC] using hn) h2))
 |.e i d g x::r,a,w,hn,h=>by
  rw[al9,wpOps_cons]
  exact rv (op1.mono h fun a w h=>kX (Q:=Q) (by simpa[uC] using hn) h)
 |.c i d g f xs::r,a,w,hn,h=>by
  rw[al9,wpOps_cons]
  exact rv (op1.mono h fun a w h=>kX (Q:=Q) (by simpa[uC] using hn) h)
 |.k i d g t f xs::r,a,w,hn,h=>by
  rw[al9,wpOps_cons]
  exact rv (op1.mono h fun a w h=>kX (Q:=Q) (by simpa[uC] using hn) h)
 |.a i d g x::r,a,w,hn,h=>by simp[uC]at hn
structure Rel (fl:Bool) (pk:Nat) (E:Env) (ρ:Ren) (E':Env) (ρ':Ren):Prop where
 one:cK E'
 mem:MLe E.M E'.M
 ext:fl=true→Ext E ρ E' ρ'
 pin:∀i e,i<pk→ρ i=some e→ρ' i=some e
theorem Ext.rel {fl:Bool} {pk:Nat} {E':Env} {ρ':Ren} (h:Ext E ρ E' ρ'):Rel fl pk E ρ E' ρ':=⟨h.one,h.env.mem,fun _=>h,fun i e _ q=>h.le i e q⟩
theorem Rel.trans {fl:Bool} {pk:Nat} {E1 E2 E3:Env} {r1 r2 r3:Ren} (h:Rel fl pk E1 r1 E2 r2) (k:Rel fl pk E2 r2 E3 r3):Rel fl pk E1 r1 E3 r3:=⟨k.one,MLe.trans h.mem k.mem,fun q=>(h.ext q).trans (k.ext q),fun i e q1 q2=>k.pin i e q1 (h.pin i e q1 q2)⟩
theorem Rel.next {pk:Nat} {E1 E2:Env} {r1 r2 r3:Ren} (h:Rel false pk E1 r1 E2 r2) (k:∀i e,i<pk→r2 i=some e→r3 i=some e):Rel false pk E1 r1 E2 r3:=⟨h.one,h.mem,fun q=>(by cases q),fun i e q1 q2=>k i e q1 (h.pin i e q1 q2)⟩
theorem Rel.prev {pk:Nat} {E1 E2:Env} {r1 r2 r3:Ren} (h:Rel false pk E1 r2 E2 r3) (k:∀i e,i<pk→r1 i=some e→r2 i=some e):Rel false pk E1 r1 E2 r3:=⟨h.one,h.mem,fun q=>(by cases q),fun i e q1 q2=>h.pin i e q1 (k i e q1 q2)⟩
def bx (pk:Nat):List Adm→Bool
 |[]=>true
 |.can k _::l=>Nat.ble pk k&&bx pk l
 |.born ..::l=>bx pk l
 |.cell ..::l=>bx pk l
 |.up _::l=>bx pk l
 |.upc ..::l=>bx pk l
 |.fix ..::l=>bx pk l
 |.frz _::l=>bx pk l
 |.fixc ..::l=>bx pk l
 |.frzc ..::l=>bx pk l
 |.tail ..::l=>bx pk l
 |.kb ..::l=>bx pk l
 |.bors ..::l=>bx pk l
 |.fixl ..::l=>bx pk l
 |.fixb ..::l=>bx pk l
 |.cut ..::l=>bx pk l
 |.ipf ..::l=>bx pk l
 |.ipj ..::l=>bx pk l
 |.frp ..::l=>bx pk l
 |.cam k ..::l=>Nat.ble pk k&&bx pk l
 |.frpc ..::l=>bx pk l
 |.fgt ..::l=>bx pk l
 |.eqc ..::l=>bx pk l
def zK (pk:Nat):List (Nat×List Adm)→Bool
 |[]=>true
 |p::l=>bx pk p.2&&zK pk l
def dr (pk:Nat):XC→Bool
 |.seq x y=>dr pk x&&dr pk y
 |.cond _ x y=>dr pk x&&dr pk y
 |.block _ c=>dr pk c
 |.loop _ c=>dr pk c
 |.aft x l=>dr pk x&&zK pk l
 |.pre l x=>bx pk l&&dr pk x
 |_=>true
theorem tJ {pk:Nat}:∀{l:List (Nat×List Adm)} {e:Nat},zK pk l=true→bx pk (qW l e)=true
 |[],e,_=>rfl
 |p::l,e,h=>by
  obtain⟨h1,h2⟩:=aC h
  have:qW (p::l) e=(Bool.rec (qW l e) p.2 (Nat.beq p.1 e):List Adm):=rfl
  rw[this]
  cases Nat.beq p.1 e
  ·exact tJ h2
  ·exact h1
theorem Ll {pk:Nat} {l:List (Nat×List Adm)} {e:Nat} {S:SL} (h:zK pk l=true):bx pk (xJ l e S)=true:=by
 unfold xJ
 cases agp l (Nat.add e (Nat.mul 1000 (Hk S)))
 ·exact tJ h
 ·exact tJ h
theorem bL {pk:Nat}:∀{l:List Adm} {S:SL} {M:T} {nx:Nat} {E:Env} {ρ:Ren} {K:SL→T→Nat→Bool},cK E→bx pk l=true→SR E ρ N S a→Sim E ρ G F M nx w→cT l S M nx K=true→∃S' M' nx' E' ρ',cK E'∧MLe E.M E'.M∧SR E' ρ' N S' a∧Sim E' ρ' G F M' nx' w∧K S' M' nx'=true∧∀i e,i<pk→ρ i=some e→ρ' i=some e
 |[],S,M,nx,E,ρ,K,hE,_,s,h,hk=>⟨S,M,nx,E,ρ,hE,MLe.refl _,s,h,hk,fun _ _ _ q=>q⟩
 |.can k live::l,S,M,nx,E,ρ,K,hE,hp,s,h,hk=>by
  obtain⟨hp1,hp2⟩:=aC hp
  rw[Nat.ble_eq]at hp1
  obtain⟨S1,M1,n1,ρ1,s1,h1,k1,p1⟩:=Gh (K:=fun S M nx=>cT l S M nx K) s h hk
  obtain⟨S2,M2,n2,E2,ρ2,o2,m2,s2,h2,k2,p2⟩:=bL hE hp2 s1 h1 k1
  exact⟨S2,M2,n2,E2,ρ2,o2,m2,s2,h2,k2,fun i e q1 q2=>p2 i e q1 (p1 i e (Nat.lt_of_lt_of_le q1 hp1) q2)⟩
 |.born t Ty sz α enc::l,S,M,nx,E,ρ,K,hE,hp,s,h,hk=>by
  obtain⟨S1,M1,n1,ρ1,le1,s1,h1,k1⟩:=CJ (K:=fun S M nx=>cT l S M nx K) s h hk
  obtain⟨S2,M2,n2,E2,ρ2,o2,m2,s2,h2,k2,p2⟩:=bL hE (show bx pk l=true from hp) s1 h1 k1
  exact⟨S2,M2,n2,E2,ρ2,o2,m2,s2,h2,k2,fun i e q1 q2=>p2 i e q1 (le1 i e q2)⟩
 |.cell i q r Ty sz α enc::l,S,M,nx,E,ρ,K,hE,hp,s,h,hk=>by
  obtain⟨M1,n1,ρ1,le1,h1,k1⟩:=Rg (K:=fun M nx=>cT l S M nx K) h hk
  obtain⟨S2,M2,n2,E2,ρ2,o2,m2,s2,h2,k2,p2⟩:=bL hE (show bx pk l=true from hp) (s.mono le1) h1 k1
  exact⟨S2,M2,n2,E2,ρ2,o2,m2,s2,h2,k2,fun i e q1 q2=>p2 i e q1 (le1 i e q2)⟩
 |.up t::l,S,M,nx,E,ρ,K,hE,hp,s,h,hk=>by
  obtain⟨S1,s1,k1⟩:=ab1 (K:=fun S=>cT l S M nx K) s hk
  exact bL hE (show bx pk l=true from hp) s1 h k1
 |.upc i q r::l,S,M,nx,E,ρ,K,hE,hp,s,h,hk=>by
  obtain⟨M1,h1,k1⟩:=UZ (K:=fun M=>cT l S M nx K) h hk
  exact bL hE (show bx pk l=true from hp) s h1 k1
 |.kb i ak av α kf vf::l,S,M,nx,E,ρ,K,hE,hp,s,h,hk=>by
  obtain⟨M1,h1,k1⟩:=af2 (K:=fun M=>cT l S M nx K) h hk
  exact bL hE (show bx pk l=true from hp) s h1 k1
 |.bors t Ty sz α enc::l,S,M,nx,E,ρ,K,hE,hp,s,h,hk=>by
  rcases aL (show aM (dx (aS t S)) (cT l S M nx K) (zU t Ty sz α enc S M nx fun S M nx=>cT l S M nx K)=true from hk) with⟨_,hk⟩|⟨_,hk⟩
  ·exact bL hE (show bx pk l=true from hp) s h hk
  obtain⟨S1,M1,n1,ρ1,le1,s1,h1,k1⟩:=CJ (K:=fun S M nx=>cT l S M nx K) s h hk
  obtain⟨S2,M2,n2,E2,ρ2,o2,m2,s2,h2,k2,p2⟩:=bL hE (show bx pk l=true from hp) s1 h1 k1
  exact⟨S2,M2,n2,E2,ρ2,o2,m2,s2,h2,k2,fun i e q1 q2=>p2 i e q1 (le1 i e q2)⟩
 |.fix t n::l,S,M,nx,E,ρ,K,hE,hp,s,h,hk=>by
  obtain⟨S1,s1,k1⟩:=ZF (K:=fun S=>cT l S M nx K) s hk
  exact bL hE (show bx pk l=true from hp) s1 h k1
 |.tail i q r::l,S,M,nx,E,ρ,K,hE,hp,s,h,hk=>by
  obtain⟨M1,h1,k1⟩:=NE (K:=fun M=>cT l S M nx K) h hk
  exact bL hE (show bx pk l=true from hp) s h1 k1
 |.frz t::l,S,M,nx,E,ρ,K,hE,hp,s,h,hk=>by
  have hk':(xz (aS t S) M fun v M=>cT l (.cons t v S) M nx K)=true:=hk
  have hne:aS t S≠ .bad:=fun e=>by rw[e]at hk';cases hk'
  obtain⟨x,q1,q2⟩:=(s.at_ t).resolve_left hne
  obtain⟨E1,M1,u,e1,e2,e3,e4,k1⟩:=rD h q1 hk'
  have hE1:cK E1:=⟨fun i=>by rw[e2];exact hE.1 i,Tied.mono e1.mem hE.2⟩
  have s1:SR E1 ρ N (.cons t u S) a:=⟨s.size,s.defs,fun r=>by
   by_cases q:t=r
   ·subst q
    rw[dq]
    exact .inr ⟨x,dL (ρ:=fun _=>none) (fun _ _ q=>by cases q) u x e4,q2⟩
   ·rw[ey _ _ q]
    exact(s.at_ r).imp id fun⟨y,y1,y2⟩=>⟨y,ez e1 _ _ y1,y2⟩⟩
  obtain⟨S2,M2,n2,E2,ρ2,o2,m2,s2,h2,k2,p2⟩:=bL hE1 (show bx pk l=true from hp) s1 e3 k1
  exact⟨S2,M2,n2,E2,ρ2,o2,MLe.trans e1.mem m2,s2,h2,k2,p2⟩
 |.frzc i q r::l,S,M,nx,E,ρ,K,hE,hp,s,h,hk=>by
  obtain⟨E1,M1,e1,e2,h1,k1⟩:=QM (K:=fun M=>cT l S M nx K) h hk
  have hE1:cK E1:=⟨fun i=>by rw[e2];exact hE.1 i,Tied.mono e1.mem hE.2⟩
  have s1:SR E1 ρ N S a:=⟨s.size,s.defs,fun r=>(s.at_ r).imp id fun⟨y,y1,y2⟩=>⟨y,ez e1 _ _ y1,y2⟩⟩
  obtain⟨S2,M2,n2,E2,ρ2,o2,m2,s2,h2,k2,p2⟩:=bL hE1 (show bx pk l=true from hp) s1 h1 k1
  exact⟨S2,M2,n2,E2,ρ2,o2,MLe.trans e1.mem m2,s2,h2,k2,p2⟩
 |.fixb t u v n m::l,S,M,nx,E,ρ,K,hE,hp,s,h,hk=>by
  obtain⟨S1,s1,k1⟩:=QR (K:=fun S=>cT l S M nx K) s hk
  exact bL hE (show bx pk l=true from hp) s1 h k1
 |.cut t::l,S,M,nx,E,ρ,K,hE,hp,s,h,hk=>by
  obtain⟨S1,M1,s1,h1,k1⟩:=ZN (K:=fun S M=>cT l S M nx K) s h hk
  exact bL hE (show bx pk l=true from hp) s1 h1 k1
 |.frp t::l,S,M,nx,E,ρ,K,hE,hp,s,h,hk=>by
  obtain⟨E1,S1,M1,e1,e2,s1,h1,k1⟩:=ZB (K:=fun S M=>cT l S M nx K) s h hk
  have hE1:cK E1:=⟨fun i=>by rw[e2];exact hE.1 i,Tied.mono e1.mem hE.2⟩
  obtain⟨S2,M2,n2,E2,ρ2,o2,m2,s2,h2,k2,p2⟩:=bL hE1 (show bx pk l=true from hp) s1 h1 k1
  exact⟨S2,M2,n2,E2,ρ2,o2,MLe.trans e1.mem m2,s2,h2,k2,p2⟩
 |.cam k live i ak av α kf vf::l,S,M,nx,E,ρ,K,hE,hp,s,h,hk=>by
  obtain⟨hp1,hp2⟩:=aC hp
  rw[Nat.ble_eq]at hp1
  obtain⟨S1,M1,n1,ρ1,s1,h1,k1,p1⟩:=ZY (K:=fun S M nx=>cT l S M nx K) s h hk
  obtain⟨S2,M2,n2,E2,ρ2,o2,m2,s2,h2,k2,p2⟩:=bL hE hp2 s1 h1 k1
  exact⟨S2,M2,n2,E2,ρ2,o2,m2,s2,h2,k2,fun i e q1 q2=>p2 i e q1 (p1 i e (Nat.lt_of_lt_of_le q1 hp1) q2)⟩
 |.frpc i q r::l,S,M,nx,E,ρ,K,hE,hp,s,h,hk=>by
  obtain⟨E1,M1,e1,e2,h1,k1⟩:=QO (K:=fun M=>cT l S M nx K) h hk
  have hE1:cK E1:=⟨fun i=>by rw[e2];exact hE.1 i,Tied.mono e1.mem hE.2⟩
  have s1:SR E1 ρ N S a:=⟨s.size,s.defs,fun r=>(s.at_ r).imp id fun⟨y,y1,y2⟩=>⟨y,ez e1 _ _ y1,y2⟩⟩
  obtain⟨S2,M2,n2,E2,ρ2,o2,m2,s2,h2,k2,p2⟩:=bL hE1 (show bx pk l=true from hp) s1 h1 k1
  exact⟨S2,M2,n2,E2,ρ2,o2,MLe.trans e1.mem m2,s2,h2,k2,p2⟩
 |.eqc i q r::l,S,M,nx,E,ρ,K,hE,hp,s,h,hk=>by
  obtain⟨M1,h1,k1⟩:=ZJ (K:=fun M=>cT l S M nx K) h hk
  exact bL hE (show bx pk l=true from hp) s h1 k1
 |.fgt i q r::l,S,M,nx,E,ρ,K,hE,hp,s,h,hk=>by
  obtain⟨M1,h1,k1⟩:=ZH hE (K:=fun M=>cT l S M nx K) h hk
  exact bL hE (show bx pk l=true from hp) s h1 k1
 |.ipf i q r::l,S,M,nx,E,ρ,K,hE,hp,s,h,hk=>by
  obtain⟨M1,h1,k1⟩:=YQ (K:=fun M=>cT l S M nx K) h hk
  exact bL hE (show bx pk l=true from hp) s h1 k1
 |.ipj i q r α enc::l,S,M,nx,E,ρ,K,hE,hp,s,h,hk=>by
  obtain⟨E1,M1,e1,e2,h1,k1⟩:=YP (K:=fun M=>cT l S M nx K) h hk
  have hE1:cK E1:=⟨fun i=>by rw[e2];exact hE.1 i,Tied.mono e1.mem hE.2⟩
  have s1:SR E1 ρ N S a:=⟨s.size,s.defs,fun r=>(s.at_ r).imp id fun⟨y,y1,y2⟩=>⟨y,ez e1 _ _ y1,y2⟩⟩
  obtain⟨S2,M2,n2,E2,ρ2,o2,m2,s2,h2,k2,p2⟩:=bL hE1 (show bx pk l=true from hp) s1 h1 k1
  exact⟨S2,M2,n2,E2,ρ2,o2,MLe.trans e1.mem m2,s2,h2,k2,p2⟩
 |.fixl i q r z::l,S,M,nx,E,ρ,K,hE,hp,s,h,hk=>by
  obtain⟨M1,h1,k1⟩:=Co (K:=fun M=>cT l S M nx K) h hk
  exact bL hE (show bx pk l=true from hp) s h1 k1
 |.fixc i q r n::l,S,M,nx,E,ρ,K,hE,hp,s,h,hk=>by
  obtain⟨M1,h1,k1⟩:=Co (K:=fun M=>cT l S M nx K) h hk
  exact bL hE (show bx pk l=true from hp) s h1 k1
def bj (P:Program) (N pk:Nat) (lp:bN) (b:Bool) (j:Nat) (x:XC):Prop:=∀(c:Code) (S:SL) (M:T) (nx:Nat) (E:Env) (ρ:Ren) (G:GS) (F:List aH) (a:Act) (w:World) (K:KC) (Q:Exit→Act→World→Prop),cK E→dZ P N x c=true→SR E ρ N S a→Sim E ρ G F M nx w→lp j S M nx K=true→
 (∀e S' M' nx' E' ρ' a' w',K e S' M' nx'=true→Rel false pk E ρ E' ρ'→SR E' ρ' N S' a'→Sim E' ρ' G F M' nx' w'→Q (xB e) a' w')→(bif b then Code.loop c else c).wp P Q a w
theorem tY (hm:P.follows .mixedOrders=true) {cf:fe} (hcf:gG P cf) {lp:bN} {lf:Nat} {fl:Bool} {pk:Nat}:∀(xc:XC) (c:Code) {S:SL} {M:T} {nx:Nat} {E:Env} {ρ:Ren} {a:Act} {w:World} {K:KC} {Q:Exit→Act→World→Prop},cK E→(fl=true→plain xc=true)→dr pk xc=true→(∀b j x,(b,j,x)∈de xc→bj P N pk lp b j x)→dZ P N xc c=true→SR E ρ N S a→Sim E ρ G F M nx w→je cf lp lf xc S M nx K=true→
  (∀e S' M' nx' E' ρ' a' w',K e S' M' nx'=true→Rel fl pk E ρ E' ρ'→SR E' ρ' N S' a'→Sim E' ρ' G F M' nx' w'→Q (xB e) a' w')→c.wp P Q a w:=by
 intro xc
 induction xc with
 |bad=>
  intro c S M nx E ρ a w K Q hE hfl hkp hlp hc s h hk hq
  cases hk
 |skip=>
  intro c S M nx E ρ a w K Q hE hfl hkp hlp hc s h hk hq
  cases c<;>simp only[dZ]at hc<;>first|(cases hc;done)|skip
  exact wp_skip (hq 0 _ _ _ _ _ _ _ hk (Ext.of hE (Ren.Le.refl _)).rel s h)
 |ret=>
  intro c S M nx E ρ a w K Q hE hfl hkp hlp hc s h hk hq
  cases c<;>simp only[dZ]at hc<;>first|(cases hc;done)|skip
  exact wp_ret (hq 1 _ _ _ _ _ _ _ hk (Ext.of hE (Ren.Le.refl _)).rel s h)
 |exit k=>
  intro c S M nx E ρ a w K Q hE hfl hkp hlp hc s h hk hq
  cases c<;>simp only[dZ]at hc<;>first|(cases hc;done)|skip
  have:=al6 hc
  subst this
  exact wp_exit (hq _ _ _ _ _ _ _ _ hk (Ext.of hE (Ren.Le.refl _)).rel s h)
 |reg draw n tr=>
  intro c S M nx E ρ a w K Q hE hfl hkp hlp hc s h hk hq
  cases c<;>simp only[dZ]at hc<;>first|(cases hc;done)|skip
  rename_i id ops d
  obtain⟨hc,c3⟩:=aC hc
  obtain⟨c1,c2⟩:=aC hc
  rw[decide_eq_true_eq]at c1
  subst c1
  cases draw with
  |true=>
   refine vU hm n _ c3 ?_
   exact sO hE hcf s h.drawn (fun S' M' nx' E' ρ' a' w' k1 k2 k3 k4=>hq 0 _ _ _ _ _ _ _ k1 k2.rel k3 k4) c2 hk
  |false=>
   cases tr with
   |split x y t u=>cases c3
   |leaf sts=>
    have hall:∀st∈sts,kT P ops N st=true:=fun st hst=>List.all_eq_true.1 c2 st hst
    obtain⟨hc,c5⟩:=aC c3
    obtain⟨c3,c4⟩:=aC hc
    rw[decide_eq_true_eq]at c5
    have c4:=al6 c4
    refine wp_region ?_
    rw[c4,←c5]
    exact kX c3 (wb hcf hE hall s h hk fun S' M' nx' E' ρ' a' w' k1 k2 k3 k4=>hq 0 _ _ _ _ _ _ _ k1 k2.rel k3 k4)
 |seq x y ihx ihy=>
  intro c S M nx E ρ a w K Q hE hfl hkp hlp hc s h hk hq
  cases c<;>simp only[dZ]at hc<;>first|(cases hc;done)|skip
  obtain⟨c1,c2⟩:=aC hc
  refine wp_seq (ihx _ hE (fun q=>(aC (hfl q)).1) (aC hkp).1 (fun b j x h=>hlp b j x (List.mem_append.2 (.inl h))) c1 s h hk fun e S' M' nx' E' ρ' a' w' k1 k2 k3 k4=> ?_)
  match e,k1 with
  |0,k1=>exact ihy _ k2.one (fun q=>(aC (hfl q)).2) (aC hkp).2 (fun b j x h=>hlp b j x (List.mem_append.2 (.inr h))) c2 k3 k4 k1 fun e S2 M2 nx2 E2 ρ2 a2 w2 j1 j2=>hq e _ _ _ _ _ _ _ j1 (k2.trans j2)
  |1,k1=>exact hq 1 _ _ _ _ _ _ _ k1 k2 k3 k4
  |n+2,k1=>exact hq (n+2) _ _ _ _ _ _ _ k1 k2 k3 k4
 |cond p x y ihx ihy=>
  intro c S M nx E ρ a w K Q hE hfl hkp hlp hc s h hk hq
  cases c<;>simp only[dZ]at hc<;>first|(cases hc;done)|skip
  obtain⟨hc,c3⟩:=aC hc
  obtain⟨c1,c2⟩:=aC hc
  obtain⟨b,S,h2,s,h4⟩:=Rb s c1 hk
  rcases aL h4 with⟨rfl,h5⟩|⟨rfl,h5⟩
  ·exact wp_cond_true h2 (ihx _ hE (fun q=>(aC (hfl q)).1) (aC hkp).1 (fun b j x h=>hlp b j x (List.mem_append.2 (.inl h))) c2 s h h5 hq)
  ·exact wp_cond_false h2 (ihy _ hE (fun q=>(aC (hfl q)).2) (aC hkp).2 (fun b j x h=>hlp b j x (List.mem_append.2 (.inr h))) c3 s h h5 hq)
 |block k x ih=>
  intro c S M nx E ρ a w K Q hE hfl hkp hlp hc s h hk hq
  cases c<;>simp only[dZ]at hc<;>first|(cases hc;done)|skip
  rename_i i cc
  obtain⟨c1,c2⟩:=aC hc
  have c1:=al6 c1
  subst c1
  refine wp_block (ih _ hE hfl hkp hlp c2 s h hk fun e S' M' nx' E' ρ' a' w' k1 k2 k3 k4=> ?_)
  rcases aL k1 with⟨q,g1⟩|⟨q,g1⟩
  ·have he:=al6 q
   have h0:=hq 0 _ _ _ _ _ _ _ g1 k2 k3 k4
   rw[he]
   simp only[xB,Exit.inBlock,if_true]
   exact h0
  ·have:=hq e _ _ _ _ _ _ _ g1 k2 k3 k4
   match e,q,this with
   |0,_,this=>exact this
   |1,_,this=>exact this
   |n+2,q,this=>
    have hne:¬n=i:=fun e=>by subst e;simp at q
    simp only[xB,Exit.inBlock,if_neg hne]
    exact this
 |loop live x ih=>
  intro c S M nx E ρ a w K Q hE hfl hkp hlp hc s h hk hq
  cases c<;>simp only[dZ]at hc<;>first|(cases hc;done)|skip
  rename_i cc
  refine wp_loop_rounds lf ?_
  have key:∀(n:Nat) {S:SL} {M:T} {nx:Nat} {E:Env} {ρ:Ren} {a:Act} {w:World},cK E→SR E ρ N S a→Sim E ρ G F M nx w→
    (Nat.rec (motive:=fun _=>SL→T→Nat→Bool) (fun _ _ _=>false) (fun _ fb S M nx=>uy S live .nil fun S=>je cf lp lf x S M nx fun e S M nx=>Nat.casesOn e (fb S M nx) fun e'=>K (Nat.succ e') S M nx) n S M nx)=true→
    (∀e S' M' nx' E' ρ' a' w',K e S' M' nx'=true→Rel fl pk E ρ E' ρ'→SR E' ρ' N S' a'→Sim E' ρ' G F M' nx' w'→Q (xB e) a' w')→Code.rounds P cc Q n a w:=by
   intro n
   induction n with
   |zero=>intro S M nx E ρ a w _ _ _ hk;cases hk
   |succ n ihn=>
    intro S M nx E ρ a w hE s h hk hq
    obtain⟨S1,s1,hk1⟩:=tf s (SR.nil s.size s.defs) hk
    refine ih _ hE hfl hkp hlp hc s1 h hk1 fun e S' M' nx' E' ρ' a' w' k1 k2 k3 k4=> ?_
    match e,k1 with
    |0,k1=>exact ihn k2.one k3 k4 k1 fun e S2 M2 nx2 E2 ρ2 a2 w2 j1 j2=>hq e _ _ _ _ _ _ _ j1 (k2.trans j2)
    |1,k1=>exact hq 1 _ _ _ _ _ _ _ k1 k2 k3 k4
    |m+2,k1=>exact hq (m+2) _ _ _ _ _ _ _ k1 k2 k3 k4
  exact key lf hE s h hk hq
 |inv j x ih=>
  intro c S M nx E ρ a w K Q hE hfl hkp hlp hc s h hk hq
  cases c<;>simp only[dZ]at hc<;>first|(cases hc;done)|skip
  cases fl with
  |true=>exact absurd (hfl rfl) (by simp[plain])
  |false=>exact hlp true j x (by simp[de]) _ S M nx E ρ G F a w K Q hE hc s h hk hq
 |aft x l ih=>
  intro c S M nx E ρ a w K Q hE hfl hkp hlp hc s h hk hq
  cases fl with
  |true=>exact absurd (hfl rfl) (by simp[plain])
  |false=>
   have hc':dZ P N x c=true:=by
    cases c<;>exact hc
   refine ih c hE (fun q=>by cases q) (aC hkp).1 hlp hc' s h hk fun e S' M' nx' E' ρ' a' w' k1 k2 k3 k4=> ?_
   obtain⟨S2,M2,n2,E2,ρ2,o2,m2,s2,h2,g2,p2⟩:=bL k2.one (Ll (aC hkp).2) k3 k4 k1
   exact hq e S2 M2 n2 E2 ρ2 a' w' g2 (k2.trans ⟨o2,m2,fun q=>(by cases q),p2⟩) s2 h2
 |pre l x ih=>
  intro c S M nx E ρ a w K Q hE hfl hkp hlp hc s h hk hq
  cases fl with
  |true=>exact absurd (hfl rfl) (by simp[plain])
  |false=>
   have hc':dZ P N x c=true:=by
    cases c<;>exact hc
   obtain⟨S2,M2,n2,E2,ρ2,o2,m2,s2,h2,g2,p2⟩:=bL (K:=fun S M nx=>je cf lp lf x S M nx K) hE (aC hkp).1 s h hk
   exact ih c o2 (fun q=>by cases q) (aC hkp).2 hlp hc' s2 h2 g2 fun e S' M' nx' E' ρ' a' w' k1 k2 k3 k4=>hq e S' M' nx' E' ρ' a' w' k1 (Rel.trans ⟨o2,m2,fun q=>(by cases q),p2⟩ k2) k3 k4
 |spc j x ih=>
  intro c S M nx E ρ a w K Q hE hfl hkp hlp hc s h hk hq
  cases fl with
  |true=>exact absurd (hfl rfl) (by simp[plain])
  |false=>
   have hc':dZ P N x c=true:=by
    cases c<;>exact hc
   exact hlp false j x (by simp[de]) c S M nx E ρ G F a w K Q hE hc' s h hk hq
end
inductive XRes|none|one (t:Nat)|two (t u:Nat)|cell (t:Nat) (agg:Bool) (n:Nat)|ct (t:Nat) (agg:Bool) (n u:Nat)|three (t u v:Nat)|tct (t u:Nat) (agg:Bool) (n v:Nat)
inductive XF:Type 1|mk (N:Nat) (res:XRes) (body:XC)
noncomputable def As (r:XRes) (S:SL) (M:T) (K:AV→Bool):Bool:=XRes.casesOn r (K (.tup [])) (fun t=>nb (aS t S) K) (fun t u=>nb (aS t S) fun x=>nb (aS u S) fun y=>K (.tup [x,y])) (fun t agg n=>nb (aS t S) fun p=>uZ agg n p M K) (fun t agg n u=>nb (aS t S) fun p=>uZ agg n p M fun v=>nb (aS u S) fun y=>K (.tup [v,y])) (fun t u v=>nb (aS t S) fun x=>nb (aS u S) fun y=>nb (aS v S) fun z=>K (.tup [x,y,z])) (fun t u agg n v=>nb (aS t S) fun x=>nb (aS u S) fun p=>uZ agg n p M fun y=>nb (aS v S) fun z=>K (.tup [x,y,z]))
noncomputable def rL (vs:List AV):Nat→SL→(SL→Bool)→Bool:=List.rec (fun _ S K=>K S) (fun v _ ih n S K=>ih (Nat.succ n) (.cons n v S) K) vs
def CB (P:Program) (r:XRes) (rs:List ResultVar):Bool:=match r,rs with
 |.none,[]=>true
 |.one t,[.tmp t']=>Nat.beq t t'
 |.two t u,[.tmp t',.tmp u']=>Nat.beq t t'&&Nat.beq u u'
 |.three t u v,[.tmp t',.tmp u',.tmp v']=>Nat.beq t t'&&Nat.beq u u'&&Nat.beq v v'
 |.cell t agg n,[.cell t' ty]=>Nat.beq t t'&&decide (fG P ty=some agg)&&decide (bH P ty=some n)
 |.ct t agg n u,[.cell t' ty,.tmp u']=>Nat.beq t t'&&decide (fG P ty=some agg)&&decide (bH P ty=some n)&&Nat.beq u u'
 |.tct t u agg n v,[.tmp t',.cell u' ty,.tmp v']=>Nat.beq t t'&&Nat.beq u u'&&decide (fG P ty=some agg)&&decide (bH P ty=some n)&&Nat.beq v v'
 |_,_=>false
def dR:XF→XC
 |.mk _ _ b=>b
def KS:XF→Nat
 |.mk n _ _=>n
def aK (P:Program) (f:Nat) (xf:XF):Bool:=match xf,P.funcs[f]? with
 |.mk N res body,some fn=>(match fn.body with|some c=>Nat.beq fn.ntmps N&&CB P res fn.results.toList&&dZ P N body c|none=>false)
 |_,none=>false
abbrev cu:=List AV→T→Nat→(AV→T→Nat→Bool)→Bool
inductive ES:Type 1|mk (k:Nat) (sp:cu) (hs:List Nat)
def CN (n:Nat) (ps:List (Nat×Nat)):Bool:=ps.all fun p=>Nat.blt p.2 n
theorem yO {n:Nat} {ps:List (Nat×Nat)} (h:CN n ps=true):∀p∈ps,p.2<n:=fun p hp=>by
 have:=List.all_eq_true.1 h p hp
 simpa[amq] using this
noncomputable def CF (k:Nat) (v:AV) (M:T) (K:AV→T→Nat→Bool):Bool:=fP (wt 0 (kH M 200 (vV k (oV v)) [])) fun ps=>ae (ux ps k) (ae (eD ps) (fN ps.length fun n=>ae (CN n ps) (nJ ps M ps .leaf fun M'=>bF (dO ps v) fun v'=>K v' M' n)))
noncomputable def Ra (l:List (Nat×Nat)):T→(T→Bool)→Bool:=List.rec (fun M K=>K M) (fun p _ ih M K=>T.set aP M p.1 none fun M=>ih M K) l
noncomputable def lkB (ps:List (Nat×Nat)) (j:Nat):Nat:=List.rec 0 (fun p _ ih=>Bool.rec ih p.1 (Nat.beq p.2 j)) ps
noncomputable def aeu (k nx:Nat) (ps:List (Nat×Nat)) (l:List Nat):List (Nat×Nat):=List.rec [] (fun j _ ih=>(j,Bool.rec (Nat.add nx j) (lkB ps j) (Nat.blt j k))::ih) l
def aev (k nx n:Nat) (ps qs:List (Nat×Nat)):Bool:=qs.all fun q=>Nat.blt q.1 n&&((Nat.blt q.1 k&&ps.any fun p=>Nat.beq p.1 q.2&&Nat.beq p.2 q.1)||(Nat.ble k q.1&&Nat.beq q.2 (nx+q.1)))
noncomputable def noQ (t:T):Bool:=T.rec true (fun _ v _ a b=>Option.casesOn v (Bool.rec false b a) fun o=>AObj.casesOn o (fun _ _ _ _=>Bool.rec false b a) (fun _ _=>Bool.rec false b a) (fun _ _ _ _=>Bool.rec false b a) (Bool.rec false b a) (fun _ _ _ _ _=>Bool.rec false b a) (fun _ _ _ _ _ _ _=>Bool.rec false b a) (fun _ _ _ _ _ _ _ _ _ _=>Bool.rec false b a) (fun _ _ _=>false)) t
noncomputable def Hw (a b:T):Bool:=Bool.rec (noQ a) true (noQ b)
noncomputable def kM (k:Nat) (sp:cu) (vs:List AV) (M:T) (nx:Nat) (K:AV→T→Nat→Bool):Bool:=fP (wt 0 (kH M 200 (tL vs) [])) fun ps=>ae (eD ps) (fN ps.length fun n=>ae (CN n ps) (bF (fF ps vs) fun us=>Ra ps M fun M1=>nJ ps M ps .leaf fun Ml=>ae (Hw Ml M1) (sp us Ml n fun v M' n'=>ae (Hw M' M1) (
 fP (aeu k nx ps (kH M' 200 (vV k (oV v)) [])) fun qs=>ae (eD qs) (ae (aev k nx n' ps qs) (bF (dO qs v) fun v'=>nJ qs M' qs M1 fun M2=>fN (nx+n') fun n2=>K v' M2 n2))))))
noncomputable def vq (t:T):Option Nat:=T.rec none (fun _ v _ a b=>Option.casesOn v (match a with|some i=>some (2*i+1)|none=>b.map fun i=>2*i+2) fun o=>AObj.casesOn o (fun _ _ _ _=>match a with|some i=>some (2*i+1)|none=>b.map fun i=>2*i+2) (fun _ _=>match a with|some i=>some (2*i+1)|none=>b.map fun i=>2*i+2) (fun _ _ _ _=>match a with|some i=>some (2*i+1)|none=>b.map fun i=>2*i+2) (match a with|some i=>some (2*i+1)|none=>b.map fun i=>2*i+2) (fun _ _ _ _ _=>match a with|some i=>some (2*i+1)|none=>b.map fun i=>2*i+2) (fun _ _ _ _ _ _ _=>match a with|some i=>some (2*i+1)|none=>b.map fun i=>2*i+2) (fun _ _ _ _ _ _ _ _ _ _=>match a with|some i=>some (2*i+1)|none=>b.map fun i=>2*i+2) (fun _ _ _=>some 0)) t
noncomputable def HA (k:Nat) (sp:cu) (vs:List AV) (M:T) (nx:Nat) (K:AV→T→Nat→Bool):Bool:=bF (vq M) fun j=>kM k sp (.ptr j 0::vs) M nx K
noncomputable def BS (hs:List Nat):Bool:=List.casesOn hs false fun r _=>Nat.beq r 999
noncomputable def hv (y:Value):AV:=.sy (.vl y false Unit none fun _=>[])
noncomputable def xt (i:Nat) (f:Nat→Value) (hs:List Nat):T→(List (Nat×AV)→T→Bool)→Bool:=List.rec (fun M K=>K [] M) (fun r _ ih M K=>cA M i fun g Ty sz els=>bF (bS els 0) fun el=>bF (bS el r) fun v=>ae (qa v) (upd el r [hv (f r)] fun e2=>upd els 0 [e2] fun els2=>T.set aP M i (some (.blk g Ty sz els2)) fun M'=>ih M' fun l M2=>K ((r,v)::l) M2)) hs
noncomputable def hvs (f:Nat→Value) (hs:List Nat):List AV:=List.rec [] (fun r _ ih=>hv (f r)::ih) hs
noncomputable def pkH (el:List AV) (l:List (Nat×AV)) (K:List AV→Bool):Bool:=List.rec (motive:=fun _=>(List AV→Bool)→Bool) (fun K=>K []) (fun p _ ih K=>bF (bS el p.1) fun u=>ih fun us=>K (u::us)) l K
noncomputable def NB (i:Nat) (l:List (Nat×AV)):T→(T→Bool)→Bool:=List.rec (fun M K=>K M) (fun p _ ih M K=>cA M i fun g Ty sz els=>bF (bS els 0) fun el=>upd el p.1 [p.2] fun e2=>upd els 0 [e2] fun els2=>T.set aP M i (some (.blk g Ty sz els2)) fun M'=>ih M' K) l
noncomputable def Hd (i:Nat) (f:Nat→Value) (hs:List Nat) (l:List (Nat×AV)) (M:T) (K:T→Bool):Bool:=cA M i fun _ _ _ els=>bF (bS els 0) fun el=>pkH el l fun us=>ae (aq (us=hvs f hs)) (NB i l M K)
noncomputable def Bh (k:Nat) (hs:List Nat) (sp:cu) (vs:List AV) (M:T) (nx:Nat) (K:AV→T→Nat→Bool):Bool:=List.casesOn hs (kM k sp vs M nx K) fun r hs=>Bool.rec (motive:=fun _=>Bool) (bF (bS vs 0) fun v0=>fO v0 fun i _=>aj fun f:Nat→Value=>xt i f (r::hs) M fun l M'=>kM k sp vs M' nx fun v M2 n2=>Hd i f (r::hs) l M2 fun M3=>K v M3 n2) (HA k sp vs M nx K) (Nat.beq r 999)
noncomputable def Je (tab:Nat→Option XF) (nat:Nat→List AV→T→Option ES) (lp:bN) (lf:Nat):Nat→fe:=Nat.rec (fun f vs M nx K=>Option.casesOn (nat f vs M) false fun es=>ES.casesOn es fun k sp hs=>Bh k hs sp vs M nx K) (fun _ ih f vs M nx K=>Option.casesOn (nat f vs M) (bF (tab f) fun xf=>XF.casesOn xf fun N res body=>
 ae (Nat.ble (cj vs) N) (rL vs 0 .nil fun S=>je ih lp lf body S M nx fun e S M nx=>aM (Nat.blt 1 e) false (As res S M fun v=>K v M nx))) fun es=>ES.casesOn es fun k sp hs=>Bh k hs sp vs M nx K)
noncomputable def tO (k:Nat) (cf:fe) (lp:bN) (lf:Nat) (xf:XF) (vs:List AV) (M:T) (nx:Nat) (K:AV→T→Nat→Bool):Bool:=XF.casesOn xf fun N res body=>ae (Nat.ble (cj vs) N) (rL vs 0 .nil fun S=>je cf lp lf body S M nx fun e S M nx=>aM (Nat.blt 1 e) false (As res S M fun v=>CF k v M K))
section
variable {P:Program} {E:Env} {ρ:Ren} {G:GS} {F:List aH} {M:T} {nx:Nat} {w:World} {N:Nat} {S:SL} {a:Act} {ops:Array Oper} {o:Oper} {pk:Nat}
theorem Df:∀{vs:List AV} {xs:List Value} {n:Nat} {S:SL} {K:SL→Bool},ay E ρ vs=some xs→(∀i x,xs[i]?=some x→a.tmps.getD (n+i) undef=x)→SR E ρ N S a→rL vs n S K=true→∃S',SR E ρ N S' a∧K S'=true
 |[],xs,n,S,K,_,_,s,h=>⟨S,s,h⟩
 |v::vs,xs,n,S,K,hd,hx,s,h=>by
  obtain⟨y,ys,h1,h2,rfl⟩:=bf hd
  have h':rL vs (Nat.succ n) (.cons n v S) K=true:=h
  refine Df h2 (fun i x hi=> ?_) ⟨s.size,s.defs,fun t=> ?_⟩ h'
  ·have:=hx (i+1) x (by simpa using hi)
   rw[show n+(i+1)=Nat.succ n+i by omega]at this
   exact this
  ·by_cases e:n=t
   ·subst e
    rw[dq]
    exact .inr ⟨y,h1,hx 0 y rfl⟩
   ·rw[ey _ _ e]
    exact s.at_ t
theorem eQ (s:SR E ρ N S a) {t:Nat} {K:AV→Bool} (h:nb (aS t S) K=true):∃x,den E ρ (aS t S)=some x∧a.tmps.getD t undef=x∧K (aS t S)=true:=by
 obtain⟨h1,h2⟩:=Ue h
 obtain⟨x,h3,h4⟩:=(s.at_ t).resolve_left h1
 exact⟨x,h3,h4,h2⟩
theorem Wj (s:SR E ρ N S a) (h:Sim E ρ G F M nx w) {fn:Func} {r:XRes} {K:AV→Bool} (hc:CB P r fn.results.toList=true) (hk:As r S M K=true):∃v z,den E ρ v=some z∧K v=true∧(results fn a.tmps).run P w= .ok z w:=by
 unfold CB at hc
 split at hc
 ·rename_i h1
  have hr:=gh h1
  exact⟨.tup [],.tuple #[],by simp[den,ay],hk,results_none hr _ _ _⟩
 ·rename_i t t' h1
  have hr:=gh h1
  have:=al6 hc
  subst this
  obtain⟨x,g1,g2,g3⟩:=eQ s (show nb (aS t S) K=true from hk)
  exact⟨_,x,g1,g3,by rw[results_tmp hr,g2]⟩
 ·rename_i t u t' u' h1
  have hr:=gh h1
  obtain⟨c1,c2⟩:=aC hc
  have c1:=al6 c1
  have c2:=al6 c2
  subst c1;subst c2
  obtain⟨x,g1,g2,g3⟩:=eQ s (show nb (aS t S) (fun x=>nb (aS u S) fun y=>K (.tup [x,y]))=true from hk)
  obtain⟨y,g4,g5,g6⟩:=eQ s (show nb (aS u S) (fun y=>K (.tup [aS t S,y]))=true from g3)
  exact⟨_,.tuple #[x,y],by simp only[den,ay,g1,g4],g6,by rw[results_tmp2 hr,g2,g5]⟩
 ·rename_i t u v t' u' v' h1
  have hr:=gh h1
  obtain⟨c1,c3⟩:=aC hc
  obtain⟨c1,c2⟩:=aC c1
  have c1:=al6 c1
  have c2:=al6 c2
  have c3:=al6 c3
  subst c1;subst c2;subst c3
  obtain⟨x,g1,g2,g3⟩:=eQ s (show nb (aS t S) (fun x=>nb (aS u S) fun y=>nb (aS v S) fun z=>K (.tup [x,y,z]))=true from hk)
  obtain⟨y,g4,g5,g6⟩:=eQ s (show nb (aS u S) (fun y=>nb (aS v S) fun z=>K (.tup [aS t S,y,z]))=true from g3)
  obtain⟨z,g7,g8,g9⟩:=eQ s (show nb (aS v S) (fun z=>K (.tup [aS t S,aS u S,z]))=true from g6)
  refine⟨_,.tuple #[x,y,z],by simp only[den,ay,g1,g4,g7],g9,?_⟩
  simp at g2 g5 g8
  simp[results,hr,g2,g5,g8]
 ·rename_i t agg n t' ty h1
  have hr:=gh h1
  obtain⟨hc,c3⟩:=aC hc
  obtain⟨c1,c2⟩:=aC hc
  rw[decide_eq_true_eq]at c2 c3
  have c1:=al6 c1
  subst c1
  obtain⟨x,g1,g2,g3⟩:=eQ s (show nb (aS t S) (fun p=>uZ agg n p M K)=true from hk)
  have fin:∀{u:AV} {z:Value},den E ρ u=some z→K u=true→(Instr.loadAt ty x).run P w= .ok z w→∃v z,den E ρ v=some z∧K v=true∧(results fn a.tmps).run P w= .ok z w:=by
   intro u z d1 d2 d3
   refine⟨u,z,d1,d2,?_⟩
   have e1:a.tmps[t]?.getD undef=x:=by simpa using g2
   cases x with
   |pointer p=>
    cases p with
    |some ad=>
     simp only[Instr.loadAt,Instr.sureAddr,amf,Sem.run_pure,ame]at d3
     simp[results,hr,e1,asAddr,d3]
    |none=>simp[Instr.loadAt,Instr.sureAddr]at d3
   |_=>simp[Instr.loadAt,Instr.sureAddr]at d3
  obtain⟨u,z,d1,d2,d3⟩:=uY (P:=P) h g1 g3 c2 c3
  exact fin d1 d2 d3
 ·rename_i t agg n v0 t' ty u' h1
  have hr:=gh h1
  obtain⟨hc,c4⟩:=aC hc
  obtain⟨hc,c3⟩:=aC hc
  obtain⟨c1,c2⟩:=aC hc
  rw[decide_eq_true_eq]at c2 c3
  have c1:=al6 c1
  subst c1
  have c4:=al6 c4
  subst c4
  obtain⟨x,g1,g2,g3⟩:=eQ s (show nb (aS t S) (fun p=>uZ agg n p M fun v=>nb (aS v0 S) fun y=>K (.tup [v,y]))=true from hk)
  obtain⟨u,z,d1,d2,d3⟩:=uY (P:=P) h g1 g3 c2 c3
  obtain⟨y,e1,e2,e3⟩:=eQ s d2
  refine⟨_,.tuple #[z,y],by simp only[den,ay,d1,e1],e3,?_⟩
  rw[results_cell_tmp hr,g2,e2]
  cases x with
  |pointer p=>
   cases p with
   |some ad=>
    simp only[Instr.loadAt,Instr.sureAddr,amf,Sem.run_pure,ame]at d3
    simp[asAddr,d3]
   |none=>simp[Instr.loadAt,Instr.sureAddr]at d3
  |_=>simp[Instr.loadAt,Instr.sureAddr]at d3
 ·rename_i t u0 agg n v0 t' u' ty v' h1
  have hr:=gh h1
  obtain⟨hc,c5⟩:=aC hc
  obtain⟨hc,c4⟩:=aC hc
  obtain⟨hc,c3⟩:=aC hc
  obtain⟨c1,c2⟩:=aC hc
  rw[decide_eq_true_eq]at c3 c4
  have c1:=al6 c1
  have c2:=al6 c2
  have c5:=al6 c5
  subst c1;subst c2;subst c5
  obtain⟨x0,f1,f2,f3⟩:=eQ s (show nb (aS t S) (fun x=>nb (aS u0 S) fun p=>uZ agg n p M fun y=>nb (aS v0 S) fun z=>K (.tup [x,y,z]))=true from hk)
  obtain⟨x,g1,g2,g3⟩:=eQ s (show nb (aS u0 S) (fun p=>uZ agg n p M fun y=>nb (aS v0 S) fun z=>K (.tup [aS t S,y,z]))=true from f3)
  obtain⟨u,z,d1,d2,d3⟩:=uY (P:=P) h g1 g3 c3 c4
  obtain⟨y,e1,e2,e3⟩:=eQ s d2
  refine⟨_,.tuple #[x0,z,y],by simp only[den,ay,f1,d1,e1],e3,?_⟩
  cases x with
  |pointer p=>
   cases p with
   |some ad=>
    simp only[Instr.loadAt,Instr.sureAddr,amf,Sem.run_pure,ame]at d3
    simp at f2 g2 e2
    simp[results,hr,f2,g2,e2,asAddr,d3]
   |none=>simp[Instr.loadAt,Instr.sureAddr]at d3
  |_=>simp[Instr.loadAt,Instr.sureAddr]at d3
 ·cases hc
theorem At:∀{ps l:List (Nat×Nat)} {M acc:T} {K:T→Bool},nJ ps M l acc K=true→∀p∈l,∃o,M.get p.1=some o
 |ps,[],M,acc,K,h,p,hp=>by simp at hp
 |ps,q::l,M,acc,K,h,p,hp=>by
  have h':(bF (M.get q.1) fun o=>bF (dt ps o) fun o'=>T.set aP acc q.2 (some o') fun acc=>nJ ps M l acc K)=true:=h
  obtain⟨o,h1,h2⟩:=aT h'
  obtain⟨o',h3,h4⟩:=aT h2
  obtain⟨acc',h5,s1,s2⟩:=T.set_ok _ _ _ _ _ h4
  rcases List.mem_cons.1 hp with rfl|hp
  ·exact⟨o,h1⟩
  ·exact At h5 p hp
theorem xO:∀{ps l:List (Nat×Nat)} {M M1 acc:T} {K:T→Bool},(∀j o,acc.get j=some o→(∃i o0,(i,j)∈ps∧M.get i=some o0∧dt ps o0=some o)∨M1.get j=some o)→(∀p∈l,p∈ps)→nJ ps M l acc K=true→
  ∃M',K M'=true∧∀j o,M'.get j=some o→(∃i o0,(i,j)∈ps∧M.get i=some o0∧dt ps o0=some o)∨M1.get j=some o
 |ps,[],M,M1,acc,K,ha,_,h=>⟨acc,h,ha⟩
 |ps,p::l,M,M1,acc,K,ha,hl,h=>by
  have h':(bF (M.get p.1) fun o=>bF (dt ps o) fun o'=>T.set aP acc p.2 (some o') fun acc=>nJ ps M l acc K)=true:=h
  obtain⟨o,h1,h2⟩:=aT h'
  obtain⟨o',h3,h4⟩:=aT h2
  obtain⟨acc',h5,s1,s2⟩:=T.set_ok _ _ _ _ _ h4
  refine xO (fun j ob hj=> ?_) (fun q hq=>hl q (by simp[hq])) h5
  by_cases e:j=p.2
  ·subst e
   rw[s1]at hj
   cases hj
   exact .inl ⟨p.1,o,hl p (by simp),h1,h3⟩
  ·rw[s2 j e]at hj
   exact ha j ob hj
theorem Gd:∀{l:List (Nat×Nat)} {M:T} {K:T→Bool},Ra l M K=true→∃M',K M'=true∧(∀j o,M'.get j=some o→M.get j=some o∧∀p∈l,p.1≠j)
 |[],M,K,h=>⟨M,h,fun j o hj=>⟨hj,fun p hp=>by simp at hp⟩⟩
 |p::l,M,K,h=>by
  have h':(T.set aP M p.1 none fun M=>Ra l M K)=true:=h
  obtain⟨M1,h1,s1,s2⟩:=T.set_ok _ _ _ _ _ h'
  obtain⟨M2,h2,h3⟩:=Gd h1
  refine⟨M2,h2,fun j o hj=> ?_⟩
  obtain⟨q1,q2⟩:=h3 j o hj
  have hne:p.1≠j:=fun e=>by rw[←e,s1]at q1;cases q1
  refine⟨by rw[←s2 j (fun e=>hne e.symm)];exact q1,fun r hr=> ?_⟩
  rcases List.mem_cons.1 hr with rfl|hr
  ·exact hne
  ·exact q2 r hr
theorem Wt {k nx n:Nat} {ps qs:List (Nat×Nat)} (h:aev k nx n ps qs=true):∀q∈qs,q.1<n∧((q.1<k∧(q.2,q.1)∈ps)∨(k≤q.1∧q.2=nx+q.1)):=fun q hq=>by
 have:=List.all_eq_true.1 h q hq
 simp only[aml,Bool.or_eq_true,amq,Nat.ble_eq]at this
 obtain⟨h1,h2⟩:=this
 refine⟨h1,?_⟩
 rcases h2 with⟨h2,h3⟩|⟨h2,h3⟩
 ·obtain⟨p,q1,q2⟩:=List.any_eq_true.1 h3
  simp only[aml]at q2
  have e1:=al6 q2.1
  have e2:=al6 q2.2
  have:p=(q.2,q.1):=by cases p;simp_all
  rw[this]at q1
  exact .inl ⟨h2,q1⟩
 ·exact .inr ⟨h2,al6 h3⟩
theorem Gi (h:Sim E ρ G F M nx w) {k:Nat} {v:AV} {x:Value} {K:AV→T→Nat→Bool} (hd:den E ρ v=some x) (hk:CF k v M K=true):
  ∃v' M' n' ρ',Sim E ρ' G F M' n' w∧den E ρ' v'=some x∧K v' M' n'=true∧∀i e,i<k→ρ i=some e→ρ' i=some e:=by
 unfold CF at hk
 rw[vr]at hk
 generalize wt 0 (kH M 200 (vV k (oV v)) [])=ps at hk
 obtain⟨h1,hk⟩:=ac hk
 obtain⟨h2,hk⟩:=ac hk
 rw[bt]at hk
 obtain⟨h3,hk⟩:=ac hk
 obtain⟨M',h4,h5⟩:=rn (ps:=ps) (fun j o hj=>by simp[T.get_leaf]at hj) (fun p hp=>hp) hk
 obtain⟨v',h6,h7⟩:=aT h4
 exact⟨v',M',_,fX ps ρ,h.ren h2 (yO h3) h5,ib h2 _ _ _ h6 hd,h7,fun i e q1 q2=>by rw[cN h2 (te h1 i q1)];exact q2⟩
def aA (P:Program) (f k:Nat) (sp:cu):Prop:=∀(us:List AV) (xs:List Value) (E:Env) (ρ:Ren) (G:GS) (F:List aH) (M:T) (nx:Nat) (w:World) (K:AV→T→Nat→Bool) (R:Ending→World→Prop),cK E→Sim E ρ G F M nx w→ay E ρ us=some xs→sp us M nx K=true→
 (∀v M' nx' E' ρ' w' z,K v M' nx'=true→cK E'→MLe E.M E'.M→(∀i e,i<k→ρ i=some e→ρ' i=some e)→Sim E' ρ' G F M' nx' w'→den E' ρ' v=some z→R (.returned z) w')→Calls P f xs.toArray w R
theorem jW:∀{t:T},noQ t=true→∀i o,t.get i=some o→¬BR o
 |.leaf,_,i,o,h=>by rw[T.get_leaf]at h;cases h
 |.node l v r,hk,i,o,h=>by
  have hk2:(Option.casesOn v (Bool.rec false (noQ r) (noQ l)) fun o=>AObj.casesOn o (fun _ _ _ _=>Bool.rec false (noQ r) (noQ l)) (fun _ _=>Bool.rec false (noQ r) (noQ l)) (fun _ _ _ _=>Bool.rec false (noQ r) (noQ l)) (Bool.rec false (noQ r) (noQ l)) (fun _ _ _ _ _=>Bool.rec false (noQ r) (noQ l)) (fun _ _ _ _ _ _ _=>Bool.rec false (noQ r) (noQ l)) (fun _ _ _ _ _ _ _ _ _ _=>Bool.rec false (noQ r) (noQ l)) (fun _ _ _=>false):Bool)=true:=hk
  have hv:(∀o,v=some o→¬BR o)∧noQ l=true∧noQ r=true:=by
   have hb:(Bool.rec false (noQ r) (noQ l):Bool)=true→noQ l=true∧noQ r=true:=fun q=>by
    cases e:noQ l with
    |false=>rw[e]at q;cases q
    |true=>rw[e]at q;exact⟨rfl,q⟩
   cases v with
   |none=>exact⟨fun o q=>(by cases q),hb hk2⟩
   |some o=>
    cases o with
    |opq=>cases hk2
    |_=>exact⟨fun o q=>(by cases q;exact id),hb hk2⟩
  cases i with
  |zero=>exact hv.1 o h
  |succ i=>
   rcases Nat.mod_two_eq_zero_or_one i with e|e
   ·rw[T.get_even _ _ _ _ e]at h;exact jW hv.2.1 _ o h
   ·rw[T.get_odd _ _ _ _ e]at h;exact jW hv.2.2 _ o h
theorem Fb {a b:T} (h:Hw a b=true):noQ a=true∨noQ b=true:=by
 unfold Hw at h
 cases e:noQ b with
 |true=>exact .inr rfl
 |false=>rw[e]at h;exact .inl h
def ais (C:List Value→World→(Ending→World→Prop)→Prop) (k:Nat) (sp:cu):Prop:=∀(us:List AV) (xs:List Value) (E:Env) (ρ:Ren) (G:GS) (F:List aH) (M:T) (nx:Nat) (w:World) (K:AV→T→Nat→Bool) (R:Ending→World→Prop),cK E→Sim E ρ G F M nx w→ay E ρ us=some xs→sp us M nx K=true→
 (∀v M' nx' E' ρ' w' z,K v M' nx'=true→cK E'→MLe E.M E'.M→(∀i e,i<k→ρ i=some e→ρ' i=some e)→Sim E' ρ' G F M' nx' w'→den E' ρ' v=some z→R (.returned z) w')→C xs w R
def dM (P:Program) (f k:Nat) (sp:cu):Prop:=ais (fun xs w R=>Calls P f xs.tail.toArray w R) k sp
theorem yD {C:List Value→World→(Ending→World→Prop)→Prop} {k:Nat} {sp:cu} (hn:ais C k sp) {vs:List AV} {xs:List Value} {K:AV→T→Nat→Bool} {R:Ending→World→Prop} (hE:cK E) (h:Sim E ρ G F M nx w) (hd:ay E ρ vs=some xs) (hk:kM k sp vs M nx K=true)
  (hr:∀v M' nx' E' ρ' w' z,K v M' nx'=true→Ext E ρ E' ρ'→Sim E' ρ' G F M' nx' w'→den E' ρ' v=some z→R (.returned z) w'):C xs w R:=by
 classical
 unfold kM at hk
 rw[vr]at hk
 generalize wt 0 (kH M 200 (tL vs) [])=ps at hk
 obtain⟨h1,hk⟩:=ac hk
 rw[bt]at hk
 obtain⟨h2,hk⟩:=ac hk
 have h2:=yO h2
 obtain⟨us,h3,hk⟩:=aT hk
 obtain⟨M1,hk,hM1⟩:=Gd hk
 have hall:=At hk
 obtain⟨Ml,hsp,hMl⟩:=rn (ps:=ps) (fun j o hj=>by simp[T.get_leaf]at hj) (fun p hp=>hp) hk
 obtain⟨hone,hsp⟩:=ac hsp
 obtain⟨D_,F_,c,hF_,hq_,hh,hob,hinj⟩:=h.ex
 subst hF_
 let B:Nat×Obj→Bool:=fun q=>decide (∃p∈ps,∃e o,ρ p.1=some e∧e.b=q.1∧M.get p.1=some o∧bC e o=true)
 have hB:∀q:Nat×Obj,B q=true↔∃p∈ps,∃e o,ρ p.1=some e∧e.b=q.1∧M.get p.1=some o∧bC e o=true:=fun q=>by simp only[B,decide_eq_true_eq]
 have hpm:(c.filter B++c.filter (fun q=> !B q)).Perm c:=List.filter_append_perm B c
 have hDZ:∃D2 Z:aH,Holds {G with M:=E.M} w (c.filter B::D2::c.filter (fun q=> !B q)::Z::F)∧Oq Ml E.M D2∧(noQ M1=true∨Oq M1 E.M Z):=by
  have hMlq:∀i α x Φ,Ml.get i=some (.opq α x Φ)→∃j,M.get j=some (.opq α x Φ):=fun i α x Φ hi=>by
   obtain⟨j,o0,_,g2,g3⟩:=hMl i _ hi
   rw[sX g3]at g2
   exact⟨j,g2⟩
  rcases Fb hone with q|q
  ·refine⟨[],D_,hh.perm ?_,fun i α x Φ hi=>absurd trivial (jW q i _ hi),.inr (hq_.sub (MLe.refl _) fun j o hj=>(hM1 j o hj).1)⟩
   simp only[al8,amc,←amb]
   exact(hpm.append_right D_).append_right _
  ·refine⟨D_,[],hh.perm ?_,fun i α x Φ hi=> ?_,.inl q⟩
   ·simp only[al8,amc,←amb]
    refine List.Perm.append_right _ ?_
    refine List.Perm.trans ?_ (hpm.append_right D_)
    rw[amb,amb]
    exact List.Perm.append_left _ List.perm_append_comm
   ·obtain⟨j,hj⟩:=hMlq i α x Φ hi
    exact hq_ j α x Φ hj
 obtain⟨D2,Z,hh1,hO2,hOZ⟩:=hDZ
 have hs:Sim E (fX ps ρ) G (c.filter (fun q=> !B q)::Z::F) Ml ps.length w:=by
  refine⟨⟨D2,_,c.filter B,rfl,hO2,hh1,fun j o hj=> ?_,fun j k e f o o' hj hk he hf hb1 hb2 hb=> ?_⟩,h.mem,fun j hj=> ?_⟩
  ·obtain⟨i,o0,g1,g2,g3⟩:=hMl j o hj
   obtain⟨e,a1,q⟩:=hob i o0 g2
   have hHB:=ek (e:=e) g3
   refine⟨e,by rw[cN h1 g1];exact a1,?_⟩
   rcases q with⟨q1,ob,q2,q3⟩|⟨q1,q2⟩
   ·exact .inl ⟨by rw[hHB.1];exact q1,ob,List.mem_filter.2 ⟨q2,(hB _).2 ⟨(i,j),g1,e,o0,a1,rfl,g2,q1⟩⟩,sW h1 g3 q3⟩
   ·exact .inr ⟨by rw[hHB.1];exact q1,hHB.2 q2⟩
  ·obtain⟨i,o0,g1,g2,g3⟩:=hMl j o hj
   obtain⟨i',o1,f1,f2,f3⟩:=hMl k o' hk
   rw[cN h1 g1]at he
   rw[cN h1 f1]at hf
   rw[(ek (e:=e) g3).1]at hb1
   rw[(ek (e:=f) f3).1]at hb2
   have:=hinj i i' e f o0 o1 g2 f2 he hf hb1 hb2 hb
   subst this
   exact oM h1 g1 f1
  ·unfold fX
   split
   ·rename_i p hp
    have q1:=List.mem_of_find?_eq_some hp
    have q2:=List.find?_some hp
    have:=al6 q2
    have:=h2 p q1
    omega
   ·rfl
 refine hn us xs E (fX ps ρ) G _ Ml _ w _ R hE hs (jp h1 _ _ _ h3 hd) hsp fun v M' n' E' ρ' w' z kv hE' hm hpin hs' hz=> ?_
 obtain⟨hone2,kv⟩:=ac kv
 rw[vr]at kv
 generalize aeu k nx ps (kH M' 200 (vV k (oV v)) [])=qs at kv
 obtain⟨g1,kv⟩:=ac kv
 obtain⟨g2,kv⟩:=ac kv
 have g2:=Wt g2
 obtain⟨v',g3,kv⟩:=aT kv
 obtain⟨M2,kv,hM2⟩:=xO (M1:=M1) (fun j o hj=>.inr hj) (fun p hp=>hp) kv
 rw[bt]at kv
 obtain⟨D3,F3,c',hF3,hq3,hh',hob',hinj'⟩:=hs'.ex
 subst hF3
 let ρo:Ren:=fun i=>if i<nx then ρ i else ρ' (i - nx)
 have lt:∀i e,ρ i=some e→i<nx:=fun i e q=>by
  by_cases q1:i<nx
  ·exact q1
  ·rw[h.fresh i (by omega)]at q;cases q
 have hle:ρ.Le ρo:=fun i e q=>by simp only[ρo,if_pos (lt i e q)];exact q
 have hq:∀j i,(j,i)∈qs→∀e,ρ' j=some e→ρo i=some e:=fun j i hji e he=>by
  obtain⟨q1,⟨q2,q3⟩|⟨q2,q3⟩⟩:=g2 _ hji
  ·obtain⟨o,ho⟩:=hall _ q3
   obtain⟨e0,a1,_⟩:=hob _ _ ho
   have:=hpin j e0 q2 (by rw[cN h1 q3];exact a1)
   rw[this]at he
   cases he
   exact hle _ _ a1
  ·simp only at q2 q3
   have:¬i<nx:=by omega
   simp only[ρo,if_neg this]
   rw[show i - nx=j by omega];exact he
 have hrle:(fX qs ρ').Le ρo:=fun i e q=>by
  unfold fX at q
  split at q
  ·rename_i p hp
   have q1:=List.mem_of_find?_eq_some hp
   have q2:=List.find?_some hp
   have q2:=al6 q2
   subst q2
   exact hq p.1 p.2 q1 e q
  ·cases q
 have hEE:kG ρ E ⟨E.at_,E'.M⟩:=⟨fun _ _ _=>rfl,hm⟩
 have hfin:∃D4 X:aH,Holds {G with M:=E'.M} w' ((c'++(c.filter (fun q=> !B q)++X))::D4::F)∧Oq M2 E'.M D4:=by
  have hsplit:∀i α x Φ,M2.get i=some (.opq α x Φ)→(∃j,M'.get j=some (.opq α x Φ))∨M1.get i=some (.opq α x Φ):=fun i α x Φ hi=>by
   rcases hM2 i _ hi with⟨j,o0,_,p2,p3⟩|p1
   ·rw[sX p3]at p2
    exact .inl ⟨j,p2⟩
   ·exact .inr p1
  have hcase:noQ M1=true∨(noQ M'=true∧Oq M1 E.M Z):=by
   rcases hOZ with q|q
   ·exact .inl q
   ·rcases Fb hone2 with q2|q2
    ·exact .inr ⟨q2,q⟩
    ·exact .inl q2
  rcases hcase with q|⟨q,q2⟩
  ·refine⟨D3,Z,hh'.perm ?_,fun i α x Φ hi=> ?_⟩
   ·simp only[al8,amb]
    refine List.Perm.append_left _ ?_
    simp only[←amb]
    refine List.Perm.append_right _ ?_
    rw[amb D3]
    exact List.perm_append_comm
   ·rcases hsplit i α x Φ hi with⟨j,hj⟩|hj
    ·exact hq3 j α x Φ hj
    ·exact absurd trivial (jW q i _ hj)
  ·refine⟨Z,D3,hh'.perm ?_,fun i α x Φ hi=> ?_⟩
   ·simp only[al8,amb]
    refine List.Perm.append_left _ ?_
    simp only[←amb]
    refine List.Perm.append_right _ (List.Perm.append_right _ ?_)
    exact List.perm_append_comm
   ·rcases hsplit i α x Φ hi with⟨j,hj⟩|hj
    ·exact absurd trivial (jW q j _ hj)
    ·obtain⟨m0,a1,a2⟩:=q2 i α x Φ hj
     exact⟨m0,a1.trans hm,a2⟩
 obtain⟨D4,X,hhf,hq4⟩:=hfin
 refine hr v' M2 (nx+n') ⟨E.at_,E'.M⟩ ρo w' z kv ⟨hEE,hle,hE.1,hE'.2⟩ ⟨⟨D4,_,c'++(c.filter (fun q=> !B q)++X),rfl,hq4,hhf,fun id o hid=> ?_,fun i j e f o o' hi hj he hf hb1 hb2 hb=> ?_⟩,hs'.mem,fun i hi=> ?_⟩ (dL hrle _ _ (ib g1 _ _ _ g3 hz))
 ·rcases hM2 id o hid with⟨j,o0,p1,p2,p3⟩|p1
  ·obtain⟨e,a1,q⟩:=hob' j o0 p2
   have hHB:=ek (e:=e) p3
   refine⟨e,hq j id p1 e a1,?_⟩
   rcases q with⟨q1,ob,q2,q3⟩|⟨q1,q2⟩
   ·exact .inl ⟨by rw[hHB.1];exact q1,ob,List.mem_append.2 (.inl q2),(sW (t2:=E.at_) g1 p3 q3).mono hrle⟩
   ·exact .inr ⟨by rw[hHB.1];exact q1,hHB.2 q2⟩
  ·obtain⟨q1,q2⟩:=hM1 id o p1
   obtain⟨e,a1,q⟩:=hob id o q1
   refine⟨e,hle _ _ a1,?_⟩
   rcases q with⟨r1,ob,r2,r3⟩|r
   ·refine .inl ⟨r1,ob,List.mem_append.2 (.inr (List.mem_append.2 (.inl (List.mem_filter.2 ⟨r2,?_⟩)))),(r3.env hEE).mono hle⟩
    have:¬B (e.b,ob)=true:=fun hb=>by
     obtain⟨p,s1,e2,o2,s2,s3,s4,s5⟩:=(hB _).1 hb
     exact q2 p s1 (hinj p.1 id e2 e o2 o s4 q1 s2 a1 s5 r1 s3)
    simpa using this
   ·exact .inr r
 ·have nd:=hh'.nodup
  simp only[al8,List.map_append]at nd
  have ap:∀b,b∈c'.map (·.1)→b∈(c.filter fun q=> !B q).map (·.1)→False:=fun b b1 b2=>
   (List.nodup_append.1 nd).2.2 b b1 b (List.mem_append.2 (.inr (List.mem_append.2 (.inl b2)))) rfl
  have blkN:∀id o e,(∃j o0,(j,id)∈qs∧M'.get j=some o0∧dt qs o0=some o)→ρo id=some e→bC e o=true→e.b∈c'.map (·.1):=by
   rintro id o e ⟨j,o0,p1,p2,p3⟩ he hb
   obtain⟨e2,a1,q⟩:=hob' j o0 p2
   have:=hq j id p1 e2 a1
   rw[this]at he;cases he
   rcases q with⟨q1,ob,q2,q3⟩|⟨q1,q2⟩
   ·exact List.mem_map.2 ⟨_,q2,rfl⟩
   ·rw[(ek (e:=e) p3).1,q1]at hb;cases hb
  have blkO:∀id o e,M1.get id=some o→ρo id=some e→bC e o=true→e.b∈(c.filter fun q=> !B q).map (·.1):=by
   intro id o e p1 he hb
   obtain⟨q1,q2⟩:=hM1 id o p1
   obtain⟨e2,a1,q⟩:=hob id o q1
   rw[hle _ _ a1]at he;cases he
   rcases q with⟨r1,ob,r2,r3⟩|⟨r1,r2⟩
   ·refine List.mem_map.2 ⟨_,List.mem_filter.2 ⟨r2,?_⟩,rfl⟩
    have:¬B (e.b,ob)=true:=fun hb=>by
     obtain⟨p,s1,e3,o2,s2,s3,s4,s5⟩:=(hB _).1 hb
     exact q2 p s1 (hinj p.1 id e3 e o2 o s4 q1 s2 a1 s5 r1 s3)
    simpa using this
   ·rw[r1]at hb;cases hb
  rcases hM2 i o hi with m1|m1<;>rcases hM2 j o' hj with m2|m2
  ·obtain⟨j1,o1,p1,p2,p3⟩:=m1
   obtain⟨j2,o2,r1,r2,r3⟩:=m2
   obtain⟨e1,a1,_⟩:=hob' j1 o1 p2
   obtain⟨e2,a2,_⟩:=hob' j2 o2 r2
   have x1:=hq _ _ p1 _ a1
   have x2:=hq _ _ r1 _ a2
   rw[x1]at he;cases he
   rw[x2]at hf;cases hf
   rw[(ek (e:=e) p3).1]at hb1
   rw[(ek (e:=f) r3).1]at hb2
   have:=hinj' j1 j2 e f o1 o2 p2 r2 a1 a2 hb1 hb2 hb
   subst this
   exact oM g1 p1 r1
  ·exact(ap _ (blkN i o e m1 he hb1) (by rw[hb];exact blkO j o' f m2 hf hb2)).elim
  ·exact(ap _ (blkN j o' f m2 hf hb2) (by rw[←hb];exact blkO i o e m1 he hb1)).elim
  ·obtain⟨q1,_⟩:=hM1 i o m1
   obtain⟨q2,_⟩:=hM1 j o' m2
   obtain⟨e1,a1,_⟩:=hob i o q1
   obtain⟨e2,a2,_⟩:=hob j o' q2
   rw[hle _ _ a1]at he;cases he
   rw[hle _ _ a2]at hf;cases hf
   exact hinj i j e f o o' q1 q2 a1 a2 hb1 hb2 hb
 ·have:¬i<nx:=by omega
  simp only[ρo,if_neg this]
  exact hs'.fresh _ (by omega)
theorem Bi {f k:Nat} {sp:cu} (hn:aA P f k sp) {vs:List AV} {xs:List Value} {K:AV→T→Nat→Bool} {R:Ending→World→Prop} (hE:cK E) (h:Sim E ρ G F M nx w) (hd:ay E ρ vs=some xs) (hk:kM k sp vs M nx K=true)
  (hr:∀v M' nx' E' ρ' w' z,K v M' nx'=true→Ext E ρ E' ρ'→Sim E' ρ' G F M' nx' w'→den E' ρ' v=some z→R (.returned z) w'):Calls P f xs.toArray w R:=
 yD (C:=fun xs w R=>Calls P f xs.toArray w R) hn hE h hd hk hr
theorem tR:∀{t:T} {j:Nat},vq t=some j→∃o,t.get j=some o
 |.leaf,j,h=>by cases h
 |.node l v r,j,h=>by
  have hsub:(match vq l with|some i=>some (2*i+1)|none=>(vq r).map fun i=>2*i+2)=some j→∃o,(T.node l v r).get j=some o:=fun q=>by
   rcases e:vq l with _|i
   ·rw[e]at q
    simp only[amd]at q
    obtain⟨i,q1,rfl⟩:=q
    obtain⟨o,ho⟩:=tR q1
    exact⟨o,by rw[T.get_odd _ _ _ _ (by omega:(2*i+1) % 2=1),show(2*i+1) / 2=i by omega];exact ho⟩
   ·rw[e]at q
    cases q
    obtain⟨o,ho⟩:=tR e
    exact⟨o,by rw[T.get_even _ _ _ _ (by omega:(2*i) % 2=0),show(2*i) / 2=i by omega];exact ho⟩
  cases v with
  |none=>exact hsub h
  |some o=>
   cases o with
   |opq α x Φ=>cases h;exact⟨_,rfl⟩
   |_=>exact hsub h
theorem WT {f k:Nat} {sp:cu} (hn:dM P f k sp) {vs:List AV} {xs:List Value} {K:AV→T→Nat→Bool} {R:Ending→World→Prop} (hE:cK E) (h:Sim E ρ G F M nx w) (hd:ay E ρ vs=some xs) (hk:HA k sp vs M nx K=true)
  (hr:∀v M' nx' E' ρ' w' z,K v M' nx'=true→Ext E ρ E' ρ'→Sim E' ρ' G F M' nx' w'→den E' ρ' v=some z→R (.returned z) w'):Calls P f xs.toArray w R:=by
 obtain⟨j,hj,hk⟩:=aT hk
 obtain⟨o,ho⟩:=tR hj
 obtain⟨_,_,_,_,_,_,hob,_⟩:=h.ex
 obtain⟨e,he,_⟩:=hob j o ho
 have h1:den E ρ (AV.ptr j 0)=some (.pointer (some ⟨e.b,0,none⟩)):=by simp[den,he]
 have:=yD hn hE h (eR h1 hd) hk hr
 simpa using this
def CellsV (E:Env) (ρ:Ren) (i:Nat) (f:Nat→Value) (M:T):Prop:=∀g Ty sz els el,M.get i=some (.blk g Ty sz els)→els[0]?=some el→∀(r:Nat) v,el[r]?=some v→den E ρ v=some (f r)
theorem dF {α:Type _} {l:List α} {r:Nat} {x:α} (h:r<l.length):l.take r++[x]++l.drop (r+1)=l.set r x:=by
 rw[List.set_eq_take_append_cons_drop,if_pos h];simp
theorem CellsV.of (h:Sim E ρ G F M nx w) (i:Nat):∃f,CellsV E ρ i f M:=by
 classical
 rcases hm:M.get i with _|o
 ·exact⟨fun _=>undef,fun g Ty sz els el h1=>by rw[hm]at h1;cases h1⟩
 cases o with
 |blk g Ty sz els=>
  rcases he:els[0]? with _|el
  ·exact⟨fun _=>undef,fun g' Ty' sz' els' el h1 h2=>by rw[hm]at h1;cases h1;rw[he]at h2;cases h2⟩
  ·refine⟨fun r=>((el[r]?).bind (den E ρ)).getD undef,fun g' Ty' sz' els' el' h1 h2 r v h3=> ?_⟩
   rw[hm]at h1;cases h1
   rw[he]at h2;cases h2
   obtain⟨e,arr,xs,e1,e2,e3,e4,e5,e6,e7,e8,e9⟩:=h.cellsAt hm
   have hmem:v∈els.flatten:=List.mem_flatten.2 ⟨el,al7 he,al7 h3⟩
   obtain⟨k,hk2⟩:=List.mem_iff_getElem?.1 hmem
   obtain⟨y,y1,_⟩:=eS e3 hk2
   simp[h3,y1]
 |_=>exact⟨fun _=>undef,fun g' Ty' sz' els' el h1=>by rw[hm]at h1;cases h1⟩
theorem Lz {y x:Value} (h:den E ρ (hv y)=some x):x=y:=by
 simp only[hv,den,aJ]at h
 split at h
 ·cases h;rfl
 ·cases h
theorem FN (hE:cK E) {i:Nat} {f:Nat→Value}:∀{hs:List Nat} {M:T} {K:List (Nat×AV)→T→Bool},Sim E ρ G F M nx w→CellsV E ρ i f M→xt i f hs M K=true→∃l M',Sim E ρ G F M' nx w∧l.map (·.1)=hs∧(∀p∈l,den E ρ p.2=some (f p.1))∧K l M'=true
 |[],M,K,h,_,hk=>⟨[],M,h,rfl,fun p hp=>(by cases hp),hk⟩
 |r::hs,M,K,h,hc,hk=>by
  obtain⟨g,Ty,sz,els,h1,hk⟩:=bE (show(cA M i fun g Ty sz els=>bF (bS els 0) fun el=>bF (bS el r) fun v=>ae (qa v) (upd el r [hv (f r)] fun e2=>upd els 0 [e2] fun els2=>T.set aP M i (some (.blk g Ty sz els2)) fun M'=>xt i f hs M' fun l M2=>K ((r,v)::l) M2))=true from hk)
  obtain⟨el,h2,hk⟩:=aT hk
  obtain⟨v,h3,hk⟩:=aT hk
  rw[cx]at h2 h3
  obtain⟨ho,hk⟩:=ac hk
  have y1:=hc g Ty sz els el h1 h2 r v h3
  obtain⟨hk,_⟩:=bG hk
  obtain⟨hk,_⟩:=bG hk
  obtain⟨M2,hk,g1,g2⟩:=T.set_ok _ _ _ _ _ hk
  have hd:den E ρ (hv (f r))=some (f r):=by
   simp only[hv,den,aJ]
   rw[if_pos ⟨tj hE ho y1,fun q=>by cases q⟩]
  have hsim:=h.swap h1 h2 h3 (v':=hv (f r)) (fun x hx=>by rw[y1]at hx;cases hx;exact hd) g1 g2
  have hc2:CellsV E ρ i f M2:=fun g' Ty' sz' els' el' q1 q2 r' v' q3=>by
   rw[g1]at q1
   injection q1 with q1
   injection q1 with _ _ _ q1
   subst q1
   have l0:=(List.getElem?_eq_some_iff.1 h2).1
   have l1:=(List.getElem?_eq_some_iff.1 h3).1
   simp only[List.length_singleton,Nat.zero_add]at q2
   rw[show els.take 0++[el.take r++[hv (f r)]++el.drop (r+1)]++els.drop 1=els.set 0 (el.set r (hv (f r))) by rw[dF l1];exact dF (r:=0) l0]at q2
   rw[List.getElem?_set_self l0]at q2
   cases q2
   by_cases e:r=r'
   ·subst e
    rw[List.getElem?_set_self l1]at q3
    cases q3;exact hd
   ·rw[List.getElem?_set_ne e]at q3
    exact hc g Ty sz els el h1 h2 r' v' q3
  obtain⟨l,M3,h4,e4,d4,k4⟩:=FN hE hsim hc2 hk
  exact⟨_,M3,h4,by simp[e4],fun p hp=>by
   rcases List.mem_cons.1 hp with rfl|hp
   ·exact y1
   ·exact d4 p hp,k4⟩
theorem Kg {el:List AV}:∀{l:List (Nat×AV)} {K:List AV→Bool},pkH el l K=true→∃us,us.map some=l.map (fun p=>el[p.1]?)∧K us=true
 |[],K,h=>⟨[],rfl,h⟩
 |p::l,K,h=>by
  obtain⟨u,h1,h2⟩:=aT (show(bF (bS el p.1) fun u=>pkH el l fun us=>K (u::us))=true from h)
  rw[cx]at h1
  obtain⟨us,h3,h4⟩:=Kg h2
  exact⟨u::us,by simp[h1,h3],h4⟩
theorem Ly {f:Nat→Value}:∀{hs:List Nat},hvs f hs=hs.map fun r=>hv (f r)
 |[]=>rfl
 |r::hs=>by rw[al9,←Ly (hs:=hs)];rfl
theorem EE {i:Nat} {f:Nat→Value}:∀{l:List (Nat×AV)} {M:T} {K:T→Bool},Sim E ρ G F M nx w→(∀p∈l,den E ρ p.2=some (f p.1))→
  (∀g Ty sz els el,M.get i=some (.blk g Ty sz els)→els[0]?=some el→∀p∈l,∃u,el[p.1]?=some u∧∀x,den E ρ u=some x→x=f p.1)→NB i l M K=true→∃M',Sim E ρ G F M' nx w∧K M'=true
 |[],M,K,h,_,_,hk=>⟨M,h,hk⟩
 |p::l,M,K,h,hd,hc,hk=>by
  obtain⟨g,Ty,sz,els,h1,hk⟩:=bE (show(cA M i fun g Ty sz els=>bF (bS els 0) fun el=>upd el p.1 [p.2] fun e2=>upd els 0 [e2] fun els2=>T.set aP M i (some (.blk g Ty sz els2)) fun M'=>NB i l M' K)=true from hk)
  obtain⟨el,h2,hk⟩:=aT hk
  rw[cx]at h2
  obtain⟨u,h3,h4⟩:=hc g Ty sz els el h1 h2 p (by simp)
  obtain⟨hk,_⟩:=bG hk
  obtain⟨hk,_⟩:=bG hk
  obtain⟨M2,hk,g1,g2⟩:=T.set_ok _ _ _ _ _ hk
  have hsim:=h.swap h1 h2 h3 (v':=p.2) (fun x hx=>by rw[h4 x hx];exact hd p (by simp)) g1 g2
  refine EE hsim (fun q hq=>hd q (by simp[hq])) (fun g' Ty' sz' els' el' q1 q2 q hq=> ?_) hk
  rw[g1]at q1
  injection q1 with q1
  injection q1 with _ _ _ q1
  subst q1
  have l0:=(List.getElem?_eq_some_iff.1 h2).1
  have l1:=(List.getElem?_eq_some_iff.1 h3).1
  simp only[List.length_singleton,Nat.zero_add]at q2
  rw[show els.take 0++[el.take p.1++[p.2]++el.drop (p.1+1)]++els.drop 1=els.set 0 (el.set p.1 p.2) by rw[dF l1];exact dF (r:=0) l0]at q2
  rw[List.getElem?_set_self l0]at q2
  cases q2
  by_cases e:p.1=q.1
  ·rw[←e,List.getElem?_set_self l1]
   exact⟨_,rfl,fun x hx=>by rw[hd p (by simp)]at hx;cases hx;rfl⟩
  ·rw[List.getElem?_set_ne e]
   exact hc g Ty sz els el h1 h2 q (by simp[hq])
def ra (P:Program) (f k:Nat) (sp:cu) (hs:List Nat):Prop:=(BS hs=true→dM P f k sp)∧(BS hs=false→aA P f k sp)
theorem Bg {f k:Nat} {sp:cu} {hs:List Nat} (h:aA P f k sp) (hh:BS hs=false:=by rfl):ra P f k sp hs:=⟨fun q=>(by rw[hh]at q;cases q),fun _=>h⟩
theorem ae3 {f k:Nat} {sp:cu} (h:dM P f k sp):ra P f k sp [999]:=⟨fun _=>h,fun q=>(by cases q)⟩
theorem Fu {f k:Nat} {hs:List Nat} {sp:cu} (hx:ra P f k sp hs) {vs:List AV} {xs:List Value} {K:AV→T→Nat→Bool} {R:Ending→World→Prop} (hE:cK E) (h:Sim E ρ G F M nx w) (hd:ay E ρ vs=some xs) (hk:Bh k hs sp vs M nx K=true)
  (hr:∀v M' nx' E' ρ' w' z,K v M' nx'=true→Ext E ρ E' ρ'→Sim E' ρ' G F M' nx' w'→den E' ρ' v=some z→R (.returned z) w'):Calls P f xs.toArray w R:=by
 cases hs with
 |nil=>exact Bi (hx.2 rfl) hE h hd hk hr
 |cons r hs=>
 cases h9:Nat.beq r 999 with
 |true=>
  have hk:(Bool.rec (motive:=fun _=>Bool) (bF (bS vs 0) fun v0=>fO v0 fun i _=>aj fun f:Nat→Value=>xt i f (r::hs) M fun l M'=>kM k sp vs M' nx fun v M2 n2=>Hd i f (r::hs) l M2 fun M3=>K v M3 n2) (HA k sp vs M nx K) (Nat.beq r 999))=true:=hk
  rw[h9]at hk
  exact WT (hx.1 h9) hE h hd hk hr
 |false=>
  have hn:=hx.2 h9
  have hk:(Bool.rec (motive:=fun _=>Bool) (bF (bS vs 0) fun v0=>fO v0 fun i _=>aj fun f:Nat→Value=>xt i f (r::hs) M fun l M'=>kM k sp vs M' nx fun v M2 n2=>Hd i f (r::hs) l M2 fun M3=>K v M3 n2) (HA k sp vs M nx K) (Nat.beq r 999))=true:=hk
  rw[h9]at hk
  obtain⟨v0,_,hk⟩:=aT (show(bF (bS vs 0) fun v0=>fO v0 fun i _=>aj fun f:Nat→Value=>xt i f (r::hs) M fun l M'=>kM k sp vs M' nx fun v M2 n2=>Hd i f (r::hs) l M2 fun M3=>K v M3 n2)=true from hk)
  obtain⟨i,o,_,hk⟩:=eK hk
  obtain⟨fv,hf⟩:=CellsV.of h i
  obtain⟨l,M1,h1,e1,d1,k1⟩:=FN hE h hf (aV hk fv)
  refine Bi hn hE h1 hd k1 fun v M2 n2 E2 ρ2 w2 z k2 x2 h2 z2=> ?_
  obtain⟨g,Ty,sz,els,q1,k3⟩:=bE k2
  obtain⟨el,q2,k3⟩:=aT k3
  rw[cx]at q2
  obtain⟨us,q3,k3⟩:=Kg k3
  obtain⟨q4,k3⟩:=ai k3
  obtain⟨M3,h3,k4⟩:=EE h2 (fun p hp=>x2.den (d1 p hp)) (fun g' Ty' sz' els' el' w1 w2 p hp=>by
   rw[q1]at w1;cases w1
   rw[q2]at w2;cases w2
   rw[q4,Ly,←e1,List.map_map,List.map_map]at q3
   have hq:=List.map_eq_map_iff.1 q3 p hp
   exact⟨_,hq.symm,fun x hx=>Lz hx⟩) k3
  exact hr v M3 n2 E2 ρ2 w2 z k4 x2 h3 z2
theorem vY (hm:P.follows .mixedOrders=true) {cf:fe} (hcf:gG P cf) {lp:bN} {lf:Nat} {fl:Bool} {pk:Nat} {f N:Nat} {res:XRes} {body:XC} (hf:aK P f (.mk N res body)=true) (hfl:fl=true→plain body=true) (hkp:dr pk body=true) (hlp:∀b j x,(b,j,x)∈de body→bj P N pk lp b j x)
  {vs:List AV} {xs:List Value} (hE:cK E) (h:Sim E ρ G F M nx w) (hd:ay E ρ vs=some xs) {K:AV→T→Nat→Bool} {R:Ending→World→Prop}
  (h2:ae (Nat.ble (cj vs) N) (rL vs 0 .nil fun S=>je cf lp lf body S M nx fun e S M nx=>aM (Nat.blt 1 e) false (As res S M fun v=>K v M nx))=true)
  (hr:∀v M' nx' E' ρ' w' z,K v M' nx'=true→Rel fl pk E ρ E' ρ'→Sim E' ρ' G F M' nx' w'→den E' ρ' v=some z→R (.returned z) w'):Calls P f xs.toArray w R:=by
 unfold aK at hf
 split at hf
 case h_2=>cases hf
 rename_i N' res' body' fn hx hfn
 cases hx
 split at hf
 case h_2=>cases hf
 rename_i c hb
 obtain⟨hf,c3⟩:=aC hf
 obtain⟨c1,c2⟩:=aC hf
 have c1:=al6 c1
 obtain⟨h3,h4⟩:=ac h2
 rw[Nat.ble_eq,bB]at h3
 have hlen:=bA hd
 refine calls_of_wp hfn hb ?_
 have hsz:(xs.toArray++Array.replicate (fn.ntmps - xs.toArray.size) undef).size=N:=by simp;omega
 obtain⟨S,s,h5⟩:=Df (a:={tmps:=xs.toArray++Array.replicate (fn.ntmps - xs.toArray.size) undef,defers:=[]}) (N:=N) hd (fun i x hi=>by
  have hlt:=(List.getElem?_eq_some_iff.1 hi).1
  have hv:=(List.getElem?_eq_some_iff.1 hi).2
  simp only[Nat.zero_add,Array.getD,hsz]
  rw[dif_pos (by omega)]
  simp[Array.getElem_append,hlt,hv]) (SR.nil hsz rfl) h4
 refine tY hm hcf body c hE hfl hkp hlp c3 s h h5 fun e S' M' nx' E' ρ' a' w' k1 k2 k3 k4=> ?_
 rcases aL k1 with⟨_,g1⟩|⟨q,g1⟩
 ·cases g1
 ·obtain⟨v,z,r1,r2,r3⟩:=Wj k3 k4 c2 g1
  have hR:=hr v M' nx' E' ρ' w' z r2 k2 k4 r1
  match e,q with
  |0,_=>exact⟨k3.defs,z,r3,hR⟩
  |1,_=>exact⟨k3.defs,z,r3,hR⟩
  |n+2,q=>
   have:Nat.blt 1 (n+2)=true:=by rw[amq];omega
   rw[this]at q;cases q
theorem CH (hm:P.follows .mixedOrders=true) {tab:Nat→Option XF} {nat:Nat→List AV→T→Option ES} {lp:bN} {lf:Nat} (htab:∀f xf,tab f=some xf→aK P f xf=true∧plain (dR xf)=true) (hnat:∀f vs M k sp hs,nat f vs M=some (.mk k sp hs)→ra P f k sp hs):∀d,gG P (Je tab nat lp lf d)
 |0=>by
  intro f vs M nx K E ρ G F w xs R hE h hd hk hr
  have hk':(Option.casesOn (nat f vs M) false fun es=>ES.casesOn es fun k sp hs=>Bh k hs sp vs M nx K:Bool)=true:=hk
  rcases e:nat f vs M with _|⟨k,sp,hs⟩
  ·rw[e]at hk';cases hk'
  ·rw[e]at hk'
   exact Fu (hnat f vs M k sp hs e) hE h hd hk' hr
 |d+1=>by
  intro f vs M nx K E ρ G F w xs R hE h hd hk hr
  have hk':(Option.casesOn (nat f vs M) (bF (tab f) fun xf=>XF.casesOn xf fun N res body=>
   ae (Nat.ble (cj vs) N) (rL vs 0 .nil fun S=>je (Je tab nat lp lf d) lp lf body S M nx fun e S M nx=>aM (Nat.blt 1 e) false (As res S M fun v=>K v M nx))) fun es=>ES.casesOn es fun k sp hs=>Bh k hs sp vs M nx K:Bool)=true:=hk
  rcases e:nat f vs M with _|⟨k,sp,hs⟩
  ·rw[e]at hk'
   obtain⟨xf,h1,h2⟩:=aT hk'
   obtain⟨hf,hp⟩:=htab f xf h1
   obtain⟨N,res,body⟩:=xf
   have hno:∀{x:XC},plain x=true→de x=[]:=by
    intro x
    induction x with
    |seq x y ihx ihy=>intro q;obtain⟨q1,q2⟩:=aC (show(plain x&&plain y)=true from q);simp[de,ihx q1,ihy q2]
    |cond p x y ihx ihy=>intro q;obtain⟨q1,q2⟩:=aC (show(plain x&&plain y)=true from q);simp[de,ihx q1,ihy q2]
    |block k x ih=>exact fun q=>ih q
    |loop l x ih=>exact fun q=>ih q
    |inv=>intro q;cases q
    |aft=>intro q;cases q
    |pre=>intro q;cases q
    |spc=>intro q;cases q
    |_=>intro _;rfl
   have hk0:∀{x:XC},plain x=true→dr 0 x=true:=by
    intro x
    induction x with
    |seq x y ihx ihy=>intro q;obtain⟨q1,q2⟩:=aC (show(plain x&&plain y)=true from q);simp[dr,ihx q1,ihy q2]
    |cond p x y ihx ihy=>intro q;obtain⟨q1,q2⟩:=aC (show(plain x&&plain y)=true from q);simp[dr,ihx q1,ihy q2]
    |block k x ih=>exact fun q=>ih q
    |loop l x ih=>exact fun q=>ih q
    |inv=>intro q;cases q
    |aft=>intro q;cases q
    |pre=>intro q;cases q
    |spc=>intro q;cases q
    |_=>intro _;rfl
   exact vY (fl:=true) (pk:=0) hm (CH hm htab hnat d) hf (fun _=>hp) (hk0 hp) (fun b j x q=>by rw[hno (x:=body) hp]at q;cases q) hE h hd h2 fun v M' nx' E' ρ' w' z q1 q2=>hr v M' nx' E' ρ' w' z q1 (q2.ext rfl)
  ·rw[e]at hk'
   exact Fu (hnat f vs M k sp hs e) hE h hd hk' hr
theorem WV (hm:P.follows .mixedOrders=true) {cf:fe} (hcf:gG P cf) {lp:bN} {lf f k:Nat} {xf:XF} {sp:cu} (hf:aK P f xf=true) (hkp:dr k (dR xf)=true) (hlp:∀b j x,(b,j,x)∈de (dR xf)→bj P (KS xf) k lp b j x) (hrun:∀us M nx K,sp us M nx K=true→tO k cf lp lf xf us M nx K=true):aA P f k sp:=by
 intro us xs E ρ G F M nx w K R hE hs hd hk hr
 obtain⟨N,res,body⟩:=xf
 refine vY (fl:=false) (pk:=k) (K:=fun v M _=>CF k v M K) (G:=G) hm hcf hf (fun q=>by cases q) hkp hlp hE hs hd (hrun us M nx K hk) fun v M' nx' E' ρ' w' z q1 q2 q3 q4=> ?_
 obtain⟨v2,M2,n2,ρ2,f1,f2,f3,f4⟩:=Gi q3 q4 q1
 exact hr v2 M2 n2 E' ρ2 w' z f3 q2.one q2.mem (fun i e i1 i2=>f4 i e i1 (q2.pin i e i1 i2)) f1 f2
theorem WU (hm:P.follows .mixedOrders=true) {cf:fe} (hcf:gG P cf) {lp:bN} {lf f k:Nat} {xf:XF} {sp:cu} (hf:aK P f xf=true) (hkp:dr k (dR xf)=true) (hlp:∀b j x,(b,j,x)∈de (dR xf)→bj P (KS xf) k lp b j x) (hrun:∀us M nx K,sp us M nx K=true→tO k cf lp lf xf us.tail M nx K=true):dM P f k sp:=by
 intro us xs E ρ G F M nx w K R hE hs hd hk hr
 obtain⟨N,res,body⟩:=xf
 have hd2:ay E ρ us.tail=some xs.tail:=by
  cases us with
  |nil=>simp only[ay,amm]at hd;subst hd;rfl
  |cons u us=>obtain⟨_,_,_,h2,rfl⟩:=bf hd;exact h2
 refine vY (fl:=false) (pk:=k) (K:=fun v M _=>CF k v M K) (G:=G) hm hcf hf (fun q=>by cases q) hkp hlp hE hs hd2 (hrun us M nx K hk) fun v M' nx' E' ρ' w' z q1 q2 q3 q4=> ?_
 obtain⟨v2,M2,n2,ρ2,f1,f2,f3,f4⟩:=Gi q3 q4 q1
 exact hr v2 M2 n2 E' ρ2 w' z f3 q2.one q2.mem (fun i e i1 i2=>f4 i e i1 (q2.pin i e i1 i2)) f1 f2
theorem ajX (hm:P.follows .mixedOrders=true) {cf:fe} (hcf:gG P cf) {lp:bN} {lf j:Nat} {x:XC} (hkp:dr pk x=true) {α:Type _} (I:α→SL×T×Nat) (μ:α→Nat) (spec:α→KC→Bool) (hlp:∀b j' x',(b,j',x')∈de x→bj P N pk lp b j' x')
  (hj:∀S M nx K,lp j S M nx K=true→∃p,(S,M,nx)=I p∧spec p K=true)
  (hbody:∀p K,spec p K=true→je cf lp lf x (I p).1 (I p).2.1 (I p).2.2 (fun e S M nx=>Nat.casesOn e (ee fun p'=>ae (aq ((S,M,nx)=I p'∧μ p'<μ p)) (spec p' K)) (fun e'=>K (Nat.succ e') S M nx))=true):bj P N pk lp true j x:=by
 intro c S M nx E ρ G F a w K Q hE hc s h hk hq
 obtain⟨p,hp,hs⟩:=hj S M nx K hk
 have key:∀(n:Nat) (p:α),μ p<n→∀{S:SL} {M:T} {nx:Nat} {E:Env} {ρ:Ren} {a:Act} {w:World},(S,M,nx)=I p→spec p K=true→cK E→SR E ρ N S a→Sim E ρ G F M nx w→
   (∀e S' M' nx' E' ρ' a' w',K e S' M' nx'=true→Rel false pk E ρ E' ρ'→SR E' ρ' N S' a'→Sim E' ρ' G F M' nx' w'→Q (xB e) a' w')→Code.rounds P c Q n a w:=by
  intro n
  induction n with
  |zero=>intro p hn;omega
  |succ n ih=>
   intro p hn S M nx E ρ a w hI hs hE s h hq
   have hb:=hbody p K hs
   rw[←hI]at hb
   refine tY (fl:=false) hm hcf x c hE (fun q=>by cases q) hkp hlp hc s h hb fun e S' M' nx' E' ρ' a' w' k1 k2 k3 k4=> ?_
   match e,k1 with
   |0,k1=>
    obtain⟨p',k5⟩:=bk k1
    obtain⟨⟨k6,k7⟩,k8⟩:=ai k5
    exact ih p' (by omega) k6 k8 k2.one k3 k4 fun e S2 M2 nx2 E2 ρ2 a2 w2 j1 j2=>hq e _ _ _ _ _ _ _ j1 (k2.trans j2)
   |1,k1=>exact hq 1 _ _ _ _ _ _ _ k1 k2 k3 k4
   |m+2,k1=>exact hq (m+2) _ _ _ _ _ _ _ k1 k2 k3 k4
 exact wp_loop_rounds (μ p+1) (key (μ p+1) p (Nat.lt_succ_self _) hp hs hE s h hq)
theorem ajr (hm:P.follows .mixedOrders=true) {cf:fe} (hcf:gG P cf) {lp:bN} {lf j:Nat} {x:XC} (hkp:dr pk x=true) (hlp:∀b j' x',(b,j',x')∈de x→bj P N pk lp b j' x') (hrun:∀S M nx K,lp j S M nx K=true→je cf lp lf x S M nx K=true):bj P N pk lp false j x:=by
 intro c S M nx E ρ G F a w K Q hE hc s h hk hq
 exact tY (fl:=false) hm hcf x c hE (fun q=>by cases q) hkp hlp hc s h (hrun S M nx K hk) hq
end
noncomputable def shp (v:AV):Nat:=AV.casesOn v 0 (fun _ _=>1) (fun _=>2) (fun _=>3) (fun _ _=>4) (fun _ _ _ _=>5) (fun _=>6) 7 8 9 10 11 (fun _ _=>12) (fun _ _=>13) (fun _=>14) (fun _=>15) (fun _=>16) (fun _=>17) (fun s=>SY.casesOn s (fun _ _=>20) (fun _=>21) (fun _=>22) (fun _ _ _ _ _=>23) (fun _ _ _=>24) (fun _ _=>25) (fun _ _ _ _ _ _=>26) (fun _ _ _ _=>27) (fun _ _ _=>28) (fun _=>29) (fun _ _ _ _ _=>30))
noncomputable def alf (vs:List AV) (n:Nat):Nat:=Option.casesOn (bS vs n) 0 shp
noncomputable def alF (vs:List AV) (l:List (Nat×Nat)):Bool:=List.rec true (fun p _ ih=>Bool.rec false ih (Nat.beq (alf vs p.1) p.2)) l
noncomputable def oW (f g:Nat) (vs:List AV) (l:List (Nat×Nat)):Bool:=Bool.rec false (alF vs l) (Nat.beq f g)
theorem oQ {P:Program} {f g k k0:Nat} {vs:List AV} {sp sp0:cu} {rest:Option ES} {l:List (Nat×Nat)} {hs hs0:List Nat} (h0:ra P g k0 sp0 hs0) (hr:rest=some (.mk k sp hs)→ra P f k sp hs) (h:(Bool.rec rest (some (ES.mk k0 sp0 hs0)) (oW f g vs l):Option ES)=some (.mk k sp hs)):ra P f k sp hs:=by
 cases hb:oW f g vs l with
 |false=>rw[hb]at h;exact hr h
 |true=>
  rw[hb]at h
  cases h
  unfold oW at hb
  cases he:Nat.beq f g with
  |false=>rw[he]at hb;cases hb
  |true=>rw[al6 he];exact h0
theorem cW {P:Program} {N k:Nat} {lp:bN} {b b0:Bool} {j j0:Nat} {x x0:XC} {l:List (Bool×Nat×XC)} (h0:bj P N k lp b0 j0 x0) (hr:(b,j,x)∈l→bj P N k lp b j x) (h:(b,j,x)∈(b0,j0,x0)::l):bj P N k lp b j x:=by
 rcases List.mem_cons.1 h with e|h
 ·injection e with e1 e2
  injection e2 with e3 e4
  subst e1;subst e3;subst e4
  exact h0
 ·exact hr h
theorem dV {p:Prop} {x y:Bool} (hp:p) (h:aM (aq p) x y=true):x=true:=by
 rcases eG h with⟨_,h⟩|⟨q,_⟩
 ·exact h
 ·exact absurd hp q
end Go.Sy
namespace Go.Proofs.YtjhpjjbnojbikaaGreat
open Go Go.RowKit Go.Shelf
attribute [local go_sem] Oper.semAt_some
structure Keep (ok:Nat→Prop) (W W':World):Prop where
 size:W.heap.size≤W'.heap.size
 block:∀k,ok k→k<W.heap.size→W'.heap[k]?=W.heap[k]?
theorem Keep.refl (ok:Nat→Prop) (W:World):Keep ok W W:=⟨amj _,fun _ _ _=>rfl⟩
theorem Keep.trans {ok:Nat→Prop} {A B C:World} (h:Keep ok A B) (k:Keep ok B C):Keep ok A C:=⟨Nat.le_trans h.size k.size,fun b hb hs=>(k.block b hb (Nat.lt_of_lt_of_le hs h.size)).trans (h.block b hb hs)⟩
theorem Keep.of {ok:Nat→Prop} {A B:World} (h:Below A.heap.size A B):Keep ok A B:=⟨h.size,fun b _ hs=>h.block b hs⟩
theorem Keep.cell {ok:Nat→Prop} {A B:World} (h:Keep ok A B) {p:Addr} (hb:ok p.block) (hs:p.block<A.heap.size):B.cell? p=A.cell? p:=World.cell?_of_block (h.block _ hb hs)
theorem Keep.put {ok:Nat→Prop} {w:World} (hn:∀b,ok b→b<w.heap.size) (W:World) (l:Nat) (o o':Obj) (hl:w.heap.size≤l) (h:W.heap[l]?=some o) (_:o.isCells=false) (_:o.isWalk=false):Keep ok W (W.putObj l o'):=
 ⟨(grownBy_putObj' W l o').size,fun b hb hs=>(grownBy_putObj' W l o').block b hs (fun e=>by have:=hn b hb;cases e;omega)⟩
set_option maxRecDepth 100000 in
set_option maxHeartbeats 1000000 in
theorem NA (l Ba Bb bv off cap gs:Nat) (ok:Nat→Prop) (lbs:Array Value) (zs:List (Int×Int)) (f:Int×Int→Bool) (hb:ok bv) (hBa:ok Ba) (hBb:ok Bb) (hlen:zs.length≤1000) (hgs:gs=160∨gs=176) (J Jx:List (Int×Int)→World→Prop)
  (hY:∀pre x W,J pre W→pre.length<zs.length→YieldAt Fence.wide 3 Tryz.prog l #[.agg #[.int .u8 x.1,.int .u16 x.2]] W fun e W'=>
   (e= .returned (.bool true)∧J (pre++[x]) W'∧Keep ok W W')∨(e= .returned (.bool false)∧Jx (pre++[x]) W'))
  (W:World) (hJ:AbidesFrom W.heap.size J) (hn:∀b,ok b→b<W.heap.size)
  (hsaid:∀x∈zs,∀W',Keep ok W W'→CallsIn Fence.wide 3 Tryz.prog gs (#[.agg #[.int .u8 x.1,.int .u16 x.2]]++lbs) W' fun e W''=>e= .returned (.bool (f x))∧Below W'.heap.size W' W'')
  (hWa:W.cell? ⟨Ba,2,none⟩=some (.slice (some ⟨bv,off,none⟩) zs.length cap)) (hWb:W.cell? ⟨Bb,0,none⟩=some (.func (.func gs) #[] lbs))
  (hc:∀j,j<zs.length→∀x,zs[j]?=some x→W.cell? ⟨bv,off+j*2,none⟩=some (.int .u8 x.1)∧W.cell? ⟨bv,off+j*2+1,none⟩=some (.int .u16 x.2)) (h0:J [] W):
  CallsIn Fence.wide 4 Tryz.prog 178 #[.func (.yield l) #[] #[],.pointer (some ⟨Ba,0,none⟩),.pointer (some ⟨Bb,0,none⟩)] W fun e W'=>(∃v,e= .returned v)∧
   ((∃ys,ys=zs.filter f∧J ys W')∨(∃pre,True∧Jx pre W')):=by
 refine callsIn_of_wp Tryz.func178 rfl trivial ?_ rfl
 simp only[Tryz.ntmps178,List.size_toArray,al3,al5,Nat.reduceAdd,Nat.reduceSub,Array.replicate_succ,Array.replicate_zero,List.push_toArray,List.append_toArray,amc,ama]
 gi_wp2
 gi_loopw [9] (fun i wr=>∃(k:Nat) (pre:List (Int×Int)),k≤zs.length∧i= .int .i64 k∧pre.length≤k∧pre=(zs.take k).filter f∧J pre wr∧Keep ok W wr)
  (fun i _=>zs.length - (intOf i).toNat)
 case atStart=>exact⟨0,[],Nat.zero_le _,rfl,amj _,by simp,h0,Keep.refl _ _⟩
 case round=>
  obtain⟨k,pre,hk,rfl,hpl,hpt,hJs,hnx⟩:=hrel
  by_cases hlt:k<zs.length
  ·obtain⟨x,hx⟩:∃x,zs[k]?=some x:=⟨_,List.getElem?_eq_getElem hlt⟩
   obtain⟨hc0,hc1⟩:=hc k hlt x hx
   have hc0:=(hnx.cell (p:=⟨bv,off+k*2,none⟩) hb (hn _ hb)).trans hc0
   have hc1:=(hnx.cell (p:=⟨bv,off+k*2+1,none⟩) hb (hn _ hb)).trans hc1
   have hb0:=(hnx.cell (p:=⟨Bb,0,none⟩) hBb (hn _ hBb)).trans hWb
   have hB1:Below wr.heap.size wr (wr.alloc (Obj.cells #[Value.int .u8 x.1,Value.int .u16 x.2] 52)):=(Below.refl _ wr).alloc (amj _) _
   have hwr:W.heap.size≤wr.heap.size:=hnx.size
   have hb1:=(hB1.cell (p:=⟨Bb,0,none⟩) (by have:=hn _ hBb;simp;omega)).trans hb0
   have hn0:(wr.alloc (Obj.cells #[Value.int .u8 x.1,Value.int .u16 x.2] 52)).cell? ⟨wr.heap.size,0,none⟩=some (.int .u8 x.1):=by unfold World.cell?;rw[World.alloc_heap_new];rfl
   have hn1:(wr.alloc (Obj.cells #[Value.int .u8 x.1,Value.int .u16 x.2] 52)).cell? ⟨wr.heap.size,1,none⟩=some (.int .u16 x.2):=by unfold World.cell?;rw[World.alloc_heap_new];rfl
   have hnx1:=hnx.trans (Keep.of hB1)
   have hs:=hsaid x (al7 hx) _ hnx1
   rcases hgs with rfl|rfl<;>gi_wp2_with (refine⟨trivial,?_⟩;(first|gi_at_call 160|gi_at_call 176);refine hs.mono ?_;obtain⟨b,hbt⟩:∃b,f x=b:=⟨_,rfl⟩;rw[hbt];rintro e w3 ⟨rfl,hb3⟩;have hn0':=(hb3.cell (p:=⟨wr.heap.size,0,none⟩) (by simp)).trans hn0;have hn1':=(hb3.cell (p:=⟨wr.heap.size,1,none⟩) (by simp)).trans hn1;have hB3:=hB1.trans (hb3.mono (show wr.heap.size≤(wr.alloc (Obj.cells #[Value.int .u8 x.1,Value.int .u16 x.2] 52)).heap.size by simp));have hJ3:=hJ pre wr w3 none hJs ⟨hB3.os,hB3.tape,hB3.output,hB3.size,fun k hk _=>hB3.block k hk⟩ (fun r e=>by cases e);obtain⟨fn,tmps,assign,body,hy,hR⟩:=hY pre x w3 hJ3 (by omega);have hnx3:=hnx.trans (Keep.of hB3))
   iterate 2
    ·refine hR.mono ?_
     rintro e W4 (⟨rfl,hJ4,hk4⟩|⟨rfl,hJx4⟩)
     ·gi_wp2
      go_roundw
      case rel=>exact⟨k+1,pre++[x],by omega,by simp,by simp;omega,by rw[hpt,List.take_add_one,hx,List.filter_append];rw[Option.toList_some,List.filter_cons,hbt,if_pos (by assumption)];rfl,hJ4,hnx3.trans hk4⟩
      case measure=>simp[intOf];omega
     ·gi_wp2
      refine bodyPost_ret (results_none rfl _ _ _) rfl ?_
      exact⟨⟨_,rfl⟩,.inr ⟨_,trivial,hJx4⟩⟩
    ·refine⟨fun _ h=>(by cases h),?_⟩
     gi_wp2
     go_roundw
     case rel=>exact⟨k+1,pre,by omega,by simp,by omega,by rw[hpt,List.take_add_one,hx,List.filter_append];rw[Option.toList_some,List.filter_cons,hbt,if_neg (by assumption)];simp,hJ3,hnx3⟩
     case measure=>simp[intOf];omega
  ·obtain rfl:k=zs.length:=by omega
   gi_wp2
   go_end0
   exact⟨⟨_,rfl⟩,.inl ⟨pre,by simpa using hpt,hJs⟩⟩
abbrev pj (zs:List (Int×Int)):List Value:=zs.flatMap fun x=>[.int .u8 x.1,.int .u16 x.2]
theorem rY (Ba Bb bv off cap gs:Nat) (ok:Nat→Prop) (lbs:Array Value) (zs:List (Int×Int)) (f:Int×Int→Bool) (hb:ok bv) (hBa:ok Ba) (hBb:ok Bb) (hlen:zs.length≤1000) (hgs:gs=160∨gs=176) (w:World) (hn:∀b,ok b→b<w.heap.size)
  (hsaid:∀x∈zs,∀W',Keep ok w W'→CallsIn Fence.wide 3 Tryz.prog gs (#[.agg #[.int .u8 x.1,.int .u16 x.2]]++lbs) W' fun e W''=>e= .returned (.bool (f x))∧Below W'.heap.size W' W'')
  (hWa:w.cell? ⟨Ba,2,none⟩=some (.slice (some ⟨bv,off,none⟩) zs.length cap)) (hWb:w.cell? ⟨Bb,0,none⟩=some (.func (.func gs) #[] lbs))
  (hc:∀j,j<zs.length→∀x,zs[j]?=some x→w.cell? ⟨bv,off+j*2,none⟩=some (.int .u8 x.1)∧w.cell? ⟨bv,off+j*2+1,none⟩=some (.int .u16 x.2)):
  SeqStopsK Fence.wide 4 Tryz.prog 178 #[.pointer (some ⟨Ba,0,none⟩),.pointer (some ⟨Bb,0,none⟩)] (fun x:Int×Int=> #[.agg #[.int .u8 x.1,.int .u16 x.2]]) (Keep ok) (fun ys=>ys=zs.filter f) (fun _=>True) zs.length w:=fun l J Jx W hW hJ _ hY h0=>by
 have hW0:Keep ok w W:=Keep.of hW
 exact NA l Ba Bb bv off cap gs ok lbs zs f hb hBa hBb hlen hgs J Jx hY W hJ (fun b hb=>Nat.lt_of_lt_of_le (hn b hb) hW.size) (fun x hx W' h=>hsaid x hx W' (hW0.trans h)) ((hW0.cell (p:=⟨Ba,2,none⟩) hBa (hn _ hBa)).trans hWa) ((hW0.cell (p:=⟨Bb,0,none⟩) hBb (hn _ hBb)).trans hWb)
  (fun j hj x hx=>⟨(hW0.cell (p:=⟨bv,_,none⟩) hb (hn _ hb)).trans (hc j hj x hx).1,(hW0.cell (p:=⟨bv,_,none⟩) hb (hn _ hb)).trans (hc j hj x hx).2⟩) h0
theorem aj2:(Tryz.prog.info? 52).map (fun i=>(i.zero,i.size,i.bytes))=some (some (.agg #[.int .u8 0,.int .u16 0]),2,4):=by kernel_rfl
theorem CE (w:World) (x y:Value) (t:TypeId):∀j u,[x,y][j]?=some u→(w.alloc (.cells #[x,y] t)).cell? ((⟨w.heap.size,0,none⟩:Addr).add j)=some u:=by
 intro j u hj
 rw[show(⟨w.heap.size,0,none⟩:Addr).add j=⟨w.heap.size,j,none⟩ by unfold Addr.add;split<;>simp_all]
 unfold World.cell?
 rw[World.alloc_heap_new]
 match j,hj with
 |0,hj=>simpa using hj
 |1,hj=>simpa using hj
 |j+2,hj=>simp at hj
def JC (W:World) (B:Nat) (x:Int×Int):Prop:=W.heap[B]?=some (.cells #[.int .u8 x.1,.int .u16 x.2] 52 (0,0))
theorem fL {W:World} {B:Nat} {x:Int×Int} (h:JC W B x):W.cell? ⟨B,0,none⟩=some (.int .u8 x.1)∧W.cell? ⟨B,1,none⟩=some (.int .u16 x.2):=by
 have h:W.heap[B]?=_:=h
 constructor<;>(unfold World.cell?;rw[h];rfl)
theorem Ri {β:Type} (B:Nat) (x:Int×Int):Own (fun(_:β) W=>JC W B x):=fun s X Y row hs hg hrow=>by
 have hs:X.heap[B]?=_:=hs
 exact(hg.block B (Array.getElem?_eq_some_iff.1 hs).1 (fun e=>by obtain⟨o,ho,hc⟩:=hrow B e.symm;rw[hs]at ho;cases ho;cases hc)).trans hs
set_option maxRecDepth 100000 in
set_option maxHeartbeats 2000000 in
theorem Jo (Ba Bb bv off cap gs:Nat) (lbs:Array Value) (zs:List (Int×Int)) (f:Int×Int→Bool) (hlen:zs.length≤1000) (hgs:gs=160∨gs=176) (w:World) (hb:bv<w.heap.size) (hBa:Ba<w.heap.size) (hBb:Bb<w.heap.size)
  (hsaid:∀x∈zs,∀W',Keep (· <w.heap.size) w W'→CallsIn Fence.wide 3 Tryz.prog gs (#[.agg #[.int .u8 x.1,.int .u16 x.2]]++lbs) W' fun e W''=>e= .returned (.bool (f x))∧Below W'.heap.size W' W'')
  (hWa:w.cell? ⟨Ba,2,none⟩=some (.slice (some ⟨bv,off,none⟩) zs.length cap)) (hWb:w.cell? ⟨Bb,0,none⟩=some (.func (.func gs) #[] lbs))
  (hc:∀j,j<zs.length→∀x,zs[j]?=some x→w.cell? ⟨bv,off+j*2,none⟩=some (.int .u8 x.1)∧w.cell? ⟨bv,off+j*2+1,none⟩=some (.int .u16 x.2)):
  CallsIn Fence.wide 5 Tryz.prog 177 #[.slice none 0 0,.func (.func 178) #[] #[.pointer (some ⟨Ba,0,none⟩),.pointer (some ⟨Bb,0,none⟩)]] w fun e W'=>∃v,e= .returned v∧W'.ownsRow w.heap.size 52 2 v (zs.filter f).length (pj (zs.filter f))∧Below w.heap.size w W':=by
 obtain⟨i0,hi,hz0,hz1,hz2⟩:=info_parts aj2
 refine callsIn_of_wp_marks Tryz.func177 rfl trivial ?_ rfl
 simp only[Tryz.ntmps177,List.size_toArray,al3,al5,Nat.reduceAdd,Nat.reduceSub,Array.replicate_succ,Array.replicate_zero,List.push_toArray,List.append_toArray,amc,ama]
 gi_wp2
 have bO:=Boxed.new w 43 (.slice none 0 0)
 have hB0:Below w.heap.size w (w.alloc (.cells #[.slice none 0 0] 43)):=(Below.refl _ w).alloc (amj _) _
 refine wpIn_rangeFunc_ownH rfl (by decide) (gf:=178) (lb:= #[.pointer (some ⟨Ba,0,none⟩),.pointer (some ⟨Bb,0,none⟩)]) rfl trivial (enters_of Tryz.func178 (by kernel_rfl) rfl)
  (rY Ba Bb bv off cap gs (· <w.heap.size) lbs zs f hb hBa hBb hlen hgs _ (fun b hb=>by simp;omega) (fun x hx W' h=>hsaid x hx W' ((Keep.of hB0).trans h)) ((hB0.cell (p:=⟨Ba,2,none⟩) hBa).trans hWa) ((hB0.cell (p:=⟨Bb,0,none⟩) hBb).trans hWb)
   (fun j hj x hx=>⟨(hB0.cell (p:=⟨bv,_,none⟩) hb).trans (hc j hj x hx).1,(hB0.cell (p:=⟨bv,_,none⟩) hb).trans (hc j hj x hx).2⟩))
  Keep.trans (Keep.put (fun b hb=>by simp;omega)) (Below.refl _ _) (fun _=>rfl)
  (fun pre W=>(∃v,Boxed W w.heap.size 43 v∧W.ownsRow w.heap.size 52 2 v pre.length (pj pre)∧True)∧Below w.heap.size w W)
  (fun _ _ _=>False)
  (OwnFrom.and (Own.from (holdsRow_own w.heap.size w.heap.size 43 52 2 (fun pre=>pre.length) pj (fun _ _=>True)) _) (ownFrom_below (amj _) (by simp)))
  (fun _ _ _ _ _ hs _ _=>hs)
  ⟨⟨_,bO,World.ownsRow_nil _ _ _ _,trivial⟩,hB0⟩
  (fun x a' W=>∃Bx,w.heap.size<Bx∧JC W Bx x∧a'={tmps:= #[.slice none 0 0,.func (.func 178) #[] #[.pointer (some ⟨Ba,0,none⟩),.pointer (some ⟨Bb,0,none⟩)],.pointer (some ⟨w.heap.size,0,none⟩),undef,.slice none 0 0,.pointer (some ⟨Bx,0,none⟩),.func (.func 178) #[] #[.pointer (some ⟨Ba,0,none⟩),.pointer (some ⟨Bb,0,none⟩)],.agg #[.int .u8 x.1,.int .u16 x.2],undef,undef,undef,undef,undef],defers:=[]})
  (fun x a' _ X Y row hs hg hr=>by obtain⟨Bx,h1,h2,h3⟩:=hs;exact⟨Bx,h1,Ri Bx x () X Y row h2 hg (fun r e=>(hr r e).2),h3⟩)
  ?assign ?body ?done ?stop
 case assign=>
  rintro l pre x W K ⟨⟨v,hv,hrow,_⟩,hB⟩ hK
  gi_wp2
  exact hK _ _ ((KeepsOthers.alloc _ _).from _) (Keep.of ((Below.refl _ W).alloc (amj _) _)) ⟨⟨v,hv.alloc _,hrow.alloc _,trivial⟩,hB.alloc hB.size _⟩ ⟨W.heap.size,hv.lt,World.alloc_heap_new W _,rfl⟩
 case body=>
  rintro l pre x a' W hl ⟨r,hr⟩ ⟨⟨v,hv,hrow,_⟩,hB⟩ ⟨Bx,hBx,bX,rfl⟩ hlt
  have hc:=hv.cell
  obtain⟨hx0,hx1⟩:=fL bX
  have hmx:1001≤maxLen:=by decide
  have hpl:pre.length+1≤maxLen:=by omega
  have hpb:(pre.length+1)*4≤140737488355328:=by omega
  gi_wp2_with (gi_at_builtin;refine wpListIn_append_own _ rfl _ _ 43 rfl w.heap.size 52 i0 (.agg #[.int .u8 0,.int .u16 0]) 2 4 Tryz.underlying43 hi hz0 hz1 hz2 rfl (by decide) _ _ _ rfl (hrow.alloc _) ⟨W.heap.size,0,none⟩ 1 1 [.int .u8 x.1,.int .u16 x.2] rfl rfl (CE _ _ _ _) (by simp[Value.oneCell']) hpl hpb (by have:=hB.size;simp;omega) ?_;intro v' w1 hown' hgrow _;obtain⟨g',cap',rfl⟩:=ownsRow_succ hown';obtain⟨hv1,hv2,hr2,hk2,hb2⟩:=hv.appended (by decide) hrow hB.size (amj _) hown' hgrow;have hc1:=hv1.cell;have hf1:=hv1.frozen)
  exact⟨hk2.from _,⟨hb2.size,fun b hb _=>hb2.block b hb⟩,⟨_,hv2,by simpa[List.flatMap_append] using hr2,trivial⟩,hB.trans hb2⟩
 case done=>
  rintro D ys W hD hS ⟨⟨v,hv,hrow,_⟩,hB⟩ hK
  have hc:=hv.cell
  gi_wp2
  subst hS
  refine⟨by simp,.inl ⟨_,_,rfl,run_takeDeferred hK,?_⟩⟩
  exact⟨_,results_tmp rfl _ _ _,v,rfl,ownsRow_putObj hrow _ hK rfl,hB.trans (belowK_b (w:=w) (amj _) W D _ _ (by simp at hD;omega) hK rfl rfl)⟩
 case stop=>
  rintro D c pre W _ _ h _
  exact h.elim
theorem pt (Ba Bb bv off cap gs:Nat) (lbs:Array Value) (zs:List (Int×Int)) (f:Int×Int→Bool) (hlen:zs.length≤1000) (hgs:gs=160∨gs=176) (w:World) (hb:bv<w.heap.size) (hBa:Ba<w.heap.size) (hBb:Bb<w.heap.size)
  (hsaid:∀x∈zs,∀W',Keep (· <w.heap.size) w W'→CallsIn Fence.wide 3 Tryz.prog gs (#[.agg #[.int .u8 x.1,.int .u16 x.2]]++lbs) W' fun e W''=>e= .returned (.bool (f x))∧Below W'.heap.size W' W'')
  (hWa:w.cell? ⟨Ba,2,none⟩=some (.slice (some ⟨bv,off,none⟩) zs.length cap)) (hWb:w.cell? ⟨Bb,0,none⟩=some (.func (.func gs) #[] lbs))
  (hc:∀j,j<zs.length→∀x,zs[j]?=some x→w.cell? ⟨bv,off+j*2,none⟩=some (.int .u8 x.1)∧w.cell? ⟨bv,off+j*2+1,none⟩=some (.int .u16 x.2)):
  CallsIn Fence.wide 6 Tryz.prog 158 #[.func (.func 178) #[] #[.pointer (some ⟨Ba,0,none⟩),.pointer (some ⟨Bb,0,none⟩)]] w fun e W'=>∃v,e= .returned v∧W'.ownsRow w.heap.size 52 2 v (zs.filter f).length (pj (zs.filter f))∧Below w.heap.size w W':=by
 refine callsIn_of_wp Tryz.func158 rfl trivial ?_ rfl
 simp only[Tryz.ntmps158,List.size_toArray,al3,al5,Nat.reduceAdd,Nat.reduceSub,Array.replicate_succ,Array.replicate_zero,List.push_toArray,List.append_toArray,amc,ama]
 gi_wp2_with (refine⟨trivial,?_⟩;gi_at_call 177;refine(Jo Ba Bb bv off cap gs lbs zs f hlen hgs w hb hBa hBb hsaid hWa hWb hc).mono ?_;rintro e w3 ⟨v,rfl,h1,h2⟩)
 refine bodyPost_ret (results_tmp rfl _ _ _) rfl ?_
 exact⟨v,rfl,h1,h2⟩
attribute [local go_sem] Oper.semAt_some
theorem xN {x:Int} (h1: -9223372036854775808≤x) (h2:x≤9223372036854775807):wrap64 x=x:=by unfold wrap64;omega
def Procs (w:World) (b o:Nat) (zs:List (Int×Int)):Prop:=∀j,j<zs.length→∀x,zs[j]?=some x→w.cell? ⟨b,o+j*2,none⟩=some (.int .u8 x.1)∧w.cell? ⟨b,o+j*2+1,none⟩=some (.int .u16 x.2)
theorem Procs.below {n b o:Nat} {A B:World} {zs:List (Int×Int)} (h:Below n A B) (hb:b<n) (p:Procs A b o zs):Procs B b o zs:=fun j hj x hx=>⟨(h.cell (p:=⟨b,_,none⟩) hb).trans (p j hj x hx).1,(h.cell (p:=⟨b,_,none⟩) hb).trans (p j hj x hx).2⟩
theorem alI:Tryz.prog.eqGuardType Tryz.prog.depth 52=false:=by kernel_rfl
attribute [local go_sem] alI
set_option maxRecDepth 100000 in
set_option maxHeartbeats 1000000 in
theorem PU (bl ol cap:Nat) (zs:List (Int×Int)) (hlen:zs.length≤1000) (y:Int×Int) (w:World) (hb:bl<w.heap.size) (hp:Procs w bl ol zs):
  CallsIn Fence.wide 1 Tryz.prog 59 #[.slice (some ⟨bl,ol,none⟩) zs.length cap,.agg #[.int .u8 y.1,.int .u16 y.2]] w fun e W'=>∃z:Int,e= .returned (.int .i64 z)∧(0≤z↔y∈zs)∧Below w.heap.size w W':=by
 refine callsIn_of_wp Tryz.func59 rfl trivial ?_ rfl
 simp only[Tryz.ntmps59,List.size_toArray,al3,al5,Nat.reduceAdd,Nat.reduceSub,Array.replicate_succ,Array.replicate_zero,List.push_toArray,List.append_toArray,amc,ama]
 gi_wp2
 have hB1:Below w.heap.size w (w.alloc (Obj.cells #[Value.int .u8 y.1,Value.int .u16 y.2] 52)):=(Below.refl _ w).alloc (amj _) _
 gi_loopw [8] (fun i wr=>∃k:Nat,k≤zs.length∧i= .int .i64 k∧Below w.heap.size w wr∧JC wr w.heap.size y∧y∉zs.take k)
  (fun i _=>zs.length - (intOf i).toNat)
 case atStart=>exact⟨0,Nat.zero_le _,rfl,hB1,World.alloc_heap_new w _,by simp⟩
 case round=>
  obtain⟨k,hk,rfl,hB,bX,hno⟩:=hrel
  obtain⟨hx0,hx1⟩:=fL bX
  by_cases hlt:k<zs.length
  ·obtain⟨x,hx⟩:∃x,zs[k]?=some x:=⟨_,List.getElem?_eq_getElem hlt⟩
   obtain⟨hc0,hc1⟩:=hp k hlt x hx
   have hc0:=(hB.cell (p:=⟨bl,ol+k*2,none⟩) hb).trans hc0
   have hc1:=(hB.cell (p:=⟨bl,ol+k*2+1,none⟩) hb).trans hc1
   gi_wp2
   by_cases h1:y.1=x.1<;>by_cases h2:y.2=x.2
   all_goals gi_region
   all_goals gi_wp2
   ·refine bodyPost_ret (results_tmp rfl _ _ _) rfl ?_
    exact⟨_,rfl,⟨fun _=>by rw[show y=x from Prod.ext h1 h2];exact al7 hx,fun _=>by omega⟩,hB.drew⟩
   all_goals exact⟨⟨k+1,by omega,by simp,hB.drew,bX,by rw[List.take_add_one,hx];intro hm;exact(List.mem_append.1 hm).elim hno fun q=>by(obtain rfl:y=x:=(by simpa using q));first|exact h1 rfl|exact h2 rfl⟩,by simp[intOf];omega⟩
  ·obtain rfl:k=zs.length:=by omega
   gi_wp2
   refine bodyPost_ret (results_tmp rfl _ _ _) rfl ?_
   exact⟨_,rfl,⟨fun h=>by omega,fun h=>absurd (by simpa using h) hno⟩,hB⟩
theorem Eu (bl ol cap:Nat) (zs:List (Int×Int)) (hlen:zs.length≤1000) (y:Int×Int) (w:World) (hb:bl<w.heap.size) (hp:Procs w bl ol zs):
  CallsIn Fence.wide 2 Tryz.prog 57 #[.slice (some ⟨bl,ol,none⟩) zs.length cap,.agg #[.int .u8 y.1,.int .u16 y.2]] w fun e W'=>e= .returned (.bool (decide (y∈zs)))∧Below w.heap.size w W':=by
 refine callsIn_of_wp Tryz.func57 rfl trivial ?_ rfl
 simp only[Tryz.ntmps57,List.size_toArray,al3,al5,Nat.reduceAdd,Nat.reduceSub,Array.replicate_succ,Array.replicate_zero,List.push_toArray,List.append_toArray,amc,ama]
 have hB1:Below w.heap.size w (w.alloc (Obj.cells #[Value.int .u8 y.1,Value.int .u16 y.2] 52)):=(Below.refl _ w).alloc (amj _) _
 obtain⟨hx0,hx1⟩:=fL (x:=y) (World.alloc_heap_new w (Obj.cells #[Value.int .u8 y.1,Value.int .u16 y.2] 52))
 gi_wp2_with (refine⟨trivial,?_⟩;gi_at_call 59;refine(PU bl ol cap zs hlen y _ (by simp;omega) (hp.below hB1 hb)).mono ?_;rintro e w3 ⟨z,rfl,hz,h1⟩)
 refine bodyPost_ret (results_tmp rfl _ _ _) rfl ?_
 exact⟨by by_cases hm:y∈zs<;>simp_all,hB1.trans (h1.mono (by simp))⟩
theorem MQ (bl ol bq cap:Nat) (zs:List (Int×Int)) (hlen:zs.length≤1000) (y:Int×Int) (w:World) (hb:bl<w.heap.size) (hq:bq<w.heap.size) (hp:Procs w bl ol zs) (hc:w.cell? ⟨bq,0,none⟩=some (.slice (some ⟨bl,ol,none⟩) zs.length cap)):
  CallsIn Fence.wide 3 Tryz.prog 176 #[.agg #[.int .u8 y.1,.int .u16 y.2],.pointer (some ⟨bq,0,none⟩)] w fun e W'=>e= .returned (.bool (decide (y∈zs)))∧Below w.heap.size w W':=by
 refine callsIn_of_wp Tryz.func176 rfl trivial ?_ rfl
 simp only[Tryz.ntmps176,List.size_toArray,al3,al5,Nat.reduceAdd,Nat.reduceSub,Array.replicate_succ,Array.replicate_zero,List.push_toArray,List.append_toArray,amc,ama]
 have hB1:Below w.heap.size w (w.alloc (Obj.cells #[Value.int .u8 y.1,Value.int .u16 y.2] 52)):=(Below.refl _ w).alloc (amj _) _
 obtain⟨hx0,hx1⟩:=fL (x:=y) (World.alloc_heap_new w (Obj.cells #[Value.int .u8 y.1,Value.int .u16 y.2] 52))
 have hc1:=(hB1.cell (p:=⟨bq,0,none⟩) hq).trans hc
 gi_wp2_with (refine⟨trivial,?_⟩;gi_at_call 57;refine(Eu bl ol cap zs hlen y _ (by simp;omega) (hp.below hB1 hb)).mono ?_;rintro e w3 ⟨rfl,h1⟩)
 refine bodyPost_ret (results_tmp rfl _ _ _) rfl ?_
 exact⟨rfl,hB1.trans (h1.mono (by simp))⟩
theorem Lv (ao:Option Addr) (c:Nat) (y:Int×Int) (w:World):CallsIn Fence.wide 1 Tryz.prog 59 #[.slice ao 0 c,.agg #[.int .u8 y.1,.int .u16 y.2]] w fun e W'=>e= .returned (.int .i64 (-1))∧Below w.heap.size w W':=by
 refine callsIn_of_wp Tryz.func59 rfl trivial ?_ rfl
 simp only[Tryz.ntmps59,List.size_toArray,al3,al5,Nat.reduceAdd,Nat.reduceSub,Array.replicate_succ,Array.replicate_zero,List.push_toArray,List.append_toArray,amc,ama]
 gi_wp2
 gi_loopw [8] (fun i wr=>i= .int .i64 0∧Below w.heap.size w wr) (fun _ _=>0)
 case atStart=>exact⟨rfl,(Below.refl _ w).alloc (amj _) _⟩
 case round=>
  obtain⟨rfl,hB⟩:=hrel
  gi_wp2
  refine bodyPost_ret (results_tmp rfl _ _ _) rfl ?_
  exact⟨rfl,hB⟩
theorem Cy (ao:Option Addr) (c:Nat) (y:Int×Int) (w:World):CallsIn Fence.wide 2 Tryz.prog 57 #[.slice ao 0 c,.agg #[.int .u8 y.1,.int .u16 y.2]] w fun e W'=>e= .returned (.bool false)∧Below w.heap.size w W':=by
 refine callsIn_of_wp Tryz.func57 rfl trivial ?_ rfl
 simp only[Tryz.ntmps57,List.size_toArray,al3,al5,Nat.reduceAdd,Nat.reduceSub,Array.replicate_succ,Array.replicate_zero,List.push_toArray,List.append_toArray,amc,ama]
 have hB1:Below w.heap.size w (w.alloc (Obj.cells #[Value.int .u8 y.1,Value.int .u16 y.2] 52)):=(Below.refl _ w).alloc (amj _) _
 obtain⟨hx0,hx1⟩:=fL (x:=y) (World.alloc_heap_new w (Obj.cells #[Value.int .u8 y.1,Value.int .u16 y.2] 52))
 gi_wp2_with (refine⟨trivial,?_⟩;gi_at_call 59;refine(Lv ao c y _).mono ?_;rintro e w3 ⟨rfl,h1⟩)
 refine bodyPost_ret (results_tmp rfl _ _ _) rfl ?_
 exact⟨rfl,hB1.trans (h1.mono (by simp))⟩
theorem Jq (ao:Option Addr) (c:Nat) (bq:Nat) (y:Int×Int) (w:World) (hq:bq<w.heap.size) (hc:w.cell? ⟨bq,0,none⟩=some (.slice ao 0 c)):
  CallsIn Fence.wide 3 Tryz.prog 176 #[.agg #[.int .u8 y.1,.int .u16 y.2],.pointer (some ⟨bq,0,none⟩)] w fun e W'=>e= .returned (.bool false)∧Below w.heap.size w W':=by
 refine callsIn_of_wp Tryz.func176 rfl trivial ?_ rfl
 simp only[Tryz.ntmps176,List.size_toArray,al3,al5,Nat.reduceAdd,Nat.reduceSub,Array.replicate_succ,Array.replicate_zero,List.push_toArray,List.append_toArray,amc,ama]
 have hB1:Below w.heap.size w (w.alloc (Obj.cells #[Value.int .u8 y.1,Value.int .u16 y.2] 52)):=(Below.refl _ w).alloc (amj _) _
 obtain⟨hx0,hx1⟩:=fL (x:=y) (World.alloc_heap_new w (Obj.cells #[Value.int .u8 y.1,Value.int .u16 y.2] 52))
 have hc1:=(hB1.cell (p:=⟨bq,0,none⟩) hq).trans hc
 gi_wp2_with (refine⟨trivial,?_⟩;gi_at_call 57;refine(Cy ao c y _).mono ?_;rintro e w3 ⟨rfl,h1⟩)
 refine bodyPost_ret (results_tmp rfl _ _ _) rfl ?_
 exact⟨rfl,hB1.trans (h1.mono (by simp))⟩
theorem kU (al:Option Addr) (bq cap:Nat) (zs:List (Int×Int)) (hlen:zs.length≤1000) (y:Int×Int) (w:World) (h0:0<zs.length→∃bl ol,al=some ⟨bl,ol,none⟩∧bl<w.heap.size∧Procs w bl ol zs) (hq:bq<w.heap.size) (hc:w.cell? ⟨bq,0,none⟩=some (.slice al zs.length cap)):
  CallsIn Fence.wide 3 Tryz.prog 176 #[.agg #[.int .u8 y.1,.int .u16 y.2],.pointer (some ⟨bq,0,none⟩)] w fun e W'=>e= .returned (.bool (decide (y∈zs)))∧Below w.heap.size w W':=by
 rcases Nat.eq_zero_or_pos zs.length with hz|hz
 ·have hn:=List.eq_nil_of_length_eq_zero hz
  subst hn
  refine(Jq al cap bq y w hq hc).mono ?_
  rintro e W' ⟨rfl,h⟩
  exact⟨by simp,h⟩
 ·obtain⟨bl,ol,rfl,hb,hp⟩:=h0 hz
  exact MQ bl ol bq cap zs hlen y w hb hq hp hc
theorem Rt (v:Value) (w:World) (ho:v.oneCell'=true):CallsIn Fence.wide 4 Tryz.prog 157 #[v] w fun e W'=>e= .returned (.func (.func 176) #[] #[.pointer (some ⟨w.heap.size,0,none⟩)])∧W'=w.alloc (.cells #[v] 43):=by
 refine callsIn_of_wp Tryz.func157 rfl trivial ?_ rfl
 simp only[Tryz.ntmps157,List.size_toArray,al3,al5,Nat.reduceAdd,Nat.reduceSub,Array.replicate_succ,Array.replicate_zero,List.push_toArray,List.append_toArray,amc,ama]
 gi_wp2
 refine bodyPost_ret (results_tmp rfl _ _ _) rfl ?_
 exact⟨rfl,rfl⟩
theorem DC (g nn:Int) (o:Option Addr) (n c gs:Nat) (lbs:Array Value) (w:World):CallsIn Fence.wide 4 Tryz.prog 159 #[.agg #[.int .u8 g,.int .u32 nn,.slice o n c],.func (.func gs) #[] lbs] w fun e W'=>e= .returned (.func (.func 178) #[] #[.pointer (some ⟨w.heap.size,0,none⟩),.pointer (some ⟨w.heap.size+1,0,none⟩)])∧W'=(w.alloc (.cells #[.int .u8 g,.int .u32 nn,.slice o n c] 45)).alloc (.cells #[.func (.func gs) #[] lbs] 113):=by
 refine callsIn_of_wp Tryz.func159 rfl trivial ?_ rfl
 simp only[Tryz.ntmps159,List.size_toArray,al3,al5,Nat.reduceAdd,Nat.reduceSub,Array.replicate_succ,Array.replicate_zero,List.push_toArray,List.append_toArray,amc,ama]
 gi_wp2
 refine bodyPost_ret (results_tmp rfl _ _ _) rfl ?_
 exact⟨rfl,rfl⟩
theorem KW (g nn:Int) (o:Option Addr) (n c:Nat) (w:World):CallsIn Fence.wide 4 Tryz.prog 90 #[.agg #[.int .u8 g,.int .u32 nn,.slice o n c]] w fun e W'=>e= .returned (.int .i64 (wrap64 (wrap64 (n / 2)+1)))∧W'=w.alloc (.cells #[.int .u8 g,.int .u32 nn,.slice o n c] 45):=by
 refine callsIn_of_wp Tryz.func90 rfl trivial ?_ rfl
 simp only[Tryz.ntmps90,List.size_toArray,al3,al5,Nat.reduceAdd,Nat.reduceSub,Array.replicate_succ,Array.replicate_zero,List.push_toArray,List.append_toArray,amc,ama]
 gi_wp2
 refine bodyPost_ret (results_tmp rfl _ _ _) rfl ?_
 exact⟨rfl,rfl⟩
theorem Procs.keep {ok:Nat→Prop} {b o:Nat} {A B:World} {zs:List (Int×Int)} (p:Procs A b o zs) (h:Keep ok A B) (hb:ok b) (hs:b<A.heap.size):Procs B b o zs:=fun j hj x hx=>⟨(h.cell (p:=⟨b,_,none⟩) hb hs).trans (p j hj x hx).1,(h.cell (p:=⟨b,_,none⟩) hb hs).trans (p j hj x hx).2⟩
theorem JI (W:World) (a b c:Obj):(((W.alloc a).alloc b).alloc c).heap[W.heap.size]?=some a∧(((W.alloc a).alloc b).alloc c).heap[W.heap.size+1]?=some b∧(((W.alloc a).alloc b).alloc c).heap[W.heap.size+1+1]?=some c:=by
 refine⟨(Below.heap_alloc _ _ _ (by simp;omega)).trans ((Below.heap_alloc _ _ _ (by simp)).trans (World.alloc_heap_new W a)),(Below.heap_alloc _ _ _ (by simp)).trans ?_,?_⟩
 ·have:=World.alloc_heap_new (W.alloc a) b;rwa[World.size_alloc]at this
 ·have:=World.alloc_heap_new ((W.alloc a).alloc b) c;rwa[World.size_alloc,World.size_alloc]at this
theorem Mz {β:Type} (B:Nat) (c:Array Value) (t:TypeId) (fz:Nat×Nat):Own (fun(_:β) W=>W.heap[B]?=some (.cells c t fz)):=fun s X Y row hs hg hrow=>
 (hg.block B (Array.getElem?_eq_some_iff.1 hs).1 (fun e=>by obtain⟨o,ho,hc⟩:=hrow B e.symm;rw[hs]at ho;cases ho;cases hc)).trans hs
set_option maxRecDepth 100000 in
set_option maxHeartbeats 2000000 in
theorem pW (g nn:Int) (bv ov cv cl:Nat) (al:Option Addr) (zs ls:List (Int×Int)) (hz:zs.length≤1000) (hl:ls.length≤1000) (w:World) (hbv:bv<w.heap.size) (pz:Procs w bv ov zs) (hl0:0<ls.length→∃bl ol,al=some ⟨bl,ol,none⟩∧bl<w.heap.size∧Procs w bl ol ls):
  CallsIn Fence.wide 5 Tryz.prog 162 #[.agg #[.int .u8 g,.int .u32 nn,.slice (some ⟨bv,ov,none⟩) zs.length cv],.slice al ls.length cl] w fun e W'=>e= .returned (.bool (decide (zs.length / 2+1≤(zs.filter fun x=>decide (x∈ls)).length)))∧Below w.heap.size w W':=by
 refine callsIn_of_wp_marks Tryz.func162 rfl trivial ?_ rfl
 simp only[Tryz.ntmps162,List.size_toArray,al3,al5,Nat.reduceAdd,Nat.reduceSub,Array.replicate_succ,Array.replicate_zero,List.push_toArray,List.append_toArray,amc,ama]
 gi_wp2
 obtain⟨W1,hW1⟩:∃W1,(w.alloc (Obj.cells #[Value.int .u8 g,Value.int .u32 nn,Value.slice (some ⟨bv,ov,none⟩) zs.length cv] 45)).alloc (Obj.cells #[Value.int .i64 0] 3)=W1:=⟨_,rfl⟩
 have hB1:Below w.heap.size w W1:=by rw[←hW1];exact((Below.refl _ w).alloc (amj _) _).alloc (by simp) _
 have hs1:W1.heap.size=w.heap.size+2:=by rw[←hW1];simp
 have hvb:W1.heap[w.heap.size]?=some (.cells #[Value.int .u8 g,Value.int .u32 nn,Value.slice (some ⟨bv,ov,none⟩) zs.length cv] 45 (0,0)):=by rw[←hW1];exact(Below.heap_alloc _ _ _ (by simp)).trans (World.alloc_heap_new w _)
 have hnb:Boxed W1 (w.heap.size+1) 3 (.int .i64 0):=by rw[←hW1];have:=World.alloc_heap_new (w.alloc (Obj.cells #[Value.int .u8 g,Value.int .u32 nn,Value.slice (some ⟨bv,ov,none⟩) zs.length cv] 45)) (Obj.cells #[Value.int .i64 0] 3);rwa[World.size_alloc]at this
 have hc0:W1.cell? ⟨w.heap.size,0,none⟩=some (.int .u8 g):=by unfold World.cell?;rw[hvb];rfl
 have hc1:W1.cell? ⟨w.heap.size,1,none⟩=some (.int .u32 nn):=by unfold World.cell?;rw[hvb];rfl
 have hc2:W1.cell? ⟨w.heap.size,2,none⟩=some (.slice (some ⟨bv,ov,none⟩) zs.length cv):=by unfold World.cell?;rw[hvb];rfl
 rw[hW1]
 refine wpIn_mono (Q:=Exit.then (fun a W'=>a={tmps:= #[.agg #[.int .u8 g,.int .u32 nn,.slice (some ⟨bv,ov,none⟩) zs.length cv],.slice al ls.length cl,.pointer (some ⟨w.heap.size,0,none⟩),undef,.bool false,.pointer (some ⟨w.heap.size+1,0,none⟩),.agg #[.int .u8 g,.int .u32 nn,.slice (some ⟨bv,ov,none⟩) zs.length cv],.slice al ls.length cl,.func (.func 176) #[] #[.pointer (some ⟨w.heap.size+2,0,none⟩)],.func (.func 178) #[] #[.pointer (some ⟨w.heap.size+2+1,0,none⟩),.pointer (some ⟨w.heap.size+2+1+1,0,none⟩)],undef,undef,undef,undef,undef,undef,undef],defers:=[]}∧
   W'=(((W1.alloc (.cells #[.slice al ls.length cl] 43)).alloc (.cells #[.int .u8 g,.int .u32 nn,.slice (some ⟨bv,ov,none⟩) zs.length cv] 45)).alloc (.cells #[.func (.func 176) #[] #[.pointer (some ⟨w.heap.size+2,0,none⟩)]] 113)).drew) (fun _ _ _=>False)) ?_ ?_
 ·gi_region_with (first|(refine⟨trivial,?_⟩;gi_at_call 157;refine(Rt _ _ rfl).mono ?_;rintro e w' ⟨rfl,rfl⟩)|(refine⟨trivial,?_⟩;gi_at_call 159;refine(DC _ _ _ _ _ _ _ _).mono ?_;rintro e w' ⟨rfl,rfl⟩))
  all_goals exact⟨rfl,rfl⟩
 ·rintro e a3 W3 h
  cases e<;>first|exact h.elim|skip
  obtain⟨rfl,rfl⟩:=h
  gi_wp2
  obtain⟨W4,hW4⟩:∃W4,(((W1.alloc (Obj.cells #[Value.slice al ls.length cl] 43)).alloc (Obj.cells #[Value.int .u8 g,Value.int .u32 nn,Value.slice (some ⟨bv,ov,none⟩) zs.length cv] 45)).alloc (Obj.cells #[Value.func (.func 176) #[] #[Value.pointer (some ⟨w.heap.size+2,0,none⟩)]] 113)).drew=W4:=⟨_,rfl⟩
  have hB14:Below W1.heap.size W1 W4:=by rw[←hW4];exact((((Below.refl _ W1).alloc (amj _) _).alloc (by simp) _).alloc (by simp;omega) _).drew
  have hB4:Below w.heap.size w W4:=hB1.trans (hB14.mono (by omega))
  have hs4:W4.heap.size=w.heap.size+5:=by rw[←hW4];simp[World.drew];omega
  have t:=JI W1 (Obj.cells #[Value.slice al ls.length cl] 43) (Obj.cells #[Value.int .u8 g,Value.int .u32 nn,Value.slice (some ⟨bv,ov,none⟩) zs.length cv] 45) (Obj.cells #[Value.func (.func 176) #[] #[Value.pointer (some ⟨w.heap.size+2,0,none⟩)]] 113)
  rw[hs1]at t
  obtain⟨t2,t3,t4⟩:W4.heap[w.heap.size+2]?=_∧W4.heap[w.heap.size+2+1]?=_∧W4.heap[w.heap.size+2+1+1]?=_:=by rw[←hW4];exact t
  have q2:W4.cell? ⟨w.heap.size+2,0,none⟩=some (Value.slice al ls.length cl):=by unfold World.cell?;rw[t2];rfl
  have q3:W4.cell? ⟨w.heap.size+2+1,2,none⟩=some (Value.slice (some ⟨bv,ov,none⟩) zs.length cv):=by unfold World.cell?;rw[t3];rfl
  have q4:W4.cell? ⟨w.heap.size+2+1+1,0,none⟩=some (Value.func (.func 176) #[] #[Value.pointer (some ⟨w.heap.size+2,0,none⟩)]):=by unfold World.cell?;rw[t4];rfl
  have hv4:W4.heap[w.heap.size]?=some (.cells #[Value.int .u8 g,Value.int .u32 nn,Value.slice (some ⟨bv,ov,none⟩) zs.length cv] 45 (0,0)):=(hB14.block _ (by omega)).trans hvb
  have hn4:Boxed W4 (w.heap.size+1) 3 (.int .i64 0):=(hB14.block _ (by omega)).trans hnb
  rw[hW4]
  clear hW4
  have hok:∀b,(b<w.heap.size+5∧b≠w.heap.size+1)→b<W4.heap.size:=fun b hb=>by omega
  refine wpIn_rangeFunc_ownF rfl (by decide) (gf:=178) (lb:= #[.pointer (some ⟨w.heap.size+2+1,0,none⟩),.pointer (some ⟨w.heap.size+2+1+1,0,none⟩)]) rfl trivial (enters_of Tryz.func178 (by kernel_rfl) rfl)
   (rY (w.heap.size+2+1) (w.heap.size+2+1+1) bv ov cv 176 (fun b=>b<w.heap.size+5∧b≠w.heap.size+1) #[.pointer (some ⟨w.heap.size+2,0,none⟩)] zs (fun x=>decide (x∈ls)) (by omega) (by omega) (by omega) hz (.inr rfl) W4 hok
    (fun x hx W' h=>(kU al (w.heap.size+2) cl ls hl x W' (fun h0=>by obtain⟨bl,ol,e,hbl,pl⟩:=hl0 h0;exact⟨bl,ol,e,by have:=h.size;omega,(pl.below hB4 hbl).keep h (by first|omega|(dsimp only;omega)) (by omega)⟩) (by have:=h.size;omega) ((h.cell (p:=⟨w.heap.size+2,0,none⟩) (by first|omega|(dsimp only;omega)) (by first|omega|(dsimp only;omega))).trans q2)).mono (by rintro e W'' ⟨rfl,hb⟩;exact⟨rfl,hb⟩))
    q3 q4 (fun j hj x hx=>by have:=(pz.below hB4 hbv) j hj x hx;simpa using this))
   Keep.trans (Keep.put hok) (Below.refl _ _) (fun _=>rfl)
   (fun pre W=>(Boxed W (w.heap.size+1) 3 (.int .i64 (pre.length:Int))∧W.heap[w.heap.size]?=some (.cells #[Value.int .u8 g,Value.int .u32 nn,Value.slice (some ⟨bv,ov,none⟩) zs.length cv] 45 (0,0)))∧Below w.heap.size w W)
   (fun _ _ _=>False)
   (OwnFrom.and (Own.from (fun s A B row hs hg hr=>⟨boxed_own _ _ (fun(_:Unit)=>_) () A B row hs.1 hg hr,Mz _ _ _ _ () A B row hs.2 hg hr⟩) _) (ownFrom_below (amj _) (by omega)))
   (fun _ _ _ _ _ hs _ _=>hs)
   ⟨⟨hn4,hv4⟩,hB4⟩
   (fun x=>{tmps:= #[.agg #[.int .u8 g,.int .u32 nn,.slice (some ⟨bv,ov,none⟩) zs.length cv],.slice al ls.length cl,.pointer (some ⟨w.heap.size,0,none⟩),undef,.bool false,.pointer (some ⟨w.heap.size+1,0,none⟩),.agg #[.int .u8 g,.int .u32 nn,.slice (some ⟨bv,ov,none⟩) zs.length cv],.slice al ls.length cl,.func (.func 176) #[] #[.pointer (some ⟨w.heap.size+2,0,none⟩)],.func (.func 178) #[] #[.pointer (some ⟨w.heap.size+2+1,0,none⟩),.pointer (some ⟨w.heap.size+2+1+1,0,none⟩)],.agg #[.int .u8 x.1,.int .u16 x.2],undef,undef,undef,undef,undef,undef],defers:=[]}) ?assign ?body ?done ?stop
  case assign=>
   intro l x W K hK
   gi_wp2
   simpa using hK
  case body=>
   rintro l pre x W ⟨⟨hz,hv⟩,hB⟩ hlt
   have hc:=hz.cell
   have hf:=hz.frozen
   gi_wp2
   have hg:=grownBy_setCell' W (w.heap.size+1) (Value.int .i64 ((pre.length:Int)+1))
   exact⟨KeepsOthers.setCell _ _ _,⟨hg.size,fun b hb hs=>hg.block b hs (fun e=>by cases e;exact hb.2 rfl)⟩,⟨by have h:=hz.set (.int .i64 ((pre.length:Int)+1));simpa using h,(hg.block _ (Array.getElem?_eq_some_iff.1 hv).1 (fun e=>by simp at e)).trans hv⟩,hB.setCell (p:=⟨w.heap.size+1,0,none⟩) (by first|omega|(dsimp only;omega)) _⟩
  case done=>
   rintro D ys W hD hS ⟨⟨hz,hv⟩,hB⟩ hK
   obtain⟨z,hzl⟩:∃z:Int,(ys.length:Int)=z:=⟨_,rfl⟩
   rw[hzl]at hz
   have hc:=hz.cell
   have hc0:W.cell? ⟨w.heap.size,0,none⟩=some (.int .u8 g):=by unfold World.cell?;rw[hv];rfl
   have hc1:W.cell? ⟨w.heap.size,1,none⟩=some (.int .u32 nn):=by unfold World.cell?;rw[hv];rfl
   have hc2:W.cell? ⟨w.heap.size,2,none⟩=some (.slice (some ⟨bv,ov,none⟩) zs.length cv):=by unfold World.cell?;rw[hv];rfl
   gi_wp2
   refine wpIn_mono (Q:=Exit.then (fun a W'=>(∃(b:Bool) (x y z2 u:Value),b=decide (zs.length / 2+1≤ys.length)∧a={tmps:= #[.agg #[.int .u8 g,.int .u32 nn,.slice (some ⟨bv,ov,none⟩) zs.length cv],.slice al ls.length cl,.pointer (some ⟨w.heap.size,0,none⟩),undef,.bool b,.pointer (some ⟨w.heap.size+1,0,none⟩),.agg #[.int .u8 g,.int .u32 nn,.slice (some ⟨bv,ov,none⟩) zs.length cv],.slice al ls.length cl,.func (.func 176) #[] #[.pointer (some ⟨w.heap.size+2,0,none⟩)],.func (.func 178) #[] #[.pointer (some ⟨w.heap.size+2+1,0,none⟩),.pointer (some ⟨w.heap.size+2+1+1,0,none⟩)],undef,undef,undef,x,y,z2,u],defers:=[{target:=.collected D,args:= #[]}]})∧Below W.heap.size W W') (fun _ _ _=>False)) ?_ ?_
   ·have hd:W.drew.cell? ⟨w.heap.size+1,0,none⟩=some (.int .i64 z):=hc
    have hlt:w.heap.size+1<W.heap.size:=hz.lt
    have hne:¬w.heap.size+1=W.heap.size:=by omega
    have hmj:wrap64 (wrap64 (zs.length / 2)+1)=(zs.length / 2+1:Int):=by rw[xN (x:=(zs.length / 2:Int)) (by omega) (by omega),xN (by omega) (by omega)]
    rcases Int.lt_or_le z (wrap64 (wrap64 (zs.length / 2)+1)) with hM|hM
    ·have hN:¬(wrap64 (wrap64 (zs.length / 2)+1)≤z):=Int.not_le.2 hM
     gi_region_with (first|(refine⟨trivial,?_⟩;gi_at_call 90;refine(KW _ _ _ _ _ _).mono ?_;rintro e w' ⟨rfl,rfl⟩))
     all_goals exact⟨⟨_,_,_,_,_,by rw[hmj]at hM;simp;omega,rfl⟩,by first|exact((Below.refl _ W).alloc (amj _) _).drew|exact((Below.refl _ W).drew).alloc (amj _) _⟩
    ·gi_region_with (first|(refine⟨trivial,?_⟩;gi_at_call 90;refine(KW _ _ _ _ _ _).mono ?_;rintro e w' ⟨rfl,rfl⟩))
     all_goals exact⟨⟨_,_,_,_,_,by rw[hmj]at hM;simp;omega,rfl⟩,by first|exact((Below.refl _ W).alloc (amj _) _).drew|exact((Below.refl _ W).drew).alloc (amj _) _⟩
   ·rintro e a3 W3 h
    cases e<;>first|exact h.elim|skip
    obtain⟨⟨b,x,y,z2,u,hb,rfl⟩,hB3⟩:=h
    gi_wp2
    refine⟨by simp,.inl ⟨_,_,rfl,run_takeDeferred ((hB3.block _ (Array.getElem?_eq_some_iff.1 hK).1).trans hK),?_⟩⟩
    refine⟨_,results_tmp rfl _ _ _,by subst hS;subst hb;rfl,?_⟩
    exact(hB.trans (hB3.mono hB.size)).trans (belowK_b (w:=w) (amj _) W3 D _ _ (by omega) ((hB3.block _ (Array.getElem?_eq_some_iff.1 hK).1).trans hK) rfl rfl)
  case stop=>
   rintro D c pre W _ _ h _
   exact h.elim
theorem Jp {a b f:Nat} {args:Array Value} {w:World} {R:Ending→World→Prop} (h:CallsIn Fence.wide a Tryz.prog f args w R):CallsIn Fence.wide b Tryz.prog f args w R:=callsIn_wide.2 (callsIn_wide.1 h)
theorem tq (bc bq:Nat) (y:Int×Int) (q:Bool) (w:World) (hb:bc<w.heap.size) (hc:w.cell? ⟨bc,0,none⟩=some (.func (.func 176) #[] #[.pointer (some ⟨bq,0,none⟩)]))
  (ha:∀W',Below w.heap.size w W'→CallsIn Fence.wide 3 Tryz.prog 176 #[.agg #[.int .u8 y.1,.int .u16 y.2],.pointer (some ⟨bq,0,none⟩)] W' fun e W''=>e= .returned (.bool q)∧Below W'.heap.size W' W''):
  CallsIn Fence.wide 4 Tryz.prog 160 #[.agg #[.int .u8 y.1,.int .u16 y.2],.pointer (some ⟨bc,0,none⟩)] w fun e W'=>e= .returned (.bool (!q))∧Below w.heap.size w W':=by
 refine callsIn_of_wp Tryz.func160 rfl trivial ?_ rfl
 simp only[Tryz.ntmps160,List.size_toArray,al3,al5,Nat.reduceAdd,Nat.reduceSub,Array.replicate_succ,Array.replicate_zero,List.push_toArray,List.append_toArray,amc,ama]
 have hB1:Below w.heap.size w (w.alloc (Obj.cells #[Value.int .u8 y.1,Value.int .u16 y.2] 52)):=(Below.refl _ w).alloc (amj _) _
 obtain⟨hx0,hx1⟩:=fL (x:=y) (World.alloc_heap_new w (Obj.cells #[Value.int .u8 y.1,Value.int .u16 y.2] 52))
 have hc1:=(hB1.cell (p:=⟨bc,0,none⟩) hb).trans hc
 gi_wp2_with (refine⟨trivial,?_⟩;gi_at_call 176;refine(ha _ hB1).mono ?_;rintro e w3 ⟨rfl,h1⟩)
 refine bodyPost_ret (results_tmp rfl _ _ _) rfl ?_
 exact⟨rfl,hB1.trans (h1.mono (by simp))⟩
end Go.Proofs.YtjhpjjbnojbikaaGreat
namespace Go.Sy
open Go Go.RowKit Go.Eng
set_option maxRecDepth 100000
structure RS where
 n:Nat
 t:Nat
 i:Nat
 g:Option (Nat×Bool)
 v:Nat
 k:Nat
abbrev RD (β:Type 1) (α:Type _):=RS→(α→RS→β)→β
variable {β:Type 1}
noncomputable def kC (n:Nat) (k:Nat→β):β:=Nat.rec (k 0) (fun m _=>k (Nat.succ m)) n
noncomputable def fS_ (l:List Nat):Nat→Nat→Nat→(Nat→Nat→β)→β:=List.rec (fun _ q s k=>k s q) (fun f _ ih r q s k=>Bool.rec (kC (Nat.sub r f) fun r=>ih r q (Nat.succ s) k) (k s (Nat.add (Nat.mul f q) r)) (Nat.blt r f)) l
noncomputable def nQ (T:Nat) (l:List Nat):RD β Nat:=fun x K=>RS.rec (fun n t i g v k=>kC (Nat.mod n T) fun r=>kC (Nat.div n T) fun q=>fS_ l r q 0 fun s m=>kC m fun m=>kC s fun s=>K s ⟨m,t,i,g,v,k⟩) x
noncomputable def aG {α} (a:α):RD β α:=fun x K=>K a x
noncomputable def eM {α γ} (d:RD β α) (f:α→RD β γ):RD β γ:=fun x K=>d x fun a y=>f a y K
noncomputable def au {α γ} (d:RD β (α→γ)) (e:RD β α):RD β γ:=fun x K=>d x fun f y=>e y fun a z=>K (f a) z
noncomputable def gA_:RD β Nat:=eM (nQ 252 [5,9,19,33,53,63,55,9,3,0,0,0,0,0,0,1,0,0,0,1,0,0,0,0,0,0,0,0,0,0,0,1]) fun b x K=>RS.rec (fun n t i g v k=>kC (Nat.pow 2 b) fun T=>kC (Nat.mod n T) fun r=>kC (Nat.div n T) fun m=>kC (Nat.sub (Nat.add T r) 1) fun r=>K r ⟨m,t,i,g,v,k⟩) x
noncomputable def dH (T:Nat) (l:List Nat):RD β Nat:=eM (nQ T l) fun s x K=>Bool.rec (K s x) (gA_ x fun r y=>kC (Nat.add s r) fun r=>K r y) (Nat.beq (Nat.succ s) l.length)
noncomputable def iA {α} (d:RD β α) (l:List (RD β α)):Nat→RD β α:=List.rec (fun _=>d) (fun e _ ih s x K=>Nat.rec (e x K) (fun s _=>ih s x K) s) l
noncomputable def uB {α} (T:Nat) (l:List Nat) (d:RD β α) (ds:List (RD β α)):RD β α:=eM (nQ T l) fun s x K=>iA d ds s x K
noncomputable def rA_ {α} (d:RD β α) (m:Nat):RD β (List α):=fun x K=>Nat.rec (motive:=fun _=>RS→(List α→RS→_)→_) (fun x K=>K [] x) (fun _ ih x K=>d x fun a y=>ih y fun l z=>K (a::l) z) m x K
noncomputable def nc {α} (n:RD β Nat) (d:RD β α):RD β (List α):=eM n fun m=>rA_ d m
noncomputable def Fw:RD β Nat:=dH 252 [0,164,22,27,13,3,1,0,2,2,1,3,0,0,1,1,0,1,0,0,8,3,0]
noncomputable def afm:RD β Nat:=dH 126 [0,49,62,15,0]
noncomputable def afl:RD β Nat:=dH 46 [0,0,41,1,3,1,0]
noncomputable def KQ:RD β Nat:=dH 105 [27,37,19,15,1,0,6,0]
noncomputable def qu:RD β Nat:=dH 249 [13,139,59,26,9,0,3,0]
noncomputable def afk:RD β Nat:=dH 1 [1]
noncomputable def afj:RD β Nat:=dH 13 [0,4,3,1,0,5,0]
noncomputable def ajP:RD β Nat:=dH 252 [17,55,26,20,73,23,16,2,0,0,0,0,0,0,1,0,2,0,3,1,0,1,1,1,0,1,0,0,0,0,0,1,2,6]
noncomputable def afi:RD β Nat:=dH 3 [0,0,0,3,0]
noncomputable def ajO:RD β Nat:=dH 249 [0,53,55,30,22,15,13,10,8,8,5,3,2,3,5,3,2,2,1,1,2,6]
noncomputable def dD:RD β Nat:=dH 249 [154,60,12,6,5,12,0]
noncomputable def ajN:RD β Nat:=dH 246 [48,126,26,18,24,4,0]
noncomputable def ja:RD β Nat:=dH 250 [18,9,18,13,13,13,7,15,11,3,6,1,1,1,3,1,1,1,3,1,1,0,0,6,13,9,17,9,15,15,18,4,4,0]
noncomputable def ajM:RD β Nat:=dH 250 [81,0,2,167,0]
noncomputable def ajL:RD β Nat:=dH 251 [94,25,22,17,83,10,0]
noncomputable def uS:RD β Nat:=dH 250 [1,2,2,3,13,13,26,52,108,0,0,0,0,0,0,0,0,0,0,0,0,0,0,0,0,0,0,0,0,0,0,0,2,28]
noncomputable def ajK:RD β Nat:=dH 250 [1,4,30,10,27,11,22,9,14,7,5,4,4,3,3,4,3,3,4,3,2,6,1,1,2,3,4,2,2,3,2,3,2,3,2,2,1,1,2,1,34]
noncomputable def ajJ:RD β Nat:=dH 218 [107,79,27,2,3,0]
noncomputable def Ul:RD β Nat:=dH 250 [0,0,135,57,19,13,8,8,2,2,2,2,2,0]
noncomputable def zE:RD β Nat:=dH 117 [70,33,13,1,0]
noncomputable def ajI:RD β Nat:=dH 249 [75,19,15,18,9,19,4,10,13,8,1,4,5,6,2,4,3,2,2,4,3,0,4,0,0,4,0,2,3,6,4,0]
noncomputable def zD:RD β Nat:=dH 255 [0,0,0,0,0,0,0,0,2,1,1,1,4,3,2,0,2,1,1,14,1,3,1,1,1,1,1,1,1,1,1,1,9,1,2,1,1,1,7,2,185]
noncomputable def Uk:RD β Nat:=dH 55 [36,13,6,0]
noncomputable def ajH:RD β Nat:=dH 250 [180,46,1,14,9,0]
noncomputable def Uj:RD β Nat:=dH 250 [102,59,8,10,11,5,3,3,7,4,6,7,6,1,0,1,3,2,12]
noncomputable def ajG:RD β Nat:=dH 250 [1,7,24,18,31,21,17,17,16,12,30,10,12,9,8,4,3,1,3,1,5]
noncomputable def ajF:RD β Nat:=dH 7 [6,1,0]
noncomputable def Ui:RD β Nat:=dH 253 [0,141,55,28,1,1,1,1,0,0,3,0,0,0,0,0,0,0,9,0,0,0,0,0,0,0,0,0,0,0,0,12,1]
noncomputable def ajE:RD β Nat:=dH 251 [187,8,14,15,10,8,2,7]
noncomputable def Uh:RD β Nat:=dH 204 [0,0,0,1,2,0,3,3,19,12,5,4,7,8,4,6,4,4,6,18,3,2,1,2,4,2,5,5,0,0,4,1,3,0,1,2,1,0,2,60]
noncomputable def cz:RD β Nat:=dH 255 [63,119,27,10,6,3,3,2,1,3,1,1,1,1,1,0,2,0,2,0,1,0,1,1,0,1,0,0,0,1,0,2,0,2,0]
noncomputable def ajD:RD β Nat:=dH 55 [47,8,0]
noncomputable def dU:RD β Nat:=dH 248 [2,1,74,18,75,5,23,8,23,1,3,3,1,1,0,0,0,1,1,0,1,0,0,1,0,0,0,0,0,1,1,3,1]
noncomputable def ajC:RD β Nat:=dH 112 [0,0,0,0,0,0,0,0,0,0,0,0,0,0,14,3,7,8,5,2,4,5,1,2,4,3,1,2,5,9,1,3,3,0,2,1,1,0,7,4,15]
noncomputable def kO:RD β Nat:=dH 220 [0,53,66,10,2,5,0,0,0,0,0,0,0,0,0,0,0,0,52,0,0,0,0,0,0,0,0,0,0,0,0,0,0,32,0]
noncomputable def na:RD β Nat:=dH 251 [0,0,0,5,2,1,0,0,0,0,0,0,0,0,0,0,0,0,0,0,0,0,0,0,0,0,0,0,1,0,0,0,0,0,1,0,3,238]
noncomputable def rz:RD β Nat:=dH 205 [37,36,2,24,6,4,7,3,6,1,2,2,4,12,2,24,26,1,3,3]
noncomputable def my:RD β Bool:=eM (nQ 250 [148,102]) fun s x K=>Nat.rec (K false x) (fun _ _=>K true x) s
noncomputable def sl_:RD β Nat:=eM (nQ 251 [131,15,12,7,8,6,4,4,3,3,2,2,2,2,14,6,4,4,2,3,3,4,2,1,1,1,1,1,3]) fun s x K=>Bool.rec (Bool.rec (ajC x K) (kC (Nat.sub s 14) fun s=>K s x) (Nat.blt s 28)) (kC (Nat.sub (Nat.sub x.t 1) s) fun s=>K s x) (Nat.blt s 14)
noncomputable def lv_:RD β (List Nat):=eM ajP fun m x K=>Nat.rec (motive:=fun _=>Nat→RS→(List Nat→RS→_)→_) (fun _ x K=>K [] x) (fun _ ih p x K=>ajE x fun d y=>kC (Nat.add p d) fun d=>ih (Nat.succ d) y fun l z=>K (d::l) z) m 0 x K
abbrev eC (T z:Nat) {α:Type} (e:α→List PL):Nat→Nat→Nat→Adm:=fun a b c=>.cell a b c T z α e
abbrev eB (T z:Nat) {α:Type} (e:α→List PL):Nat→Nat→Nat→Adm:=fun a _ _=>.bors a T z α e
abbrev eN (T z:Nat) {α:Type} (e:α→List PL):Nat→Nat→Nat→Adm:=fun a _ _=>.born a T z α e
abbrev eJ {α:Type} (e:α→List PL):Nat→Nat→Nat→Adm:=fun a b c=>.ipj a b c α e
noncomputable def AA {α γ} (d:RD β α) (e:RD β γ):RD β (α×γ):=au (au (aG Prod.mk) d) e
noncomputable def alZ:RD β Int:=uB 250 [241,9] (aG 0) [(au (aG Int.ofNat) Uj),(au (aG Int.negSucc) Uj)]
def z_ (k:Nat):AV:=.int k (.ofNat 0)
noncomputable def Ew:List (RD β (List AV)):=[aG [z_ 1,z_ 3,.nilS],aG [z_ 1,z_ 2],aG [z_ 1,z_ 3,.nilS,.nilP,.nilP,.nilP,z_ 0,z_ 1,z_ 1,z_ 2,.nilS,.nilS,.nilS,.nilS,(.bool false),z_ 3,z_ 3,z_ 0,.nilS,.nilS,z_ 0],aG [z_ 1,z_ 1,z_ 2,z_ 3,z_ 1,z_ 1,z_ 1,z_ 1,z_ 1,z_ 1,z_ 1,z_ 3,.nilS,z_ 1,(.str []),.nilS,z_ 1,z_ 2],aG [z_ 1,z_ 3,.nilS,.nilP,.nilP,.nilP,z_ 0],aG [.nilF],aG [],aG [(.bool false),(.bool false),(.bool false),(.bool false),(.bool false),(.bool false),(.bool false),(.bool false),(.bool false),(.bool false),(.bool false),(.bool false),(.bool false),(.bool false),(.bool false),(.bool false)],aG [z_ 1,z_ 3,.nilS,z_ 1,z_ 2,.nilS,z_ 0,z_ 0,(.bool false),.nilM],aG [z_ 4,z_ 4,.nilS,.nilS,(.bool false)],aG [z_ 1,(.str [])],aG [z_ 1,z_ 2,z_ 3,z_ 1,z_ 1,z_ 1,z_ 1,z_ 1,z_ 1,z_ 1],aG [z_ 0],aG [z_ 1,z_ 2,z_ 1,z_ 1,z_ 1,z_ 3,z_ 3,z_ 3,z_ 3,z_ 4,z_ 4,z_ 1,z_ 2,z_ 3,z_ 1,z_ 1,z_ 1,z_ 1,z_ 1,z_ 1,z_ 1,.nilS,z_ 1,(.str []),z_ 1,z_ 3,.nilS,z_ 1,z_ 2,(.bool false),.nilS,.nilS,.nilS],aG [z_ 1,z_ 1],aG [z_ 1,z_ 1,z_ 1,z_ 3,z_ 3,z_ 3,z_ 3,z_ 4,z_ 4,z_ 1,z_ 2,z_ 3,z_ 1,z_ 1,z_ 1,z_ 1,z_ 1,z_ 1,z_ 1,.nilS,z_ 1,(.str []),z_ 1,z_ 3,.nilS,z_ 1,z_ 2,(.bool false),.nilS,.nilS,.nilS],aG [.nilS,.nilS],aG [z_ 1,z_ 3,.nilS,z_ 4,z_ 0,.nilM,z_ 4,.nilP,.nilS,.nilS,.nilS],aG [z_ 0,z_ 0,z_ 1,z_ 1,z_ 1,z_ 3,z_ 3,z_ 3,z_ 3,z_ 4,z_ 4,z_ 1,z_ 2,z_ 3,z_ 1,z_ 1,z_ 1,z_ 1,z_ 1,z_ 1,z_ 1,.nilS,z_ 1,(.str []),z_ 1,z_ 3,.nilS,z_ 1,z_ 2,(.bool false),.nilS,.nilS,.nilS],aG [.nilP],aG [(.bool false)],aG [.nilS,.nilS,.nilS,z_ 0,z_ 0]]
noncomputable def AV_:RD β AV:=uB 252 [132,88,1,4,26,0,1] (aG .nilP) [(au (au (aG AV.int) ajH) alZ),(au (aG AV.bool) my),(au (aG AV.str) (nc afk uS)),(aG AV.nilP),(aG AV.nilS),(aG .nilP),(aG AV.nilF)]
noncomputable def ci:RD β XP:=uB 251 [224,26,1] (aG (.t 0)) [(au (aG XP.t) sl_),(au (aG XP.c) AV_),(au (aG XP.f) zD)]
noncomputable def Sk:RD β (Option XP):=uB 99 [60,39] (aG none) [(aG Option.none),(au (aG Option.some) ci)]
noncomputable def ET_ (m:Nat):RD β ET:=Nat.rec (fun x K=>K .int x) (fun _ r=>uB 146 [87,2,8,46,3] (aG .int) [(aG ET.int),(aG ET.bool),(aG ET.str),(au (aG ET.st) (nc afl (AA cz (AA cz (AA my r))))),(au (au (au (au (aG ET.ar) (nc afi cz)) cz) my) r)]) m
noncomputable def xo_:List (RD β XO):=[(aG XO.bad),(au (aG XO.mv) ci),(au (au (au (aG XO.pick) ci) ci) ci),(au (au (au (au (aG XO.bin) ajM) ajL) ci) ci),(au (au (au (au (au (aG XO.eqs) my) cz) (ET_ 9)) ci) ci),(au (au (au (aG XO.isn) my) cz) ci),(au (au (aG XO.un) cz) ci),(au (au (aG XO.cnv) cz) ci),(au (au (aG XO.fa) ajI) ci),(au (aG XO.nck) ci),(au (au (au (au (aG XO.ixa) cz) kO) ci) ci),(au (au (au (aG XO.ixs) kO) ci) ci),(au (au (au (au (aG XO.fld) my) cz) cz) ci),(au (au (aG XO.len) cz) ci),(au (au (au (aG XO.mx) my) ci) ci),(au (au (aG XO.ext) cz) ci),(au (au (aG XO.six) ci) ci),(au (au (au (aG XO.bld) (eM rz fun s=>iA (aG []) Ew s)) (nc KQ (AA cz cz))) (nc qu ci)),(au (au (au (aG XO.ld) my) Ui) ci),(au (aG XO.mlen) ci),(au (au (au (au (au (aG XO.sls) kO) ci) Sk) Sk) Sk),(au (au (au (au (au (au (aG XO.lk) cz) (ET_ 9)) AV_) my) ci) ci),(au (aG XO.ent) ci),(au (au (au (aG XO.st) Ui) ci) ci),(au (au (aG XO.al) na) (eM rz fun s=>iA (aG []) Ew s)),(au (au (aG XO.box) na) ci),(au (au (au (au (au (au (aG XO.bsl) na) kO) cz) (eM rz fun s=>iA (aG []) Ew s)) (nc KQ (AA cz cz))) (nc qu ci)),(au (au (au (au (au (au (aG XO.mks) na) kO) uS) (eM rz fun s=>iA (aG []) Ew s)) ci) ci),(aG XO.mkm),(au (au (au (au (au (aG XO.mu) cz) (ET_ 9)) ci) ci) ci),(au (aG XO.rng) ci),(au (aG XO.nxt) ci),(au (au (au (au (au (aG XO.app) na) kO) uS) ci) ci),(aG .bad),(au (au (aG XO.mkf) zD) (nc qu ci)),(au (au (au (au (au (aG XO.ixv) my) cz) kO) ci) ci),(aG .bad),(aG .bad),(au (au (au (aG XO.clr) na) (eM rz fun s=>iA (aG []) Ew s)) ci),(au (aG XO.mcl) ci),(aG .bad),(au (au (au (au (au (au (aG XO.mkx) na) kO) uS) (eM rz fun s=>iA (aG []) Ew s)) ci) ci),(au (au (au (au (au (aG XO.apr) na) kO) uS) ci) ci)]
noncomputable def UN:RD β XO:=fun x K=>iA (aG 0) [nQ 254 [0,120,1,26,0,1,5,1,16,31,0,5,1,10,1,1,0,2,13,0,2,0,0,1,2,8,1,0,1,0,0,1,2,0,1,1],nQ 250 [0,0,0,0,0,0,0,0,249,0,0,0,0,0,0,0,0,0,1],nQ 251 [0,0,0,0,0,0,0,0,42,0,1,0,0,0,0,0,0,0,173,0,0,0,0,35],nQ 252 [0,60,8,31,7,2,11,2,30,4,1,3,0,10,1,0,0,8,41,1,2,1,0,6,10,0,5,0,1,1,1,0,2,0,2,0,0,0,0,1],nQ 261 [1,141,20,12,1,0,1,1,7,7,0,4,1,1,1,3,1,2,23,0,1,0,1,12,4,4,1,1,1,1,0,1,3,0,1,0,0,0,1,0,0,1,1]] x.v x fun s y=>RS.rec (fun n t i g _ k=>iA (aG .bad) xo_ s ⟨n,t,i,g,([4,0,4,4,4,4,4,4,2,1,4,4,4,4,4,4,4,4,3,4,4,4,4,4,4,4,4,4,4,4,4,4,4,4,4,4,4,4,4,4,4,4,4]:List Nat).getD s 4,k⟩ K) y
noncomputable def st_:RD β XSt:=eM (fun x K=>iA (aG 0) [nQ 256 [115,1,49,1,1,0,0,0,0,0,0,0,7,0,0,0,0,0,27,0,1,1,0,0,0,0,0,0,0,0,1,0,0,0,0,0,4,1,7,1,10,1,0,0,0,0,0,0,0,0,0,0,0,0,15,1,1,2,0,0,0,0,0,0,0,0,1,0,0,0,0,0,0,0,1,6,0,0,0,0,0,0,0,0,0,0,0,0,0,0,1],nQ 252 [58,0,0,0,0,0,123,1,1,1,0,0,4,0,0,0,0,0,0,0,0,0,0,0,40,1,1,0,0,0,1,0,0,0,0,0,0,0,0,0,0,0,0,0,0,0,0,0,0,0,0,0,0,0,0,0,0,0,0,0,16,1,0,2,0,0,0,0,0,0,0,0,0,0,0,0,0,0,0,0,0,2],nQ 191 [11,0,0,0,0,0,67,0,0,3,0,0,2,0,0,0,0,0,0,0,0,0,0,0,85,0,0,0,0,0,0,0,0,0,0,0,0,0,0,0,0,0,0,0,0,0,0,0,0,0,0,0,0,0,0,0,0,0,0,0,23]] x.k x K) fun s=>eM (iA ajG [fun x K=>K x.i x] (Nat.mod s 2)) fun i=>eM (fun x K=>RS.rec (fun n t _ g v _=>kC (Nat.mod (Nat.div s 6) 3) fun k=>K k ⟨n,t,Nat.succ i,g,v,k⟩) x) fun m=>
 eM (iA (eM (AA sl_ my) fun g x K=>RS.rec (fun n t i _ v k=>K (some g) ⟨n,t,i,some g,v,k⟩) x) [aG none,fun x K=>K x.g x] m) fun g=>eM (iA (aG none) [fun x K=>K (some x.t) x,eM ajK fun d=>aG (some d)] (Nat.mod (Nat.div s 2) 3)) fun d=>
 eM (iA (au (au (au (aG (XSt.k i d g)) sl_) (nc afj zD)) (nc qu ci)) [au (aG (XSt.p i d g)) UN,au (aG (XSt.r i d g)) UN,au (aG (XSt.e i d g)) UN,au (au (aG (XSt.c i d g)) zD) (nc qu ci),au (aG (XSt.a i (d.getD 0) g)) UN] (Nat.div s 18)) fun r x K=>
 RS.rec (fun n t i g v k=>kC (Nat.max t ((d.map Nat.succ).getD 0)) fun t=>K r ⟨n,t,i,g,v,k⟩) x
noncomputable def ss_:RD β (List XSt):=eM ajO fun m x K=>RS.rec (fun n t _ g v k=>rA_ st_ m ⟨n,t,0,g,v,k⟩ K) x
noncomputable def mx_ (l:List XSt):Nat:=List.rec 0 (fun s _ ih=>Nat.max (Nat.succ (ng s).1) ih) l
noncomputable def alU (m:Nat):RD β XTr:=Nat.rec (aG (.leaf [])) (fun _ r=>uB 38 [23,15] (aG (.leaf [])) [(au (aG XTr.leaf) ss_),(au (au (au (au (aG XTr.split) cz) cz) r) r)]) m
noncomputable def ait (E:List (Nat→Nat→Nat→Adm)) (A:List Adm):RD β Adm:=uB 254 [77,2,11,23,28,62,0,1,8,1,22,3,1,2,1,1,1,3,1,2,2,2] (aG (.up 0)) [(au (au (aG Adm.can) ajN) lv_),(au (au (aG fun a0 (e:Nat→Nat→Nat→Adm)=>e a0 0 0) dU) (eM zE fun s=>iA (aG fun _ _ _=>.up 0) (E.map fun b=>aG b) s)),(au (au (aG fun a0 (e:Nat→Nat→Nat→Adm)=>e a0 0 0) dU) (eM zE fun s=>iA (aG fun _ _ _=>.up 0) (E.map fun b=>aG b) s)),(au (au (au (au (aG fun a0 a1 a2 (e:Nat→Nat→Nat→Adm)=>e a0 a1 a2) dD) dD) ja) (eM zE fun s=>iA (aG fun _ _ _=>.up 0) (E.map fun b=>aG b) s)),(au (aG Adm.up) dU),(au (au (au (aG Adm.upc) dD) dD) ja),(aG (.up 0)),(au (au (aG Adm.fix) dU) cz),(au (aG Adm.frz) dU),(au (au (au (au (aG Adm.fixc) dD) dD) ja) cz),(au (au (au (aG Adm.frzc) dD) dD) ja),(au (aG Adm.cut) dU),(au (au (au (aG Adm.ipf) dD) dD) ja),(au (au (au (au (aG fun a0 a1 a2 (e:Nat→Nat→Nat→Adm)=>e a0 a1 a2) dD) dD) ja) (eM zE fun s=>iA (aG fun _ _ _=>.up 0) (E.map fun b=>aG b) s)),(au (aG Adm.frp) dU),(au (au (au (aG Adm.frpc) dD) dD) ja),(au (au (au (aG Adm.fgt) dD) dD) ja),(au (au (au (aG Adm.eqc) dD) dD) ja),(au (au (au (aG Adm.tail) dD) dD) ja),(au (au (au (au (aG Adm.fixl) dD) dD) ja) cz),(au (au (au (au (au (aG Adm.fixb) dU) cz) cz) cz) cz),(eM ajF fun s=>iA (aG (.up 0)) (A.map fun b=>aG b) s)]
noncomputable def XC_ (E:List (Nat→Nat→Nat→Adm)) (A:List Adm) (B:List XC) (m:Nat):RD β XC:=Nat.rec (aG .bad) (fun _ r=>uB 250 [0,16,19,6,67,8,1,87,19,9,1,2,7,4,1,3] (aG .bad) [(aG .bad),(aG XC.skip),(aG XC.ret),(au (aG XC.exit) Ul),(eM ss_ fun l x K=>K (.reg false x.i (.leaf l)) x),(eM ss_ fun l x K=>kC (mx_ l) fun m=>K (.reg true m (.leaf l)) x),(au (au (au (aG XC.reg) my) Uh) (alU 9)),(au (au (aG XC.seq) r) r),(au (au (au (aG XC.cond) ci) r) r),(au (au (aG XC.block) Ul) r),(au (au (aG XC.loop) lv_) r),(au (au (aG XC.inv) Uk) r),(au (au (aG XC.aft) r) (nc afm (AA ajJ (nc Fw (ait E A))))),(au (au (aG XC.pre) (nc Fw (ait E A))) r),(au (au (aG XC.spc) Uk) r),(eM ajD fun s=>iA (aG .bad) (B.map fun b=>aG b) s)]) m
noncomputable def akh:RD β XRes:=uB 196 [26,150,1,14,4,0,1] (aG .none) [(aG XRes.none),(au (aG XRes.one) dU),(au (au (aG XRes.two) dU) dU),(au (au (au (aG XRes.cell) dU) my) dU),(au (au (au (au (aG XRes.ct) dU) my) dU) dU),(aG .none),(au (au (au (au (au (aG XRes.tct) dU) dU) my) dU) dU)]
noncomputable def rs_ (n:Nat):RS:=⟨n,0,0,some (0,false),0,0⟩
noncomputable def df (E:List (Nat→Nat→Nat→Adm)) (A:List Adm) (B:List XC) (n:Nat):XC:=XC_ E A B 99 (rs_ n) fun c _=>c
noncomputable def aB (E:List (Nat→Nat→Nat→Adm)) (A:List Adm) (B:List XC) (n:Nat):XF:=au (au (au (aG XF.mk) Uh) akh) (XC_ E A B 99) (rs_ n) fun c _=>c
structure NV {α:Type 1} (y:α) where
 x:α
 h:x=y
end Go.Sy
