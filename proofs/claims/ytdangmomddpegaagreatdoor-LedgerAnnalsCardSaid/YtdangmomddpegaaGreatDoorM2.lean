/- Definitions and lemmas of the proof, without a condition of their own. -/
import Derived.Test.YtdangmomddpegaaGreatDoorM1
import Derived.LoopN
import Derived.Laws.ResultCell
import Derived.Lib.ItoaMem
import Derived.Lib.Join
import Derived.Shelf.Strings.Builder1
import Derived.Shelf.Strings.Builder2
import Derived.Shelf.Strings.OnBuilder
import Derived.Shelf.Strconv.Itoa0
import Derived.Shelf.Strconv.Itoa1
import Derived.Shelf.LaysM
import Derived.Shelf.Strconv.Itoa2
import Derived.Shelf.Strconv.Itoa3
import Derived.Shelf.Strconv.Itoa4
import Derived.Test.YtdangmomddpegaaGreatDoorProg
import Derived.Test.YtdangmomddpegaaGreatDoorChecked
import Derived.KernelRfl
open Bool renaming and_eq_true→acW
open List renaming append_assoc→acL,eq_nil_of_length_eq_zero→acZ,flatten_cons→acI,length_append→acC,length_map→acE,map_append→acR,map_cons→acJ,mem_of_getElem?→acH
open Nat renaming blt_eq→ac2,eq_of_beq_eq_true→acG,le_refl→acU
open Option renaming map_eq_some_iff→acN
open Option.some renaming inj→ac1,injEq→acX
open UInt8 renaming ofNat→ac0
namespace Go.Sy
open Go Go.RowKit Go.Eng
noncomputable def EC (v:AV):Nat:=AV.casesOn v 0 (fun _ _=>0) (fun _=>0) (fun _=>0) (fun _ _=>0) (fun _ _ _ _=>0) (fun _=>0) 1 2 3 4 5 (fun _ _=>0) (fun _ _=>0) (fun _=>0) (fun _=>0) (fun _=>0) (fun _=>0) (fun _=>0)
noncomputable def eqC (c d:ACap):Bool:=ACap.casesOn c (fun n=>ACap.casesOn d (fun m=>Nat.beq n m) (fun _=>false)) (fun n=>ACap.casesOn d (fun _=>false) (fun m=>Nat.beq n m))
noncomputable def acz (s:SY) (v:AV):Bool:=oJ v fun s'=>au (s=s')
noncomputable def tf (u v:AV):Bool:=AV.casesOn u false (fun k a=>ks v fun k2 b=>Bool.and (Nat.beq k k2) (uW a b)) (fun a=>PK v fun b=>Bool.rec (Bool.not b) b a) (fun l=>qn v fun m=>Ki l m) (fun i o=>qo v fun j p=>Bool.and (Nat.beq i j) (Nat.beq o p))
 (fun i o n c=>xw v false fun j p m d=>Bool.and (Nat.beq i j) (Bool.and (Nat.beq o p) (Bool.and (Nat.beq n m) (eqC c d)))) (fun i=>wA v false fun j=>Nat.beq i j) (Nat.beq (EC v) 1) (Nat.beq (EC v) 2) (Nat.beq (EC v) 3) (Nat.beq (EC v) 4) (Nat.beq (EC v) 5) (fun _ _=>false) (fun _ _=>false) (fun _=>false) (fun _=>false) (fun _=>false) (fun _=>false) (fun s=>acz s v)
noncomputable def WR (l m:List AV):Bool:=List.rec (motive:=fun _=>List AV→Bool) (fun m=>List.casesOn m true (fun _ _=>false)) (fun x _ ih m=>List.casesOn m false (fun y r=>Bool.and (tf x y) (ih r))) l m
noncomputable def WX (v:AV) (K:Nat→List AV→Bool):Bool:=AV.casesOn v false (fun _ _=>false) (fun _=>false) (fun _=>false) (fun _ _=>false) (fun _ _ _ _=>false) (fun _=>false) false false false false false (fun _ _=>false) (fun g c=>K g c) (fun _=>false) (fun _=>false) (fun _=>false) (fun _=>false) (fun _=>false)
theorem Wo {v:AV} {K:Nat→List AV→Bool} (h:WX v K=true):∃g c,v= .fn g c∧K g c=true:=by
 cases v<;>first|(cases h;done)|exact⟨_,_,rfl,h⟩
noncomputable def eqA (u v:AV):Bool:=AV.casesOn u false (fun _ _=>tf u v) (fun _=>tf u v) (fun _=>tf u v) (fun _ _=>tf u v) (fun _ _ _ _=>tf u v) (fun _=>tf u v) (tf u v) (tf u v) (tf u v) (tf u v) (tf u v) (fun _ _=>false) (fun f c=>WX v fun g d=>Bool.and (Nat.beq f g) (WR c d)) (fun _=>false) (fun l=>asAgg v fun m=>WR l m) (fun _=>false) (fun _=>false) (fun _=>tf u v)
theorem abC {c d:ACap} (h:eqC c d=true):c=d:=by
 cases c<;>cases d<;>first|(cases h;done)|(have:=acG h;subst this;rfl)
theorem aas {v:AV} {n:Nat} (h:Nat.beq (EC v) n=true):EC v=n:=acG h
theorem TU {u v:AV} (h:tf u v=true):u=v:=by
 cases u<;>first|(cases h;done)|skip
 case int k a=>
  obtain⟨k2,b,rfl,h1⟩:=jW h
  obtain⟨h2,h3⟩:=vb h1
  rw[uV,decide_eq_true_eq]at h3
  rw[acG h2,h3]
 case bool a=>
  obtain⟨b,rfl,h1⟩:=HA h
  cases a<;>cases b<;>first|rfl|cases h1
 case str l=>
  obtain⟨m,rfl,h1⟩:=jH h
  rw[yf,decide_eq_true_eq]at h1
  rw[h1]
 case ptr i o=>
  obtain⟨j,p,rfl,h1⟩:=jI h
  obtain⟨h2,h3⟩:=vb h1
  rw[acG h2,acG h3]
 case sl i o n c=>
  rcases nz h with⟨_,h1⟩|⟨j,p,m,d,rfl,h1⟩
  ·cases h1
  ·obtain⟨h2,h3⟩:=vb h1
   obtain⟨h4,h5⟩:=vb h3
   obtain⟨h6,h7⟩:=vb h5
   rw[acG h2,acG h4,acG h6,abC h7]
 case map i=>
  rcases oK h with⟨_,h1⟩|⟨j,rfl,h1⟩
  ·cases h1
  ·rw[acG h1]
 case sy s=>
  obtain⟨s',rfl,h1⟩:=gN (K:=fun s'=>au (s=s')) h
  rw[prB_true.1 h1]
 all_goals
  have:=aas h
  cases v<;>first|rfl|cases this
theorem MS:∀{l m:List AV},WR l m=true→l=m
 |[],[],_=>rfl
 |[],_::_,h=>by cases h
 |_::_,[],h=>by cases h
 |x::l,y::m,h=>by
  obtain⟨h1,h2⟩:=vb (a:=tf x y) (b:=WR l m) h
  rw[TU h1,MS h2]
theorem abE {u v:AV} (h:eqA u v=true):u=v:=by
 cases u<;>first|(cases h;done)|exact TU (show tf _ v=true from h)|skip
 case agg l=>
  obtain⟨m,rfl,h1⟩:=fT h
  rw[MS h1]
 case fn f c=>
  obtain⟨g,d,rfl,h1⟩:=Wo h
  obtain⟨h2,h3⟩:=vb h1
  rw[acG h2,MS h3]
abbrev kX:=Nat→List AV→T→Nat→(AV→T→Nat→Bool)→Bool
inductive XSt
 |p (i:Nat) (d:Option Nat) (g:Option (Nat×Bool)) (x:XO)|r (i:Nat) (d:Option Nat) (g:Option (Nat×Bool)) (x:XO)|e (i:Nat) (d:Option Nat) (g:Option (Nat×Bool)) (x:XO)
 |c (i:Nat) (d:Option Nat) (g:Option (Nat×Bool)) (f:Nat) (xs:List XP)|a (i d:Nat) (g:Option (Nat×Bool)) (x:XO)|k (i:Nat) (d:Option Nat) (g:Option (Nat×Bool)) (t f:Nat) (xs:List XP)
noncomputable def jz (d:Option Nat) (v:AV) (S:SL) (K:SL→Bool):Bool:=Option.casesOn d (K S) fun d=>K (.cons d v S)
theorem ls (d:Option Nat) (v:AV) (S:SL) (K:SL→Bool):jz d v S K=K (aaH d v S):=by cases d<;>rfl
noncomputable def Id (t:Nat) (S:SL) (K:Bool→SL→Bool):Bool:=AV.casesOn (cu t S) false (fun _ _=>false) (fun b=>K b S) (fun _=>false) (fun _ _=>false) (fun _ _ _ _=>false) (fun _=>false) false false false false false (fun _ _=>false) (fun _ _=>false) (fun _=>false) (fun _=>false) (fun _=>false) (fun _=>false)
 fun s=>SY.casesOn s (fun _ _=>false) (fun p=>bn (au p) (K true (.cons t (.bool true) S)) (K false (.cons t (.bool false) S))) (fun _=>false) (fun _ _ _ _ _=>false) (fun _ _ _=>false) (fun _ _=>false) (fun _ _ _ _=>false) (fun _ _ _ _=>false) (fun _ _ _=>false) (fun _=>false)
noncomputable def gd (w b:Bool):Bool:=Bool.rec (Bool.not w) w b
noncomputable def Tp (v:AV):Bool:=AV.casesOn v false (fun _ _=>false) (fun _=>false) (fun _=>false) (fun _ _=>false) (fun _ _ _ _=>false) (fun _=>false) false false false false false (fun _ _=>false) (fun _ _=>false) (fun _=>false) (fun _=>false) (fun l=>List.casesOn l true fun _ _=>false) (fun _=>false) (fun _=>false)
theorem To {v:AV} (h:Tp v=true):v= .tup []:=by
 cases v<;>first|(cases h;done)|skip
 case tup l=>cases l<;>first|rfl|(cases h)
theorem mA (E:Env) (ρ:Ren):den E ρ (.tup [])=some undef:=by simp[den,aR,undef]
noncomputable def uQ (g:Option (Nat×Bool)) (S:SL) (Kn Ky:SL→Bool):Bool:=Option.casesOn g (Ky S) fun p=>bn (Tp (cu p.1 S)) (Kn S) (Id p.1 S fun b S=>bn (gd p.2 b) (Ky S) (Kn S))
noncomputable def VE (f:Nat) (v:AV):Bool:=AV.casesOn v false (fun _ _=>false) (fun _=>false) (fun _=>false) (fun _ _=>false) (fun _ _ _ _=>false) (fun _=>false) false false false false false (fun _ _=>false) (fun g c=>List.casesOn c (Nat.beq g f) (fun _ _=>false)) (fun _=>false) (fun _=>false) (fun _=>false) (fun _=>false) (fun _=>false)
theorem Yq {f:Nat} {v:AV} (h:VE f v=true):v= .fn f []:=by
 cases v<;>first|(cases h;done)|skip
 case fn g c=>
  cases c with
  |nil=>rw[acG (show Nat.beq g f=true from h)]
  |cons _ _=>cases h
noncomputable def Ww (cf:kX) (st:XSt) (S:SL) (M:T) (nx:Nat) (K:SL→T→Nat→Bool):Bool:=XSt.casesOn st
 (fun _ d g x=>uQ g S (fun S=>jz d (.tup []) S fun S=>K S M nx) fun S=>WA x S fun v=>jz d v S fun S=>K S M nx)
 (fun _ d g x=>uQ g S (fun S=>jz d (.tup []) S fun S=>K S M nx) fun S=>Pa x S M fun v=>jz d v S fun S=>K S M nx)
 (fun _ d g x=>uQ g S (fun S=>jz d (.tup []) S fun S=>K S M nx) fun S=>WB x S M nx fun v M nx=>jz d v S fun S=>K S M nx)
 (fun _ d g f xs=>uQ g S (fun S=>jz d (.tup []) S fun S=>K S M nx) fun S=>Hg S xs fun vs=>cf f vs M nx fun v M nx=>jz d v S fun S=>K S M nx)
 (fun _ d g x=>uQ g S (fun S=>ac (Tp (cu d S)) (K S M nx)) fun S=>Pa x S M fun v=>ac (eqA v (cu d S)) (K S M nx))
 (fun _ d g t f xs=>uQ g S (fun S=>jz d (.tup []) S fun S=>K S M nx) fun S=>ac (VE f (cu t S)) (Hg S xs fun vs=>cf f vs M nx fun v M nx=>jz d v S fun S=>K S M nx))
noncomputable def lL (cf:kX) (sts:List XSt):SL→T→Nat→(SL→T→Nat→Bool)→Bool:=List.rec (fun S M nx K=>K S M nx) (fun st _ ih S M nx K=>Ww cf st S M nx fun S M nx=>ih S M nx K) sts
def zW:XSt→Nat×Kd
 |.p i ..=>(i,.P)|.r i ..=>(i,.R)|.e i ..=>(i,.E)|.c i ..=>(i,.E)|.a i ..=>(i,.A)|.k i ..=>(i,.E)
def IO (ops:Array Oper) (N:Nat) (g:Option (Nat×Bool)) (o:Oper):Bool:=match g,o.guard with
 |none,none=>true
 |some (t,b),some (k,c)=>decide (b=c)&&decide ((ops[k]?).bind (·.dst)=some t)&&Nat.blt t N
 |_,_=>false
def IP (N:Nat) (d:Option Nat) (o:Oper):Bool:=decide (o.dst=d)&&(match d with|some t=>Nat.blt t N|none=>true)
def LW (P:Program) (f:Nat) (xs:List XP):Op→Bool
 |.call {callee:=.value (.func f'),args:=args,argTypes:=_}=>Nat.beq f' f&&rI xs args.toList&&decide (sr P f=some (false,false))
 |_=>false
def Iz (P:Program) (t f:Nat) (xs:List XP):Op→Bool
 |.call {callee:=.value (.tmp t'),args:=args,argTypes:=_}=>Nat.beq t' t&&rI xs args.toList&&decide (sr P f=some (false,false))
 |_=>false
theorem QP {P:Program} {t f:Nat} {xs:List XP} {op:Op} (h:Iz P t f xs op=true):∃args ta,op= .call {callee:=.value (.tmp t),args:=args,argTypes:=ta}∧rI xs args.toList=true∧sr P f=some (false,false):=by
 unfold Iz at h
 split at h
 ·rename_i f' args ta
  simp only[acW,decide_eq_true_eq]at h
  obtain⟨⟨h1,h2⟩,h3⟩:=h
  have h1:=acG h1
  subst h1
  exact⟨args,ta,rfl,h2,h3⟩
 ·cases h
theorem Tq {P:Program} {f:Nat} {xs:List XP} {op:Op} (h:LW P f xs op=true):∃args ta,op= .call {callee:=.value (.func f),args:=args,argTypes:=ta}∧rI xs args.toList=true∧sr P f=some (false,false):=by
 unfold LW at h
 split at h
 ·rename_i f' args ta
  simp only[acW,decide_eq_true_eq]at h
  obtain⟨⟨h1,h2⟩,h3⟩:=h
  have h1:=acG h1
  subst h1
  exact⟨args,ta,rfl,h2,h3⟩
 ·cases h
def tH (P:Program) (ops:Array Oper) (N:Nat):XSt→Bool
 |.p i d g x|.r i d g x|.e i d g x=>match ops[i]? with|some o=>IP N d o&&IO ops N g o&&Cg P x o.op|none=>false
 |.c i d g f xs=>match ops[i]? with
  |some o=>IP N d o&&IO ops N g o&&LW P f xs o.op
  |none=>false
 |.a i d g x=>match ops[i]? with|some o=>IP N (some d) o&&IO ops N g o&&Cg P x o.op|none=>false
 |.k i d g t f xs=>match ops[i]? with
  |some o=>IP N d o&&IO ops N g o&&Iz P t f xs o.op
  |none=>false
section
variable {P:Program} {E:Env} {ρ:Ren} {G:GS} {F:List aH} {M:T} {nx:Nat} {w:World} {N:Nat} {S:SL} {a:Act} {ops:Array Oper} {o:Oper}
theorem OR (s:SR E ρ N S a) {t:Nat} {K:Bool→SL→Bool} (h:Id t S K=true):∃b S',a.tmps.getD t undef= .bool b∧SR E ρ N S' a∧K b S'=true:=by
 have put:∀b,a.tmps.getD t undef= .bool b→SR E ρ N (.cons t (.bool b) S) a:=fun b hb=>⟨s.size,s.defs,fun u=>by
  by_cases q:t=u
  ·subst q
   rw[jp]
   exact .inr ⟨.bool b,rfl,hb⟩
  ·rw[nq _ _ q]
   exact s.at_ u⟩
 unfold Id at h
 rcases e:cu t S with _|⟨k,z⟩|⟨b⟩|⟨l⟩|⟨i,o⟩|⟨i,o,n,c⟩|⟨i⟩|_|_|_|_|_|⟨tt,v⟩|⟨f,c⟩|⟨i⟩|⟨l⟩|⟨l⟩|⟨i⟩|⟨sy⟩<;>rw[e]at h<;>first|(cases h;done)|skip
 ·rcases s.at_ t with q|⟨x,h1,h2⟩
  ·rw[e]at q;cases q
  ·rw[e]at h1
   cases h1
   exact⟨b,S,h2,s,h⟩
 ·cases sy<;>first|(cases h;done)|skip
  rename_i p
  rcases s.at_ t with q|⟨x,h1,h2⟩
  ·rw[e]at q;cases q
  ·rw[e]at h1
   cases h1
   rcases bh h with⟨q,g⟩|⟨q,g⟩
   ·rw[q]at h2
    exact⟨true,_,h2,put true h2,g⟩
   ·rw[q]at h2
    exact⟨false,_,h2,put false h2,g⟩
theorem qW (s:SR E ρ N S a) {g:Option (Nat×Bool)} {Kn Ky:SL→Bool} (hc:IO ops N g o=true) (h:uQ g S Kn Ky=true):
  ∃S',SR E ρ N S' a∧((Region.wanted o (yielded ops a.tmps)=true∧Ky S'=true)∨(Region.wanted o (yielded ops a.tmps)=false∧Kn S'=true)):=by
 unfold IO at hc
 split at hc
 ·rename_i h1
  exact⟨S,s,.inl ⟨by simp[Region.wanted,h1],h⟩⟩
 ·rename_i t b k c h1
  simp only[acW,decide_eq_true_eq,ac2]at hc
  obtain⟨⟨rfl,h2⟩,h3⟩:=hc
  have h:bn (Tp (cu t S)) (Kn S) (Id t S fun b' S=>bn (gd b b') (Ky S) (Kn S))=true:=h
  rcases bh h with⟨hu,h⟩|⟨_,h⟩
  ·have hu:=To hu
   have hlt:t<a.tmps.size:=by rw[s.size];exact h3
   rcases s.at_ t with q|⟨x,q1,q2⟩
   ·rw[hu]at q;cases q
   ·rw[hu,mA]at q1
    cases q1
    have e:a.tmps[t]?=some undef:=by
     rw[Array.getElem?_eq_getElem hlt]
     simp only[Array.getD,hlt,dif_pos,Array.getInternal_eq_getElem]at q2
     rw[q2]
    have hy:yielded ops a.tmps k=none:=by simp[yielded,h2,e,undef]
    have hw:Region.wanted o (yielded ops a.tmps)=false:=by simp[Region.wanted,h1,hy]
    refine⟨S,s,?_⟩
    rw[hw]
    exact .inr ⟨rfl,h⟩
  obtain⟨v,S',h7,s',h5⟩:=OR (t:=t) (K:=fun b' S=>bn (gd b b') (Ky S) (Kn S)) s h
  have hlt:t<a.tmps.size:=by rw[s.size];exact h3
  have e:a.tmps[t]?=some (.bool v):=by
   rw[Array.getElem?_eq_getElem hlt]
   simp only[Array.getD,hlt,dif_pos,Array.getInternal_eq_getElem]at h7
   rw[h7]
  have hy:yielded ops a.tmps k=some v:=by simp[yielded,h2,e]
  have hw:Region.wanted o (yielded ops a.tmps)=(v==b):=by simp[Region.wanted,h1,hy]
  have hvb:(v==b)=gd b v:=by cases v<;>cases b<;>rfl
  refine⟨S',s',?_⟩
  rw[hw,hvb]
  rcases bh h5 with⟨q,g⟩|⟨q,g⟩
  ·exact .inl ⟨q,g⟩
  ·exact .inr ⟨q,g⟩
 ·cases hc
theorem RQ {i:Nat} {z:Value} (hi:ops[i]?=some o) (hw:Region.wanted o (yielded ops a.tmps)=true) (hr:(execOp a.eval o).run P w= .ok (.value z) w):RV P ops i z a w:=by
 unfold RV op1 wpOp
 simp only[hi,hw,if_true]
 exact .inl (de hr ⟨by rw[cK hi],rfl⟩)
theorem RP {i:Nat} (hi:ops[i]?=some o) (hw:Region.wanted o (yielded ops a.tmps)=false):RV P ops i undef a w:=by
 unfold RV op1 wpOp
 simp only[hi,hw]
 constructor
 ·rw[cK hi]
 ·trivial
theorem Lz {i:Nat} {K:Act→World→Prop} (hi:ops[i]?=some o) (hw:Region.wanted o (yielded ops a.tmps)=false) (k:K (a.put o.dst undef) w):op1 P ops i K a w:=by
 unfold op1 wpOp
 simp only[hi,hw]
 exact k
theorem Il {i:Nat} {K:Act→World→Prop} (hi:ops[i]?=some o) (hw:Region.wanted o (yielded ops a.tmps)=true) (k:o.wp P a w K Q0):op1 P ops i K a w:=by
 unfold op1 wpOp
 simp only[hi,hw,if_true]
 exact .inl k
theorem tR {d:Option Nat} (h:IP N d o=true):o.dst=d∧∀t,d=some t→t<N:=by
 unfold IP at h
 simp only[acW,decide_eq_true_eq]at h
 refine⟨h.1,fun t ht=> ?_⟩
 subst ht
 simpa[ac2] using h.2
theorem Wb {dst:Option Tmp} {ty:TypeId} {pos:String} {af:Array Edge} {g:Option (Nat×Bool)} {f:Nat} {args:Array Operand} {ta:Array TypeId} (hf:sr P f=some (false,false)):
  (execOp a.eval ⟨dst,.call {callee:=.value (.func f),args:=args,argTypes:=ta},ty,pos,af,g⟩).run P w= .ok (.enter f (args.toList.map a.eval).toArray) w:=by
 simp[execOp,resolve,Act.eval,Deferred.ofValue,invoke]
 rw[ua hf]
 congr 2
 apply Array.ext'
 simp
theorem TX {dst:Option Tmp} {ty:TypeId} {pos:String} {af:Array Edge} {g:Option (Nat×Bool)} {t f:Nat} {args:Array Operand} {ta:Array TypeId} (hf:sr P f=some (false,false)) (hv:a.tmps.getD t undef= .func (.func f) #[] #[]):
  (execOp a.eval ⟨dst,.call {callee:=.value (.tmp t),args:=args,argTypes:=ta},ty,pos,af,g⟩).run P w= .ok (.enter f (args.toList.map a.eval).toArray) w:=by
 have hv2:a.eval (.tmp t)= .func (.func f) #[] #[]:=hv
 simp only[execOp,resolve,hv2]
 simp[Deferred.ofValue,invoke]
 rw[ua hf]
 congr 2
 apply Array.ext'
 simp
structure Ext (E:Env) (ρ:Ren) (E':Env) (ρ':Ren):Prop where
 env:Ey ρ E E'
 le:ρ.Le ρ'
 one:fM E'
theorem Ext.of (hE:fM E) {ρ ρ':Ren} (h:ρ.Le ρ'):Ext E ρ E ρ':=⟨⟨fun _ _ _=>rfl,MLe.refl _⟩,h,hE⟩
theorem Ext.trans {E1 E2 E3:Env} {r1 r2 r3:Ren} (h:Ext E1 r1 E2 r2) (k:Ext E2 r2 E3 r3):Ext E1 r1 E3 r3:=
 ⟨⟨fun i e hi=>(k.env.at_ i e (h.le i e hi)).trans (h.env.at_ i e hi),MLe.trans h.env.mem k.env.mem⟩,h.le.trans k.le,k.one⟩
theorem Ext.den {E':Env} {ρ':Ren} (x:Ext E ρ E' ρ') {v:AV} {z:Value} (h:den E ρ v=some z):den E' ρ' v=some z:=iL x.le v z (ph x.env v z h)
theorem SR.ext {E':Env} {ρ':Ren} (s:SR E ρ N S a) (x:Ext E ρ E' ρ'):SR E' ρ' N S a:=⟨s.size,s.defs,fun t=>(s.at_ t).imp id fun⟨y,h1,h2⟩=>⟨y,x.den h1,h2⟩⟩
def mL (P:Program) (cf:kX):Prop:=∀(f:Nat) (vs:List AV) (M:T) (nx:Nat) (K:AV→T→Nat→Bool) (E:Env) (ρ:Ren) (G:GS) (F:List aH) (w:World) (xs:List Value) (R:Ending→World→Prop),fM E→
 Sim E ρ G F M nx w→aR E ρ vs=some xs→cf f vs M nx K=true→(∀v M' nx' E' ρ' w' z,K v M' nx'=true→Ext E ρ E' ρ'→Sim E' ρ' G F M' nx' w'→den E' ρ' v=some z→R (.returned z) w')→Calls P f xs.toArray w R
theorem Ic {cf:kX} (hcf:mL P cf) {Q:Act→World→Prop}:∀{sts:List XSt} {S:SL} {M:T} {nx:Nat} {E:Env} {ρ:Ren} {a:Act} {w:World} {K:SL→T→Nat→Bool},fM E→(∀st∈sts,tH P ops N st=true)→SR E ρ N S a→Sim E ρ G F M nx w→lL cf sts S M nx K=true→
  (∀S' M' nx' E' ρ' a' w',K S' M' nx'=true→Ext E ρ E' ρ'→SR E' ρ' N S' a'→Sim E' ρ' G F M' nx' w'→Q a' w')→qy P ops Q (sts.map zW) a w
 |[],S,M,nx,E,ρ,a,w,K,hE,_,s,h,hk,hq=>hq _ _ _ _ _ _ _ hk (Ext.of hE (Ren.Le.refl _)) s h
 |st::sts,S,M,nx,E,ρ,a,w,K,hE,hc,s,h,hk,hq=>by
  have hst:=hc st (by simp)
  have hk':Ww cf st S M nx (fun S M nx=>lL cf sts S M nx K)=true:=hk
  have nextE:∀{S' M' nx' E' ρ' a' w'},lL cf sts S' M' nx' K=true→Ext E ρ E' ρ'→SR E' ρ' N S' a'→Sim E' ρ' G F M' nx' w'→qy P ops Q (sts.map zW) a' w':=fun r hl s' h'=>
   Ic hcf hl.one (fun st hst=>hc st (by simp[hst])) s' h' r fun S' M' nx' E2 ρ' a' w' k1 k2=>hq S' M' nx' E2 ρ' a' w' k1 (hl.trans k2)
  have next:∀{S' M' nx' ρ' a' w'},lL cf sts S' M' nx' K=true→ρ.Le ρ'→SR E ρ' N S' a'→Sim E ρ' G F M' nx' w'→qy P ops Q (sts.map zW) a' w':=fun r hl s' h'=>nextE r (Ext.of hE hl) s' h'
  cases st with
  |p i d g x=>
   simp only[tH]at hst
   split at hst
   case h_2=>cases hst
   rename_i o hi
   simp only[acW]at hst
   obtain⟨⟨c1,c2⟩,c3⟩:=hst
   obtain⟨d1,d2⟩:=tR c1
   obtain⟨S,s,hgd⟩:=qW (Kn:=fun S=>jz d (.tup []) S fun S=>lL cf sts S M nx K) (Ky:=fun S=>WA x S fun v=>jz d v S fun S=>lL cf sts S M nx K) s c2 hk'
   rcases hgd with⟨q1,q2⟩|⟨q1,q2⟩
   ·obtain⟨v,z,g1,g2,g3⟩:=aaN hE s c3 q2
    rw[ls]at g2
    refine⟨z,fun w'=>RQ hi q1 (g3 w'),?_⟩
    rw[cK hi,d1]
    exact next g2 (Ren.Le.refl _) (s.put d2 (.inr g1)) h
   ·rw[ls]at q2
    refine⟨undef,fun w'=>RP hi q1,?_⟩
    rw[cK hi,d1]
    exact next q2 (Ren.Le.refl _) (s.put d2 (.inr (mA _ _))) h
  |r i d g x=>
   simp only[tH]at hst
   split at hst
   case h_2=>cases hst
   rename_i o hi
   simp only[acW]at hst
   obtain⟨⟨c1,c2⟩,c3⟩:=hst
   obtain⟨d1,d2⟩:=tR c1
   obtain⟨S,s,hgd⟩:=qW (Kn:=fun S=>jz d (.tup []) S fun S=>lL cf sts S M nx K) (Ky:=fun S=>Pa x S M fun v=>jz d v S fun S=>lL cf sts S M nx K) s c2 hk'
   rcases hgd with⟨q1,q2⟩|⟨q1,q2⟩
   ·obtain⟨v,z,g1,g2,g3⟩:=SN h s c3 q2
    rw[ls]at g2
    refine⟨z,RQ hi q1 g3,?_⟩
    rw[cK hi,d1]
    exact next g2 (Ren.Le.refl _) (s.put d2 (.inr g1)) h
   ·rw[ls]at q2
    refine⟨undef,RP hi q1,?_⟩
    rw[cK hi,d1]
    exact next q2 (Ren.Le.refl _) (s.put d2 (.inr (mA _ _))) h
  |e i d g x=>
   simp only[tH]at hst
   split at hst
   case h_2=>cases hst
   rename_i o hi
   simp only[acW]at hst
   obtain⟨⟨c1,c2⟩,c3⟩:=hst
   obtain⟨d1,d2⟩:=tR c1
   obtain⟨S,s,hgd⟩:=qW (Kn:=fun S=>jz d (.tup []) S fun S=>lL cf sts S M nx K) (Ky:=fun S=>WB x S M nx fun v M nx=>jz d v S fun S=>lL cf sts S M nx K) s c2 hk'
   rcases hgd with⟨q1,q2⟩|⟨q1,q2⟩
   ·obtain⟨v,M',nx',ρ',w',g1,g2,g3,g4⟩:=aaO hE h s c3 q2
    rw[ls]at g3
    refine Il hi q1 ?_
    rcases g4 with⟨z,g5,g6⟩|⟨g5,g6⟩
    ·refine de g6 ?_
     rw[d1]
     exact next g3 g1 ((s.mono g1).put d2 (.inr g5)) g2
    ·refine SP g6 ?_
     rw[d1]
     exact next g3 g1 ((s.mono g1).put d2 (.inl g5)) g2
   ·rw[ls]at q2
    refine Lz hi q1 ?_
    rw[d1]
    exact next q2 (Ren.Le.refl _) (s.put d2 (.inr (mA _ _))) h
  |k i d g t f xs=>
   simp only[tH]at hst
   split at hst
   case h_2=>cases hst
   rename_i o hi
   simp only[acW]at hst
   obtain⟨⟨c1,c2⟩,c3⟩:=hst
   obtain⟨d1,d2⟩:=tR c1
   obtain⟨dst,op,ty,pos,af,gg⟩:=o
   obtain⟨args,ta,hop,c5,c6⟩:=QP c3
   dsimp only at hop
   subst hop
   obtain⟨S,s,hgd⟩:=qW (Kn:=fun S=>jz d (.tup []) S fun S=>lL cf sts S M nx K) (Ky:=fun S=>ac (VE f (cu t S)) (Hg S xs fun vs=>cf f vs M nx fun v M nx=>jz d v S fun S=>lL cf sts S M nx K)) s c2 hk'
   rcases hgd with⟨q1,q2⟩|⟨q1,q2⟩
   ·obtain⟨hu,q2⟩:=aw q2
    have hu:=Yq hu
    have hv:a.tmps.getD t undef= .func (.func f) #[] #[]:=by
     rcases s.at_ t with q|⟨x,y1,y2⟩
     ·rw[hu]at q;cases q
     ·rw[hu]at y1
      simp only[den,aR,acX]at y1
      rw[y2,←y1]
    obtain⟨vs,g1,g2,g3⟩:=ye s c5 q2
    refine Il hi q1 (Iq (TX c6 hv) ?_)
    refine hcf _ vs M nx _ E ρ G F w _ _ hE h g1 g2 fun v M' nx' E' ρ' w' z k1 k2 k3 k4=>⟨z,rfl,?_⟩
    rw[ls]at k1
    simp only at d1
    rw[d1]
    exact nextE k1 k2 ((s.ext k2).put d2 (.inr k4)) k3
   ·rw[ls]at q2
    refine Lz hi q1 ?_
    simp only at d1
    rw[d1]
    exact next q2 (Ren.Le.refl _) (s.put d2 (.inr (mA _ _))) h
  |c i d g f xs=>
   simp only[tH]at hst
   split at hst
   case h_2=>cases hst
   rename_i o hi
   simp only[acW]at hst
   obtain⟨⟨c1,c2⟩,c3⟩:=hst
   obtain⟨d1,d2⟩:=tR c1
   obtain⟨dst,op,ty,pos,af,gg⟩:=o
   obtain⟨args,ta,hop,c5,c6⟩:=Tq c3
   dsimp only at hop
   subst hop
   obtain⟨S,s,hgd⟩:=qW (Kn:=fun S=>jz d (.tup []) S fun S=>lL cf sts S M nx K) (Ky:=fun S=>Hg S xs fun vs=>cf f vs M nx fun v M nx=>jz d v S fun S=>lL cf sts S M nx K) s c2 hk'
   rcases hgd with⟨q1,q2⟩|⟨q1,q2⟩
   ·obtain⟨vs,g1,g2,g3⟩:=ye s c5 q2
    refine Il hi q1 (Iq (Wb c6) ?_)
    refine hcf _ vs M nx _ E ρ G F w _ _ hE h g1 g2 fun v M' nx' E' ρ' w' z k1 k2 k3 k4=>⟨z,rfl,?_⟩
    rw[ls]at k1
    simp only at d1
    rw[d1]
    exact nextE k1 k2 ((s.ext k2).put d2 (.inr k4)) k3
   ·rw[ls]at q2
    refine Lz hi q1 ?_
    simp only at d1
    rw[d1]
    exact next q2 (Ren.Le.refl _) (s.put d2 (.inr (mA _ _))) h
  |a i d g x=>
   simp only[tH]at hst
   split at hst
   case h_2=>cases hst
   rename_i o hi
   simp only[acW]at hst
   obtain⟨⟨c1,c2⟩,c3⟩:=hst
   obtain⟨d1,d2⟩:=tR c1
   obtain⟨S,s,hgd⟩:=qW (Kn:=fun S=>ac (Tp (cu d S)) (lL cf sts S M nx K)) (Ky:=fun S=>Pa x S M fun v=>ac (eqA v (cu d S)) (lL cf sts S M nx K)) s c2 hk'
   rcases hgd with⟨q1,q2⟩|⟨q1,q2⟩
   ·obtain⟨v,z,g1,g2,g3⟩:=SN h s c3 q2
    obtain⟨g4,g5⟩:=aw g2
    have g4:=abE g4
    refine⟨⟨z,RQ hi q1 g3,?_⟩,next g5 (Ren.Le.refl _) s h⟩
    rw[cK hi,d1]
    have hz:a.tmps.getD d undef=z:=by
     rcases s.at_ d with e|⟨x',e1,e2⟩
     ·rw[g4,e]at g1;cases g1
     ·rw[←g4,g1]at e1
      cases e1
      exact e2
    exact put_self hz
   ·obtain⟨g4,g5⟩:=aw q2
    have g4:=To g4
    refine⟨⟨undef,RP hi q1,?_⟩,next g5 (Ren.Le.refl _) s h⟩
    rw[cK hi,d1]
    have hz:a.tmps.getD d undef=undef:=by
     rcases s.at_ d with e|⟨x',e1,e2⟩
     ·rw[g4]at e;cases e
     ·rw[g4,mA]at e1
      cases e1
      exact e2
    exact put_self hz
where
 put_self {a:Act} {d:Nat} {z:Value} (h:a.tmps.getD d undef=z):a.put (some d) z=a:=by
  simp only[Act.put]
  have:a.tmps.setIfInBounds d z=a.tmps:=by
   apply Array.ext_getElem?
   intro j
   by_cases q:d=j
   ·subst q
    rcases Nat.lt_or_ge d a.tmps.size with hl|hl
    ·rw[Array.getElem?_setIfInBounds_self_of_lt hl,Array.getElem?_eq_getElem hl]
     simp only[Array.getD,hl,dif_pos,Array.getInternal_eq_getElem]at h
     rw[h]
    ·rw[Array.getElem?_eq_none (by simpa using hl),Array.getElem?_eq_none hl]
   ·rw[Array.getElem?_setIfInBounds_ne q]
  rw[this]
inductive XTr|leaf (sts:List XSt)|split (x y:Nat) (s t:XTr)
def Qd:XTr→Tr
 |.leaf sts=>.leaf (sts.map zW)
 |.split x y s t=>.split x y (Qd s) (Qd t)
def Hq (P:Program) (ops:Array Oper) (N:Nat):XTr→Bool
 |.leaf sts=>sts.all (tH P ops N)
 |.split _ _ s t=>Hq P ops N s&&Hq P ops N t
noncomputable def KJ (cf:kX) (tr:XTr) (S:SL) (M:T) (nx:Nat) (K:SL→T→Nat→Bool):Bool:=XTr.rec (fun sts=>lL cf sts S M nx K) (fun _ _ _ _ p q=>ac p q) tr
theorem EA (hE:fM E) {cf:kX} (hcf:mL P cf) {Q:Act→World→Prop} {K:SL→T→Nat→Bool} (s:SR E ρ N S a) (h:Sim E ρ G F M nx w)
  (hq:∀S' M' nx' E' ρ' a' w',K S' M' nx'=true→Ext E ρ E' ρ'→SR E' ρ' N S' a'→Sim E' ρ' G F M' nx' w'→Q a' w'):∀{tr:XTr},Hq P ops N tr=true→KJ cf tr S M nx K=true→Lg P ops Q a w (Qd tr)
 |.leaf sts,hc,hk=>Ic hcf hE (fun st hst=>List.all_eq_true.1 hc st hst) s h hk hq
 |.split x y t u,hc,hk=>by
  simp only[Hq,acW]at hc
  obtain⟨k1,k2⟩:=aw (b:=KJ cf t S M nx K) (x:=KJ cf u S M nx K) hk
  exact⟨EA hE hcf s h hq hc.1 k1,EA hE hcf s h hq hc.2 k2⟩
end
noncomputable def BO (ps:List (Nat×Nat)) (i:Nat):Option Nat:=List.rec none (fun p _ ih=>Bool.rec ih (some p.2) (Nat.beq p.1 i)) ps
theorem lv:∀{ps:List (Nat×Nat)} {i j:Nat},BO ps i=some j→(i,j)∈ps
 |[],i,j,h=>by cases h
 |p::ps,i,j,h=>by
  have h':(Bool.rec (BO ps i) (some p.2) (Nat.beq p.1 i):Option Nat)=some j:=h
  cases hb:Nat.beq p.1 i with
  |true=>
   rw[hb]at h'
   cases h'
   have:=acG hb
   subst this
   simp
  |false=>rw[hb]at h';exact List.mem_cons_of_mem _ (lv h')
def lD (ps:List (Nat×Nat)) (ρ:Ren):Ren:=fun j=>match ps.find? (fun p=>Nat.beq p.2 j) with|some p=>ρ p.1|none=>none
def iK:List (Nat×Nat)→Bool
 |[]=>true
 |p::ps=>(ps.all fun q=> !Nat.beq q.2 p.2)&&(ps.all fun q=> !Nat.beq q.1 p.1)&&iK ps
theorem ep:∀{ps:List (Nat×Nat)} {ρ:Ren} {i j:Nat},iK ps=true→(i,j)∈ps→lD ps ρ j=ρ i
 |[],ρ,i,j,_,h=>by cases h
 |p::ps,ρ,i,j,ho,h=>by
  simp only[iK,acW]at ho
  rcases List.mem_cons.1 h with rfl|h
  ·simp[lD]
  ·have hne:Nat.beq p.2 j=false:=by
    have:=List.all_eq_true.1 ho.1.1 _ h
    simp only[Bool.not_eq_true']at this
    cases hb:Nat.beq p.2 j with
    |false=>rfl
    |true=>
     have:=acG hb
     subst this
     simp at this
   have:=ep (ρ:=ρ) ho.2 h
   simp only[lD,List.find?_cons,hne]at this ⊢
   exact this
theorem zw:∀{ps:List (Nat×Nat)} {i j k:Nat},iK ps=true→(i,j)∈ps→(i,k)∈ps→j=k
 |[],i,j,k,_,h,_=>by cases h
 |p::ps,i,j,k,ho,h,h2=>by
  simp only[iK,acW]at ho
  have hno:∀q∈ps,q.1≠p.1:=fun q hq e=>by
   have:=List.all_eq_true.1 ho.1.2 q hq
   rw[e]at this
   simp at this
  rcases List.mem_cons.1 h with e1|h1
  ·rcases List.mem_cons.1 h2 with e2|h3
   ·rw[←e1]at e2;injection e2 with _ e;exact e.symm
   ·exact absurd (by rw[←e1]) (hno _ h3)
  ·rcases List.mem_cons.1 h2 with e2|h3
   ·exact absurd (by rw[←e2]) (hno _ h1)
   ·exact zw ho.2 h1 h3
noncomputable def EM (ps:List (Nat×Nat)):SY→Option SY
 |.prow i n=>(BO ps i).map fun j=>.prow j n
 |.psub i sz a n=>(BO ps i).map fun j=>.psub j sz a n
 |.pfix i n c=>(BO ps i).map fun j=>.pfix j n c
 |.rptr i sz q o=>(BO ps i).map fun j=>.rptr j sz q o
 |.kmp i=>(BO ps i).map fun j=>.kmp j
 |s=>some s
mutual
noncomputable def gw (ps:List (Nat×Nat)):AV→Option AV
 |.bad=>none
 |.int k z=>some (.int k z)
 |.bool b=>some (.bool b)
 |.str l=>some (.str l)
 |.nilP=>some .nilP
 |.nilS=>some .nilS
 |.nilM=>some .nilM
 |.nilF=>some .nilF
 |.nilI=>some .nilI
 |.ptr i o=>(BO ps i).map fun j=>.ptr j o
 |.sl i o n c=>(BO ps i).map fun j=>.sl j o n c
 |.map i=>(BO ps i).map fun j=>.map j
 |.yl i=>(BO ps i).map fun j=>.yl j
 |.any _=>none
 |.sy s=>(EM ps s).map .sy
 |.iface t v=>(gw ps v).map fun u=>.iface t u
 |.fn f c=>(kw ps c).map fun u=>.fn f u
 |.agg l=>(kw ps l).map .agg
 |.tup l=>(kw ps l).map .tup
noncomputable def kw (ps:List (Nat×Nat)):List AV→Option (List AV)
 |[]=>some []
 |v::r=>(gw ps v).bind fun u=>(kw ps r).map fun l=>u::l
end
section
variable {P:Program} {E:Env} {ρ:Ren} {G:GS} {F:List aH} {M:T} {nx:Nat} {w:World} {ps:List (Nat×Nat)} {t2:Nat→Value}
theorem Va (ho:iK ps=true) {s u:SY} {x:Value} (h:EM ps s=some u) (hd:bz E ρ s=some x):bz ⟨t2,E.M⟩ (lD ps ρ) u=some x:=by
 cases s with
 |prow i n=>
  simp only[EM,acN]at h
  obtain⟨j,h1,rfl⟩:=h
  simp only[bz,ep ho (lv h1)]at hd ⊢
  exact hd
 |psub i sz a n=>
  simp only[EM,acN]at h
  obtain⟨j,h1,rfl⟩:=h
  simp only[bz,ep ho (lv h1)]at hd ⊢
  exact hd
 |pfix i n c=>
  simp only[EM,acN]at h
  obtain⟨j,h1,rfl⟩:=h
  simp only[bz,ep ho (lv h1)]at hd ⊢
  exact hd
 |rptr i sz q o=>
  simp only[EM,acN]at h
  obtain⟨j,h1,rfl⟩:=h
  simp only[bz,ep ho (lv h1)]at hd ⊢
  exact hd
 |kmp i=>
  simp only[EM,acN]at h
  obtain⟨j,h1,rfl⟩:=h
  simp only[bz,ep ho (lv h1)]at hd ⊢
  exact hd
 |int k z=>cases h;exact hd
 |bool p=>cases h;exact hd
 |str l=>cases h;exact hd
 |imm=>cases h;exact hd
 |pim=>cases h;exact hd
mutual
theorem ow (ho:iK ps=true):∀(v u:AV) (x:Value),gw ps v=some u→den E ρ v=some x→den ⟨t2,E.M⟩ (lD ps ρ) u=some x
 |.bad,u,x,h,_=>by simp[gw]at h
 |.any _,u,x,h,_=>by simp[gw]at h
 |.int _ _,u,x,h,hd|.bool _,u,x,h,hd|.str _,u,x,h,hd|.nilP,u,x,h,hd|.nilS,u,x,h,hd|.nilM,u,x,h,hd|.nilF,u,x,h,hd|.nilI,u,x,h,hd=>by
  simp only[gw,acX]at h
  subst h
  simpa[den] using hd
 |.ptr i o,u,x,h,hd=>by
  simp only[gw,acN]at h
  obtain⟨j,h1,rfl⟩:=h
  simp only[den,ep ho (lv h1)]at hd ⊢
  exact hd
 |.sl i o n c,u,x,h,hd=>by
  simp only[gw,acN]at h
  obtain⟨j,h1,rfl⟩:=h
  simp only[den,ep ho (lv h1)]at hd ⊢
  exact hd
 |.map i,u,x,h,hd=>by
  simp only[gw,acN]at h
  obtain⟨j,h1,rfl⟩:=h
  simp only[den,ep ho (lv h1)]at hd ⊢
  exact hd
 |.yl i,u,x,h,hd=>by
  simp only[gw,acN]at h
  obtain⟨j,h1,rfl⟩:=h
  simp only[den,ep ho (lv h1)]at hd ⊢
  exact hd
 |.sy s,u,x,h,hd=>by
  simp only[gw,acN]at h
  obtain⟨s',h1,rfl⟩:=h
  simp only[den]at hd ⊢
  exact Va ho h1 hd
 |.iface t v,u,x,h,hd=>by
  simp only[gw,acN]at h
  obtain⟨y,h1,rfl⟩:=h
  simp only[den]at hd ⊢
  rcases e:den E ρ v with _|z
  ·rw[e]at hd;cases hd
  ·rw[e]at hd;rw[ow ho v y z h1 e];exact hd
 |.fn f c,u,x,h,hd=>by
  simp only[gw,acN]at h
  obtain⟨y,h1,rfl⟩:=h
  simp only[den]at hd ⊢
  rcases e:aR E ρ c with _|z
  ·rw[e]at hd;cases hd
  ·rw[e]at hd;rw[qH ho c y z h1 e];exact hd
 |.agg c,u,x,h,hd=>by
  simp only[gw,acN]at h
  obtain⟨y,h1,rfl⟩:=h
  simp only[den]at hd ⊢
  rcases e:aR E ρ c with _|z
  ·rw[e]at hd;cases hd
  ·rw[e]at hd;rw[qH ho c y z h1 e];exact hd
 |.tup c,u,x,h,hd=>by
  simp only[gw,acN]at h
  obtain⟨y,h1,rfl⟩:=h
  simp only[den]at hd ⊢
  rcases e:aR E ρ c with _|z
  ·rw[e]at hd;cases hd
  ·rw[e]at hd;rw[qH ho c y z h1 e];exact hd
theorem qH (ho:iK ps=true):∀(l m:List AV) (xs:List Value),kw ps l=some m→aR E ρ l=some xs→aR ⟨t2,E.M⟩ (lD ps ρ) m=some xs
 |[],m,xs,h,hd=>by
  simp only[kw,acX]at h
  subst h
  simpa[aR] using hd
 |v::r,m,xs,h,hd=>by
  obtain⟨x,ys,h1,h2,rfl⟩:=bu hd
  simp only[kw,Option.bind_eq_some_iff,acN]at h
  obtain⟨u,g1,l,g2,rfl⟩:=h
  exact ly (ow ho v u x g1 h1) (qH ho r l ys g2 h2)
end
noncomputable def Gs (ps:List (Nat×Nat)):List (List AV)→Option (List (List AV))
 |[]=>some []
 |v::r=>(kw ps v).bind fun u=>(Gs ps r).map fun l=>u::l
theorem Lp:∀{l m:List AV},kw ps l=some m→m.length=l.length
 |[],m,h=>by simp only[kw,acX]at h;subst h;rfl
 |v::r,m,h=>by
  simp only[kw,Option.bind_eq_some_iff,acN]at h
  obtain⟨u,g1,l,g2,rfl⟩:=h
  simp[Lp g2]
theorem Lq:∀{l m a b:List AV},kw ps l=some a→kw ps m=some b→kw ps (l++m)=some (a++b)
 |[],m,a,b,h,h2=>by simp only[kw,acX]at h;subst h;simpa using h2
 |v::r,m,a,b,h,h2=>by
  simp only[kw,Option.bind_eq_some_iff,acN]at h
  obtain⟨u,g1,l,g2,rfl⟩:=h
  simp[kw,g1,Lq g2 h2]
theorem Gr:∀{l m:List (List AV)},Gs ps l=some m→kw ps l.flatten=some m.flatten∧m.length=l.length∧∀n,(∀x∈l,x.length=n)→∀x∈m,x.length=n
 |[],m,h=>by simp only[Gs,acX]at h;subst h;exact⟨rfl,rfl,fun n _ x hx=>by simp at hx⟩
 |v::r,m,h=>by
  simp only[Gs,Option.bind_eq_some_iff,acN]at h
  obtain⟨u,g1,l,g2,rfl⟩:=h
  obtain⟨h1,h2,h3⟩:=Gr g2
  refine⟨Lq g1 h1,by simp[h2],fun n hn x hx=> ?_⟩
  rcases List.mem_cons.1 hx with rfl|hx
  ·rw[Lp g1];exact hn v (by simp)
  ·exact h3 n (fun y hy=>hn y (by simp[hy])) x hx
noncomputable def Gt (ps:List (Nat×Nat)):List (AV×AV×Nat)→Option (List (AV×AV×Nat))
 |[]=>some []
 |e::r=>(gw ps e.1).bind fun k=>(gw ps e.2.1).bind fun v=>(Gt ps r).map fun l=>(k,v,e.2.2)::l
theorem Jp (ho:iK ps=true):∀{l m:List (AV×AV×Nat)} {ms:List MapEntry},Gt ps l=some m→bS E ρ l=some ms→bS ⟨t2,E.M⟩ (lD ps ρ) m=some ms
 |[],m,ms,h,hd=>by
  simp only[Gt,acX]at h
  subst h
  simpa[bS] using hd
 |(k,v,b)::r,m,ms,h,hd=>by
  obtain⟨x,y,ms',h1,h2,h3,rfl⟩:=dS hd
  simp only[Gt,Option.bind_eq_some_iff,acN]at h
  obtain⟨k',g1,v',g2,l,g3,rfl⟩:=h
  simp only[bS,ow ho k k' x g1 h1,ow ho v v' y g2 h2,Jp ho g3 h3]
noncomputable def gX (ps:List (Nat×Nat)):AObj→Option AObj
 |.blk g Ty sz els=>(Gs ps els).map fun e=>.blk g Ty sz e
 |.map es cl=>(Gt ps es).map fun e=>.map e cl
 |.prow Ty sz α l enc=>some (.prow Ty sz α l enc)
 |.kmap sure ak av α l k v=>some (.kmap sure ak av α l k v)
 |.defs=>some .defs
 |.iter ..=>none
theorem EN (ho:iK ps=true) {e:eH} {o o':AObj} {ob:Obj} (h:gX ps o=some o') (hr:ORel E ρ e o ob):ORel ⟨t2,E.M⟩ (lD ps ρ) e o' ob:=by
 cases o with
 |blk g Ty sz els=>
  simp only[gX,acN]at h
  obtain⟨els',h1,rfl⟩:=h
  obtain⟨f1,f2,f3⟩:=Gr h1
  obtain⟨q0,q1,arr,xs,q2,q3,q4⟩:=hr
  refine⟨f3 sz q0,q1,arr,xs,q2,qH ho _ _ _ f1 q3,?_⟩
  rw[f2];exact q4
 |map es cl=>
  simp only[gX,acN]at h
  obtain⟨es',h1,rfl⟩:=h
  obtain⟨ms,q1,q2⟩:=hr
  exact⟨ms,Jp ho h1 q1,q2⟩
 |iter=>simp[gX]at h
 |defs=>
  simp only[gX,acX]at h
  subst h;exact hr
 |prow Ty sz α l enc=>
  simp only[gX,acX]at h
  subst h;exact hr
 |kmap sure ak av α l k v=>
  simp only[gX,acX]at h
  subst h
  obtain⟨es,cl,ms,h1,h2,h3⟩:=hr
  exact⟨es,cl,ms,h1,MX (E:=E) (E':=⟨t2,E.M⟩) rfl h1 h2,h3⟩
theorem io {e:eH} {o o':AObj} (h:gX ps o=some o'):cG e o'=cG e o∧(Gk o→Gk o'):=by
 cases o with
 |blk g Ty sz els=>
  simp only[gX,acN]at h
  obtain⟨els',h1,rfl⟩:=h
  exact⟨rfl,fun q=>q⟩
 |map es cl=>
  simp only[gX,acN]at h
  obtain⟨es',h1,rfl⟩:=h
  exact⟨rfl,fun q=>q⟩
 |iter=>simp[gX]at h
 |defs=>
  simp only[gX,acX]at h
  subst h;exact⟨rfl,fun q=>q⟩
 |prow Ty sz α l enc=>
  simp only[gX,acX]at h
  subst h;exact⟨rfl,fun q=>q⟩
 |kmap sure ak av α l k v=>
  simp only[gX,acX]at h
  subst h;exact⟨rfl,fun q=>q⟩
noncomputable def wE (ps:List (Nat×Nat)) (M:T) (l:List (Nat×Nat)):T→(T→Bool)→Bool:=List.rec (fun acc K=>K acc) (fun p _ ih acc K=>dJ (M.get p.1) fun o=>dJ (gX ps o) fun o'=>T.set cb acc p.2 (some o') fun acc=>ih acc K) l
theorem CS:∀{l:List (Nat×Nat)} {acc:T} {K:T→Bool},(∀j o,acc.get j=some o→∃i o0,(i,j)∈ps∧M.get i=some o0∧gX ps o0=some o)→(∀p∈l,p∈ps)→wE ps M l acc K=true→
  ∃M',K M'=true∧∀j o,M'.get j=some o→∃i o0,(i,j)∈ps∧M.get i=some o0∧gX ps o0=some o
 |[],acc,K,ha,_,h=>⟨acc,h,ha⟩
 |p::l,acc,K,ha,hl,h=>by
  have h':(dJ (M.get p.1) fun o=>dJ (gX ps o) fun o'=>T.set cb acc p.2 (some o') fun acc=>wE ps M l acc K)=true:=h
  obtain⟨o,h1,h2⟩:=bO h'
  obtain⟨o',h3,h4⟩:=bO h2
  obtain⟨acc',h5,s1,s2⟩:=T.set_ok _ _ _ _ _ h4
  refine CS (fun j ob hj=> ?_) (fun q hq=>hl q (by simp[hq])) h5
  by_cases e:j=p.2
  ·subst e
   rw[s1]at hj
   cases hj
   exact⟨p.1,o,hl p (by simp),h1,h3⟩
  ·rw[s2 j e]at hj
   exact ha j ob hj
noncomputable def aaG (live:List Nat) (ps:List (Nat×Nat)) (nx':Nat) (S:SL) (M:T) (K:SL→T→Nat→Bool):Bool:=
 ac (iK ps&&ps.all fun p=>Nat.blt p.2 nx') (wE ps M ps .leaf fun M'=>List.rec (motive:=fun _=>SL→Bool) (fun acc=>K acc M' nx') (fun t _ ih acc=>Option.casesOn (gw ps (cu t S)) (ih acc) fun v=>ih (.cons t v acc)) live .nil)
theorem Sim.ren (h:Sim E ρ G F M nx w) (ho:iK ps=true) {nx':Nat} (hn:∀p∈ps,p.2<nx') {M':T} (hM:∀j o,M'.get j=some o→∃i o0,(i,j)∈ps∧M.get i=some o0∧gX ps o0=some o):Sim E (lD ps ρ) G F M' nx' w:=by
 obtain⟨c,hh,hob,hinj⟩:=h.ex
 refine⟨⟨c,hh,fun j o hj=> ?_,fun j k e f o o' hj hk he hf hb1 hb2 hb=> ?_⟩,h.mem,fun j hj=> ?_⟩
 ·obtain⟨i,o0,h1,h2,h3⟩:=hM j o hj
  obtain⟨e,a1,q⟩:=hob i o0 h2
  have hB:=io (e:=e) h3
  refine⟨e,by rw[ep ho h1];exact a1,?_⟩
  rcases q with⟨q1,ob,q2,q3⟩|⟨q1,q2⟩
  ·exact .inl ⟨by rw[hB.1];exact q1,ob,q2,EN ho h3 q3⟩
  ·exact .inr ⟨by rw[hB.1];exact q1,hB.2 q2⟩
 ·obtain⟨i,o0,h1,h2,h3⟩:=hM j o hj
  obtain⟨i',o1,g1,g2,g3⟩:=hM k o' hk
  rw[ep ho h1]at he
  rw[ep ho g1]at hf
  rw[(io (e:=e) h3).1]at hb1
  rw[(io (e:=f) g3).1]at hb2
  have:=hinj i i' e f o0 o1 h2 g2 he hf hb1 hb2 hb
  subst this
  exact zw ho h1 g1
 ·unfold lD
  split
  ·rename_i p hp
   have h1:=List.mem_of_find?_eq_some hp
   have h2:=List.find?_some hp
   have:=acG h2
   have:=hn p h1
   omega
  ·rfl
theorem XE {N:Nat} {S:SL} {a:Act} (s:SR E ρ N S a) (h:Sim E ρ G F M nx w) {live:List Nat} {nx':Nat} {K:SL→T→Nat→Bool} (hk:aaG live ps nx' S M K=true):
  ∃S' M' ρ',SR E ρ' N S' a∧Sim E ρ' G F M' nx' w∧K S' M' nx'=true∧∀i j,(i,j)∈ps→ρ' j=ρ i:=by
 obtain⟨h1,h2⟩:=aw hk
 simp only[acW]at h1
 obtain⟨M',h3,h4⟩:=CS (ps:=ps) (fun j o hj=>by simp[T.get_leaf]at hj) (fun p hp=>hp) h2
 have hn:∀p∈ps,p.2<nx':=fun p hp=>by
  have:=List.all_eq_true.1 h1.2 p hp
  simpa[ac2] using this
 have key:∀(live:List Nat) (acc:SL),SR E (lD ps ρ) N acc a→(List.rec (motive:=fun _=>SL→Bool) (fun acc=>K acc M' nx') (fun t _ ih acc=>Option.casesOn (gw ps (cu t S)) (ih acc) fun v=>ih (.cons t v acc)) live acc)=true→∃S',SR E (lD ps ρ) N S' a∧K S' M' nx'=true:=by
  intro live
  induction live with
  |nil=>exact fun acc sa hk=>⟨acc,sa,hk⟩
  |cons t live ih=>
   intro acc sa hk
   have hk':Option.casesOn (motive:=fun _=>Bool) (gw ps (cu t S)) (List.rec (motive:=fun _=>SL→Bool) (fun acc=>K acc M' nx') (fun t _ ih acc=>Option.casesOn (gw ps (cu t S)) (ih acc) fun v=>ih (.cons t v acc)) live acc)
    (fun v=>List.rec (motive:=fun _=>SL→Bool) (fun acc=>K acc M' nx') (fun t _ ih acc=>Option.casesOn (gw ps (cu t S)) (ih acc) fun v=>ih (.cons t v acc)) live (.cons t v acc))=true:=hk
   rcases e:gw ps (cu t S) with _|v
   ·rw[e]at hk'
    exact ih acc sa hk'
   ·rw[e]at hk'
    refine ih (.cons t v acc) ⟨sa.size,sa.defs,fun u=> ?_⟩ hk'
    by_cases q:t=u
    ·subst q
     rw[jp]
     rcases s.at_ t with q|⟨x,q1,q2⟩
     ·rw[q]at e;simp[gw]at e
     ·exact .inr ⟨x,ow h1.1 _ _ _ e q1,q2⟩
    ·rw[nq _ _ q]
     exact sa.at_ u
 obtain⟨S',k1,k2⟩:=key live .nil ⟨s.size,s.defs,fun _=>.inl rfl⟩ h3
 exact⟨S',M',_,k1,h.ren h1.1 hn h4,k2,fun i j q=>ep h1.1 q⟩
noncomputable def aco:SY→List Nat
 |.prow i _=>[i]
 |.psub i _ _ _=>[i]
 |.pfix i _ _=>[i]
 |.rptr i _ _ _=>[i]
 |.kmp i=>[i]
 |_=>[]
mutual
noncomputable def zX:AV→List Nat
 |.ptr i _=>[i]
 |.sl i _ _ _=>[i]
 |.map i=>[i]
 |.yl i=>[i]
 |.sy s=>aco s
 |.iface _ v=>zX v
 |.fn _ c=>Fw c
 |.agg l=>Fw l
 |.tup l=>Fw l
 |_=>[]
noncomputable def Fw:List AV→List Nat
 |[]=>[]
 |v::r=>zX v++Fw r
end
noncomputable def acp:AObj→List Nat
 |.blk _ _ _ els=>Fw els.flatten
 |.map es _=>es.flatMap fun e=>zX e.1++zX e.2.1
 |_=>[]
noncomputable def tg (M:T):Nat→List Nat→List Nat→List Nat
 |0,_,seen=>seen
 |_+1,[],seen=>seen
 |n+1,i::todo,seen=>match seen.any (Nat.beq i),M.get i with
  |false,some o=>tg M n (todo++acp o) (seen++[i])
  |_,_=>tg M n todo seen
def Ir:Nat→List Nat→List (Nat×Nat)
 |_,[]=>[]
 |k,i::r=>(i,k)::Ir (k+1) r
def HT:Nat→List Nat→List Nat
 |0,l=>l
 |k+1,l=>HT k (k::l)
def GA (ps:List (Nat×Nat)):Nat→Bool
 |0=>true
 |k+1=>List.any ps (fun p=>Nat.beq p.1 k&&Nat.beq p.2 k)&&GA ps k
theorem EQ {ps:List (Nat×Nat)}:∀{k:Nat},GA ps k=true→∀i,i<k→(i,i)∈ps
 |0,_,i,hi=>by omega
 |k+1,h,i,hi=>by
  simp only[GA,acW]at h
  rcases Nat.lt_succ_iff_lt_or_eq.1 hi with h1|rfl
  ·exact EQ h.2 i h1
  ·obtain⟨p,q1,q2⟩:=List.any_eq_true.1 h.1
   simp only[acW]at q2
   have e1:=acG q2.1
   have e2:=acG q2.2
   have:p=(i,i):=by cases p;simp_all
   rw[←this];exact q1
noncomputable def VZ (k:Nat) (live:List Nat) (S:SL) (M:T):List (Nat×Nat):=Ir 0 (tg M 200 (HT k (live.flatMap fun t=>zX (cu t S))) [])
noncomputable def abN (k:Nat) (live:List Nat) (S:SL) (M:T) (K:SL→T→Nat→Bool):Bool:=ac (GA (VZ k live S M) k) (aaG live (VZ k live S M) (VZ k live S M).length S M K)
theorem YD {N k:Nat} {S:SL} {a:Act} (s:SR E ρ N S a) (h:Sim E ρ G F M nx w) {live:List Nat} {K:SL→T→Nat→Bool} (hk:abN k live S M K=true):
  ∃S' M' nx' ρ',SR E ρ' N S' a∧Sim E ρ' G F M' nx' w∧K S' M' nx'=true∧∀i e,i<k→ρ i=some e→ρ' i=some e:=by
 obtain⟨h1,h2⟩:=aw hk
 obtain⟨S',M',ρ',g1,g2,g3,g4⟩:=XE s h h2
 exact⟨S',M',_,ρ',g1,g2,g3,fun i e q1 q2=>by rw[g4 i i (EQ h1 i q1)];exact q2⟩
end
section
variable {P:Program} {E:Env} {ρ:Ren} {G:GS} {F:List aH} {M:T} {nx:Nat} {w:World}
noncomputable def RB (v:AV) (Ty sz:Nat) (α:Type) (enc:α→List PL) (M:T) (nx:Nat) (K:AV→T→Nat→Bool):Bool:=bn (fp v) (oJ v fun s=>SY.casesOn s (fun _ _=>false) (fun _=>false) (fun _=>false) (fun _ _ _ _ _=>false) (fun _ _ _=>false) (fun i n=>nJ M i fun Ty' sz' _ l _=>ac (Nat.beq Ty Ty') (ac (Nat.beq sz sz') (ac (au (l=[])) (T.set cb M i (some (.prow Ty sz α [] enc)) fun M'=>K (.sy (.prow i n)) M' nx)))) (fun _ _ _ _=>false) (fun _ _ _ _=>false) (fun _ _ _=>false) (fun _=>false)) (xw v
 (ac (Nat.blt 0 sz) (T.set cb M nx (some (.prow Ty sz α [] enc)) fun M'=>fN (Nat.succ nx) fun q=>K (.sy (.prow nx 0)) M' q))
 (fun i o n c=>ac (Nat.beq o 0) (gv M i fun g Ty' sz' els=>ac (Nat.beq Ty Ty') (ac (Nat.beq sz sz') (ACap.casesOn c
  (fun c=>ac (Bool.rec true false g) (ac (Nat.beq n 0) (ac (Nat.beq (eG els) c) (ac (Nat.ble c 9223372036854775807)
   (T.set cb M i none fun M1=>T.set cb M1 nx (some (.prow Ty sz α [] enc)) fun M'=>fN (Nat.succ nx) fun q=>K (.sy (.prow nx 0)) M' q)))))
  (fun k=>ac (Nat.beq k 0) (ac g (ac (Nat.beq (eG els) n) (KK els fun pss=>aI fun l:List α=>ac (au (l.map enc=pss))
   (T.set cb M i none fun M1=>T.set cb M1 nx (some (.prow Ty sz α l enc)) fun M'=>fN (Nat.succ nx) fun q=>K (.sy (.prow nx l.length)) M' q))))))))))
theorem Sim.nilRow (h:Sim E ρ G F M nx w) {M':T} {Ty sz:Nat} {α:Type} {enc:α→List PL} (hsz:0<sz) (h1:M'.get nx=some (.prow Ty sz α [] enc)) (h2:∀m,m≠nx→M'.get m=M.get m):Sim E (ρ.set nx ⟨0,0⟩) G F M' (nx+1) w:=by
 have h0:=h.fresh nx (acU _)
 have hle:=Ren.le_set (ρ:=ρ) ⟨0,0⟩ h0
 obtain⟨c,hh,hob,hinj⟩:=h.ex
 refine⟨⟨c,hh,fun j o hj=> ?_,fun j k e f o o' hj hk he hf hb1 hb2 hb=> ?_⟩,h.mem,fun j hj=> ?_⟩
 ·by_cases q:j=nx
  ·subst q
   rw[h1]at hj;cases hj
   exact⟨_,Ren.set_self _ _ _,.inr ⟨rfl,rfl,hsz⟩⟩
  ·rw[h2 j q]at hj
   obtain⟨e,a1,⟨q1,ob,q2,q3⟩|q1⟩:=hob j o hj
   ·exact⟨e,hle _ _ a1,.inl ⟨q1,ob,q2,q3.mono hle⟩⟩
   ·exact⟨e,hle _ _ a1,.inr q1⟩
 ·have nb:∀m e o,M'.get m=some o→ρ.set nx ⟨0,0⟩ m=some e→cG e o=true→m≠nx:=fun m e o q1 q2 q3 q4=>by
   subst q4
   rw[h1]at q1;cases q1
   rw[Ren.set_self]at q2;cases q2
   cases q3
  have nj:=nb j e o hj he hb1
  have nk:=nb k f o' hk hf hb2
  rw[h2 j nj]at hj
  rw[h2 k nk]at hk
  rw[Ren.set_ne _ nj]at he
  rw[Ren.set_ne _ nk]at hf
  exact hinj j k e f o o' hj hk he hf hb1 hb2 hb
 ·rw[Ren.set_ne _ (by omega)]
  exact h.fresh j (by omega)
theorem Sim.rekey (h:Sim E ρ G F M nx w) {i:Nat} {o o':AObj} {e e':eH} {M':T} (hi:M.get i=some o) (he:ρ i=some e) (hb:e'.b=e.b) (hB:cG e o=true) (hB':cG e' o'=true) (hr:∀ob,ORel E ρ e o ob→ORel E ρ e' o' ob)
  (h1:M'.get nx=some o') (h2:∀m,m≠nx→m≠i→M'.get m=M.get m) (h3:M'.get i=none):Sim E (ρ.set nx e') G F M' (nx+1) w:=by
 have h0:=h.fresh nx (acU _)
 have hle:=Ren.le_set (ρ:=ρ) e' h0
 have hinx:i≠nx:=fun q=>by rw[q,h0]at he;cases he
 obtain⟨c,hh,hob,hinj⟩:=h.ex
 refine⟨⟨c,hh,fun j o2 hj=> ?_,fun j k f1 f2 o1 o2 hj hk hf1 hf2 hb1 hb2 hbb=> ?_⟩,h.mem,fun j hj=> ?_⟩
 ·by_cases q:j=nx
  ·subst q
   rw[h1]at hj;cases hj
   obtain⟨f,a1,⟨q1,ob,q2,q3⟩|⟨q1,_⟩⟩:=hob i o hi
   ·rw[he]at a1;cases a1
    exact⟨e',Ren.set_self _ _ _,.inl ⟨hB',ob,by rw[hb];exact q2,(hr ob q3).mono hle⟩⟩
   ·rw[he]at a1;cases a1
    rw[hB]at q1;cases q1
  ·have qi:j≠i:=fun q=>by subst q;rw[h3]at hj;cases hj
   rw[h2 j q qi]at hj
   obtain⟨f,a1,⟨q1,ob,q2,q3⟩|q1⟩:=hob j o2 hj
   ·exact⟨f,hle _ _ a1,.inl ⟨q1,ob,q2,q3.mono hle⟩⟩
   ·exact⟨f,hle _ _ a1,.inr q1⟩
 ·have old:∀m,m≠nx→∀o3,M'.get m=some o3→m≠i∧M.get m=some o3:=fun m q o3 q2=>by
   have qi:m≠i:=fun q=>by subst q;rw[h3]at q2;cases q2
   exact⟨qi,by rw[←h2 m q qi];exact q2⟩
  by_cases q1:j=nx
  ·by_cases q2:k=nx
   ·omega
   ·exfalso
    subst q1
    rw[Ren.set_self]at hf1;cases hf1
    rw[Ren.set_ne _ q2]at hf2
    obtain⟨p1,p2⟩:=old k q2 o2 hk
    exact p1 (hinj k i f2 e o2 o p2 hi hf2 he hb2 hB (by rw[←hb,hbb]))
  ·by_cases q2:k=nx
   ·exfalso
    subst q2
    rw[Ren.set_self]at hf2;cases hf2
    rw[Ren.set_ne _ q1]at hf1
    obtain⟨p1,p2⟩:=old j q1 o1 hj
    exact p1 (hinj j i f1 e o1 o p2 hi hf1 he hb1 hB (by rw[hbb,hb]))
   ·rw[Ren.set_ne _ q1]at hf1
    rw[Ren.set_ne _ q2]at hf2
    exact hinj j k f1 f2 o1 o2 (old j q1 o1 hj).2 (old k q2 o2 hk).2 hf1 hf2 hb1 hb2 hbb
 ·rw[Ren.set_ne _ (by omega)]
  exact h.fresh j (by omega)
theorem Sim.reobj (h:Sim E ρ G F M nx w) {i:Nat} {o o':AObj} (hi:M.get i=some o) (hB:∀e,cG e o'=cG e o) (hr:∀e ob,ρ i=some e→ORel E ρ e o ob→ORel E ρ e o' ob) (hn:Gk o→Gk o') {M':T} (h1:M'.get i=some o') (h2:∀m,m≠i→M'.get m=M.get m):Sim E ρ G F M' nx w:=by
 obtain⟨c,hh,hob,hinj⟩:=h.ex
 have old:∀m o2,M'.get m=some o2→∃o3,M.get m=some o3∧∀e,cG e o2=cG e o3:=fun m o2 hm=>by
  by_cases q1:m=i
  ·subst q1
   rw[h1]at hm;cases hm
   exact⟨_,hi,hB⟩
  ·rw[h2 m q1]at hm
   exact⟨o2,hm,fun e=>rfl⟩
 refine⟨⟨c,hh,fun m o2 hm=> ?_,fun m k e f o2 o3 hm hk he hf hb1 hb2 hb=> ?_⟩,h.mem,h.fresh⟩
 ·by_cases q1:m=i
  ·subst q1
   rw[h1]at hm;cases hm
   obtain⟨e,a1,⟨b1,ob,b2,b3⟩|⟨b1,b2⟩⟩:=hob m _ hi
   ·exact⟨e,a1,.inl ⟨by rw[hB];exact b1,ob,b2,hr e ob a1 b3⟩⟩
   ·exact⟨e,a1,.inr ⟨by rw[hB];exact b1,hn b2⟩⟩
  ·rw[h2 m q1]at hm
   exact hob m o2 hm
 ·obtain⟨o4,f1,f2⟩:=old m o2 hm
  obtain⟨o5,f3,f4⟩:=old k o3 hk
  rw[f2]at hb1
  rw[f4]at hb2
  exact hinj m k e f o4 o5 f1 f3 he hf hb1 hb2 hb
theorem Nh (h:Sim E ρ G F M nx w) {v:AV} {Ty sz:Nat} {α:Type} {enc:α→List PL} {K:AV→T→Nat→Bool} (hk:RB v Ty sz α enc M nx K=true):
  ∃v' M' nx' ρ',ρ.Le ρ'∧Sim E ρ' G F M' nx' w∧K v' M' nx'=true∧(∀x,den E ρ v=some x→den E ρ' v'=some x)∧v≠ .bad:=by
 have h0:=h.fresh nx (acU _)
 rcases bh hk with⟨-,g⟩|⟨-,hk⟩
 ·replace g:=gN g
  clear hk
  obtain⟨s,rfl,g⟩:=g
  cases s<;>first|(cases g;done)|skip
  case prow i n=>
   obtain⟨Ty',sz',α',l,enc',hi,g1⟩:=jh g
   obtain⟨q1,g2⟩:=aw g1
   obtain⟨q2,g3⟩:=aw g2
   have q1:=acG q1
   have q2:=acG q2
   subst q1;subst q2
   obtain⟨hl,g4⟩:=aa g3
   subst hl
   obtain⟨M',g5,s1,s2⟩:=T.set_ok _ _ _ _ _ g4
   refine⟨_,M',nx,ρ,Ren.Le.refl _,h.reobj (o':=.prow Ty sz α [] enc) hi (fun e=>rfl) (fun e ob _ hr=> ?_) (fun q=>⟨rfl,q.2⟩) s1 s2,g5,fun x hx=>hx,by simp⟩
   obtain⟨arr,xs,o1,o2,o3,o4,o5,o6,o7⟩:=hr
   exact⟨arr,xs,o1,o2,fun y hy=>(by simp at hy),by simpa using o4,o5,o6,o7⟩
 rcases nz hk with⟨e,g⟩|⟨i,o,n,c,e,g⟩
 ·obtain⟨g1,g2⟩:=aw g
  rw[ac2]at g1
  obtain⟨M',k1,s1,s2⟩:=T.set_ok _ _ _ _ _ g2
  rw[ck]at k1
  have hle:=Ren.le_set (ρ:=ρ) ⟨0,0⟩ h0
  refine⟨_,M',nx+1,_,hle,h.nilRow g1 s1 s2,k1,(fun x hx=> ?_),(by rw[e];simp)⟩
  rw[e]at hx
  cases hx
  simp[den,bz,Ren.set_self,oI]
 ·obtain⟨q2,g2⟩:=aw g
  have q2:=acG q2
  subst q2
  obtain⟨gr,Ty',sz',els,hi,g3⟩:=dA g2
  obtain⟨q4,g5⟩:=aw g3
  obtain⟨q5,g6⟩:=aw g5
  have q4:=acG q4
  have q5:=acG q5
  subst q4;subst q5
  obtain⟨f,arr,xs,e1,e2,e3,e4,e5,e6,e7,e8,e9⟩:=h.cellsAt hi
  have hinx:i≠nx:=fun q=>by rw[q,h0]at e1;cases e1
  cases c with
  |ex c=>
   obtain⟨q1,g7⟩:=aw g6
   obtain⟨q3,g8⟩:=aw g7
   obtain⟨q6,g9⟩:=aw g8
   obtain⟨q7,g10⟩:=aw g9
   have q1:gr=false:=by cases gr;rfl;cases q1
   subst q1
   have q3:=acG q3
   subst q3
   have q6:els.length=c:=by rw[←cT];exact acG q6
   rw[Nat.ble_eq]at q7
   obtain⟨M1,k1,s1,s2⟩:=T.set_ok _ _ _ _ _ g10
   obtain⟨M',k2,s3,s4⟩:=T.set_ok _ _ _ _ _ k1
   rw[ck]at k2
   have hle:=Ren.le_set (ρ:=ρ) ⟨f.b,c+1⟩ h0
   refine⟨_,M',nx+1,_,hle,h.rekey (o':=.prow Ty sz α [] enc) (e':=⟨f.b,c+1⟩) hi e1 rfl rfl (kp rfl) (fun ob hr=> ?_) s3 (fun m a1 a2=>by rw[s4 m a1,s2 m a2]) (by rw[s4 i hinx,s1]),k2,(fun x hx=> ?_),(by rw[e];simp)⟩
   ·obtain⟨_,_,arr',xs',o1,o2,o3⟩:=hr
    simp only[cond_false]at o3
    have hl:=cV o2
    rw[fq e4,←o3,Array.length_toList]at hl
    refine⟨arr',[],o1,e5,fun y hy=>(by simp at hy),by simp[tF],?_,by simp,by simp,by simpa[maxLen] using q7⟩
    simp only[Nat.add_sub_cancel]
    rw[hl,q6]
   ·rw[e]at hx
    simp only[den,e1,dF]at hx
    cases hx
    simp[den,bz,Ren.set_self,oI]
  |rest k=>
   obtain⟨q1,g7⟩:=aw g6
   have q1:=acG q1
   subst q1
   obtain⟨q3,g8⟩:=aw g7
   subst q3
   obtain⟨q6,g9⟩:=aw g8
   have q6:els.length=n:=by rw[←cT];exact acG q6
   obtain⟨p1,p2,p3⟩:=e9 rfl
   obtain⟨pss,g10,r1,r2,r3,r4⟩:=EB e3 e4 g9
   obtain⟨l,g11⟩:=bL g10
   obtain⟨hl,g12⟩:=aa g11
   obtain⟨M1,k1,s1,s2⟩:=T.set_ok _ _ _ _ _ g12
   obtain⟨M',k2,s3,s4⟩:=T.set_ok _ _ _ _ _ k1
   rw[ck]at k2
   have hle:=Ren.le_set (ρ:=ρ) ⟨f.b,f.cap+1⟩ h0
   have hlen:l.length=els.length:=by rw[←r4,←hl,acE]
   refine⟨_,M',nx+1,_,hle,h.rekey (o':=.prow Ty sz α l enc) (e':=⟨f.b,f.cap+1⟩) hi e1 rfl rfl (kp rfl) (fun ob hr=> ?_) s3 (fun m a1 a2=>by rw[s4 m a1,s2 m a2]) (by rw[s4 i hinx,s1]),k2,(fun x hx=> ?_),(by rw[e];simp)⟩
   ·obtain⟨_,_,arr',xs',o1,o2,o3⟩:=hr
    rw[e3]at o2
    cases o2
    simp only[cond_true]at o3
    obtain⟨u1,u2,u3,u4⟩:=o3
    have hx:xs=(l.flatMap enc).map bR:=by rw[r1,←hl,List.flatMap_def]
    refine⟨arr',xs,o1,e5,fun y hy=>r3 _ (by rw[←hl];exact List.mem_map.2 ⟨y,hy,rfl⟩),by rw[hx];exact uY (fun p hp=>r2 p (by rw[←hl,←List.flatMap_def];exact hp)),by simpa using u1,by rw[hlen];exact u2,by rw[hlen];simpa using u3,by simpa using u4⟩
   ·rw[e]at hx
    simp only[den,e1,dF]at hx
    cases hx
    simp[den,bz,Ren.set_self,oI,hlen,q6]
noncomputable def KX (t Ty sz:Nat) (α:Type) (enc:α→List PL) (S:SL) (M:T) (nx:Nat) (K:SL→T→Nat→Bool):Bool:=RB (cu t S) Ty sz α enc M nx fun v M nx=>K (.cons t v S) M nx
theorem Ng {N:Nat} {S:SL} {a:Act} (s:SR E ρ N S a) (h:Sim E ρ G F M nx w) {t Ty sz:Nat} {α:Type} {enc:α→List PL} {K:SL→T→Nat→Bool} (hk:KX t Ty sz α enc S M nx K=true):
  ∃S' M' nx' ρ',ρ.Le ρ'∧SR E ρ' N S' a∧Sim E ρ' G F M' nx' w∧K S' M' nx'=true:=by
 obtain⟨v',M',nx',ρ',hl,h1,h2,h3,h4⟩:=Nh h hk
 refine⟨_,M',nx',ρ',hl,⟨s.size,s.defs,fun u=> ?_⟩,h1,h2⟩
 by_cases q:t=u
 ·subst q
  rw[jp]
  obtain⟨x,q1,q2⟩:=(s.at_ t).resolve_left h4
  exact .inr ⟨x,h3 x q1,q2⟩
 ·rw[nq _ _ q]
  exact(s.mono hl).at_ u
theorem Sim.swap (h:Sim E ρ G F M nx w) {i q r:Nat} {g:Bool} {Ty sz:Nat} {els:List (List AV)} {el:List AV} {v v':AV} (hi:M.get i=some (.blk g Ty sz els)) (hq:els[q]?=some el) (hr:el[r]?=some v)
  (hv:∀x,den E ρ v=some x→den E ρ v'=some x) {M':T} (h1:M'.get i=some (.blk g Ty sz (els.take q++[el.take r++[v']++el.drop (r+1)]++els.drop (q+1)))) (h2:∀m,m≠i→M'.get m=M.get m):Sim E ρ G F M' nx w:=by
 obtain⟨c,hh,hob,hinj⟩:=h.ex
 have hle1:=(List.getElem?_eq_some_iff.1 hq).1
 have hle2:=(List.getElem?_eq_some_iff.1 hr).1
 have old:∀m o,M'.get m=some o→∃o2,M.get m=some o2∧∀e,cG e o=cG e o2:=fun m o hm=>by
  by_cases q1:m=i
  ·subst q1
   rw[h1]at hm;cases hm
   exact⟨_,hi,fun e=>rfl⟩
  ·rw[h2 m q1]at hm
   exact⟨o,hm,fun e=>rfl⟩
 refine⟨⟨c,hh,fun m o hm=> ?_,fun m k e f o o' hm hk he hf hb1 hb2 hb=> ?_⟩,h.mem,h.fresh⟩
 ·by_cases q1:m=i
  ·subst q1
   rw[h1]at hm;cases hm
   obtain⟨e,a1,⟨b1,ob,b2,b3⟩|⟨b1,b2⟩⟩:=hob m _ hi
   ·refine⟨e,a1,.inl ⟨rfl,ob,b2,?_⟩⟩
    obtain⟨c1,c2,arr,xs,c3,c4,c5⟩:=b3
    have hel:∀l∈els.take q++[el.take r++[v']++el.drop (r+1)]++els.drop (q+1),l.length=sz:=by
     intro l hl
     simp only[List.mem_append,List.mem_singleton]at hl
     have:=c1 el (acH hq)
     rcases hl with(hl|rfl)|hl
     ·exact c1 l (List.mem_of_mem_take hl)
     ·simp only[acC,List.length_take,List.length_drop,List.length_singleton];omega
     ·exact c1 l (List.mem_of_mem_drop hl)
    have hlen:(els.take q++[el.take r++[v']++el.drop (r+1)]++els.drop (q+1)).length=els.length:=by
     simp only[acC,List.length_take,List.length_drop,List.length_singleton];omega
    have e1:els=els.take q++[el]++els.drop (q+1):=by
     rw[acL,List.singleton_append]
     have:=List.take_append_drop q els
     rw[List.drop_eq_getElem_cons hle1]at this
     rw[←(List.getElem?_eq_some_iff.1 hq).2];exact this.symm
    have e2:el=el.take r++[v]++el.drop (r+1):=by
     rw[acL,List.singleton_append]
     have:=List.take_append_drop r el
     rw[List.drop_eq_getElem_cons hle2]at this
     rw[←(List.getElem?_eq_some_iff.1 hr).2];exact this.symm
    have hd:aR E ρ (els.take q++[el.take r++[v']++el.drop (r+1)]++els.drop (q+1)).flatten=some xs:=by
     rw[e1]at c4
     simp only[List.flatten_append,acI,List.flatten_nil,List.append_nil]at c4 ⊢
     obtain⟨y1,z1,d1,d2,rfl⟩:=eJ c4
     obtain⟨y2,z2,d3,d4,rfl⟩:=eJ d1
     rw[e2]at d4
     obtain⟨y3,z3,d5,d6,rfl⟩:=eJ d4
     obtain⟨y4,z4,d7,d8,rfl⟩:=eJ d5
     obtain⟨x,_,d9,d10,rfl⟩:=bu d8
     refine fr (fr d3 (fr (fr d7 ?_) d6)) d2
     exact ly (hv x d9) d10
    refine⟨hel,c2,arr,xs,c3,hd,?_⟩
    rw[hlen];exact c5
   ·cases b1
  ·rw[h2 m q1]at hm
   exact hob m o hm
 ·obtain⟨o2,f1,f2⟩:=old m o hm
  obtain⟨o3,f3,f4⟩:=old k o' hk
  rw[f2]at hb1
  rw[f4]at hb2
  exact hinj m k e f o2 o3 f1 f3 he hf hb1 hb2 hb
noncomputable def WV (i q r Ty sz:Nat) (α:Type) (enc:α→List PL) (M:T) (nx:Nat) (K:T→Nat→Bool):Bool:=
 gv M i fun _ _ _ els=>dJ (fF els q) fun el=>dJ (fF el r) fun v=>bn (fp v) (K M nx) (RB v Ty sz α enc M nx fun v' M' nx'=>gv M' i fun g T2 s2 els=>dJ (fF els q) fun el'=>dJ (fF el' r) fun v2=>ac (au (v2=v))
  (ix el' r [v'] fun e2=>ix els q [e2] fun els2=>T.set cb M' i (some (.blk g T2 s2 els2)) fun M2=>K M2 nx'))
theorem VY (h:Sim E ρ G F M nx w) {i q r Ty sz:Nat} {α:Type} {enc:α→List PL} {K:T→Nat→Bool} (hk:WV i q r Ty sz α enc M nx K=true):
  ∃M' nx' ρ',ρ.Le ρ'∧Sim E ρ' G F M' nx' w∧K M' nx'=true:=by
 obtain⟨g,T1,s1,els,h1,hk⟩:=dA hk
 obtain⟨el,h2,hk⟩:=bO hk
 obtain⟨v,h3,hk⟩:=bO hk
 rcases bh hk with⟨-,hk⟩|⟨-,hk⟩
 ·exact⟨M,nx,ρ,Ren.Le.refl _,h,hk⟩
 obtain⟨v',M',nx',ρ',le,sm,hk,hv,hb⟩:=Nh h hk
 obtain⟨g,T2,s2,els2,h4,hk⟩:=dA hk
 obtain⟨el2,h5,hk⟩:=bO hk
 obtain⟨v2,h6,hk⟩:=bO hk
 obtain⟨hvv,hk2⟩:=aa hk
 obtain⟨hk3,l1⟩:=ef hk2
 obtain⟨hk4,l2⟩:=ef hk3
 obtain⟨M2,hk5,g1,g2⟩:=T.set_ok _ _ _ _ _ hk4
 clear hk hk2 hk3 hk4
 subst hvv
 rw[gB]at h2 h3 h5 h6
 refine⟨M2,nx',ρ',le,sm.swap h4 h5 h6 (fun x hx=> ?_) g1 g2,hk5⟩
 -- the cell's value is known already in the old numbers
 obtain⟨e,arr,xs,e1,e2,e3,e4,e5,e6,e7,e8,e9⟩:=h.cellsAt h1
 have hmem:v2∈els.flatten:=List.mem_flatten.2 ⟨el,acH h2,acH h3⟩
 obtain⟨k,hk2⟩:=List.mem_iff_getElem?.1 hmem
 obtain⟨y,y1,_⟩:=pl e3 hk2
 have:=iL le v2 y y1
 rw[this]at hx
 cases hx
 exact hv _ y1
noncomputable def WK (i q r:Nat) (M:T) (K:T→Bool):Bool:=
 gv M i fun _ _ _ els=>dJ (fF els q) fun el=>dJ (fF el r) fun v=>Rh v M fun u M'=>gv M' i fun g T2 s2 els=>dJ (fF els q) fun el'=>dJ (fF el' r) fun v2=>ac (au (v2=v))
  (ix el' r [u] fun e2=>ix els q [e2] fun els2=>T.set cb M' i (some (.blk g T2 s2 els2)) K)
theorem VH (h:Sim E ρ G F M nx w) {i q r:Nat} {K:T→Bool} (hk:WK i q r M K=true):
  ∃E' M',Ey ρ E E'∧E'.at_=E.at_∧Sim E' ρ G F M' nx w∧K M'=true:=by
 obtain⟨g,T1,s1,els,h1,hk⟩:=dA hk
 obtain⟨el,h2,hk⟩:=bO hk
 obtain⟨v,h3,hk⟩:=bO hk
 rw[gB]at h2 h3
 obtain⟨e,arr,xs,e1,e2,e3,e4,e5,e6,e7,e8,e9⟩:=h.cellsAt h1
 have hmem:v∈els.flatten:=List.mem_flatten.2 ⟨el,acH h2,acH h3⟩
 obtain⟨k,hk2⟩:=List.mem_iff_getElem?.1 hmem
 obtain⟨y,y1,_⟩:=pl e3 hk2
 obtain⟨E1,M1,u,f1,f2,f3,f4,hk3⟩:=Pw h y1 hk
 obtain⟨g,T2,s2,els2,h4,hk4⟩:=dA hk3
 obtain⟨el2,h5,hk5⟩:=bO hk4
 obtain⟨v2,h6,hk6⟩:=bO hk5
 obtain⟨hvv,hk7⟩:=aa hk6
 obtain⟨hk8,l1⟩:=ef hk7
 obtain⟨hk9,l2⟩:=ef hk8
 obtain⟨M2,hk10,g1,g2⟩:=T.set_ok _ _ _ _ _ hk9
 subst hvv
 rw[gB]at h5 h6
 refine⟨E1,M2,f1,f2,f3.swap h4 h5 h6 (fun x hx=> ?_) g1 g2,hk10⟩
 rw[ph f1 _ _ y1]at hx
 cases hx
 exact iL (ρ:=fun _=>none) (fun _ _ q=>by cases q) u y f4
noncomputable def MA (v:AV) (K:AV→Bool):Bool:=AV.casesOn v (K .bad) (fun k z=>K (.int k z)) (fun b=>K (.bool b)) (fun l=>K (.str l)) (fun i o=>K (.ptr i o)) (fun i o n c=>K (.sl i o n c)) (fun i=>K (.map i)) (K .nilP) (K .nilS) (K .nilM) (K .nilF) (K .nilI) (fun t v=>K (.iface t v)) (fun f c=>K (.fn f c)) (fun i=>K (.yl i)) (fun l=>K (.agg l)) (fun l=>K (.tup l)) (fun i=>K (.any i)) (fun s=>K (.sy s))
theorem IJ {v:AV} {K:AV→Bool} (h:MA v K=true):K v=true:=by
 cases v<;>exact h
noncomputable def Ss (v:AV):AV:=AV.casesOn v .bad (fun k z=>.sy (.int k z)) (fun b=>.sy (.bool (b=true))) (fun l=>.sy (.str (l.map ac0))) (fun i o=>.ptr i o) (fun i o n c=>.sl i o n c) (fun i=>.map i) .nilP .nilS .nilM .nilF .nilI (fun t v=>.iface t v) (fun f c=>.fn f c) (fun i=>.yl i) (fun l=>.agg l) (fun l=>.tup l) (fun i=>.any i) (fun s=>.sy s)
theorem HS {v:AV} {x:Value} (h:den E ρ v=some x):den E ρ (Ss v)=some x:=by
 cases v<;>first|exact h|skip
 case bool b=>
  simp only[den]at h
  cases h
  show bz E ρ (.bool (b=true))=_
  simp only[bz,yJ]
noncomputable def upX (t:Nat) (S:SL) (K:SL→Bool):Bool:=MA (Ss (cu t S)) fun v=>K (.cons t v S)
theorem Za {N:Nat} {S:SL} {a:Act} (s:SR E ρ N S a) {t:Nat} {K:SL→Bool} (hk:upX t S K=true):∃S',SR E ρ N S' a∧K S'=true:=by
 have hk:=IJ hk
 refine⟨_,⟨s.size,s.defs,fun u=> ?_⟩,hk⟩
 by_cases q:t=u
 ·subst q
  rw[jp]
  rcases s.at_ t with q|⟨x,q1,q2⟩
  ·rw[q];exact .inl rfl
  ·exact .inr ⟨x,HS q1,q2⟩
 ·rw[nq _ _ q]
  exact s.at_ u
noncomputable def acs (M:T) (i q r:Nat):Bool:=Option.casesOn (M.get i) false fun ob=>AObj.casesOn ob (fun _ _ _ els=>Option.casesOn (fF els q) false fun el=>Option.casesOn (fF el r) false fun _=>true) (fun _ _=>false) (fun _ _ _ _=>false) false (fun _ _ _ _ _=>false) (fun _ _ _ _ _ _ _=>false)
noncomputable def YZ (i q r:Nat) (M:T) (K:T→Bool):Bool:=bn (acs M i q r) (gv M i fun g Ty sz els=>dJ (fF els q) fun el=>dJ (fF el r) fun v=>MA (Ss v) fun v'=>ix el r [v'] fun e2=>ix els q [e2] fun els2=>T.set cb M i (some (.blk g Ty sz els2)) K) (K M)
theorem Xp (h:Sim E ρ G F M nx w) {i q r:Nat} {K:T→Bool} (hk:YZ i q r M K=true):∃M',Sim E ρ G F M' nx w∧K M'=true:=by
 rcases bh hk with⟨-,hk⟩|⟨-,hk⟩
 case inr=>exact⟨M,h,hk⟩
 obtain⟨g,Ty,sz,els,h1,hk⟩:=dA hk
 obtain⟨el,h2,hk⟩:=bO hk
 obtain⟨v,h3,hk⟩:=bO hk
 have hk:=IJ hk
 obtain⟨hk,l1⟩:=ef hk
 obtain⟨hk,l2⟩:=ef hk
 obtain⟨M2,hk,g1,g2⟩:=T.set_ok _ _ _ _ _ hk
 rw[gB]at h2 h3
 exact⟨M2,h.swap h1 h2 h3 (fun x hx=>HS hx) g1 g2,hk⟩
theorem Sim.swapM (h:Sim E ρ G F M nx w) {i:Nat} {es es':List (AV×AV×Nat)} {cl:Nat} (hi:M.get i=some (.map es cl)) (hv:∀ms,bS E ρ es=some ms→bS E ρ es'=some ms) {M':T} (h1:M'.get i=some (.map es' cl)) (h2:∀m,m≠i→M'.get m=M.get m):Sim E ρ G F M' nx w:=by
 obtain⟨c,hh,hob,hinj⟩:=h.ex
 have old:∀m o,M'.get m=some o→∃o2,M.get m=some o2∧∀e,cG e o=cG e o2:=fun m o hm=>by
  by_cases q1:m=i
  ·subst q1
   rw[h1]at hm;cases hm
   exact⟨_,hi,fun e=>rfl⟩
  ·rw[h2 m q1]at hm
   exact⟨o,hm,fun e=>rfl⟩
 refine⟨⟨c,hh,fun m o hm=> ?_,fun m k e f o o' hm hk he hf hb1 hb2 hb=> ?_⟩,h.mem,h.fresh⟩
 ·by_cases q1:m=i
  ·subst q1
   rw[h1]at hm;cases hm
   obtain⟨e,a1,⟨b1,ob,b2,b3⟩|⟨b1,b2⟩⟩:=hob m _ hi
   ·obtain⟨ms,c1,c2⟩:=b3
    exact⟨e,a1,.inl ⟨rfl,ob,b2,ms,hv ms c1,c2⟩⟩
   ·cases b1
  ·rw[h2 m q1]at hm
   exact hob m o hm
 ·obtain⟨o2,f1,f2⟩:=old m o hm
  obtain⟨o3,f3,f4⟩:=old k o' hk
  rw[f2]at hb1
  rw[f4]at hb2
  exact hinj m k e f o2 o3 f1 f3 he hf hb1 hb2 hb
noncomputable def Zb (es:List (AV×AV×Nat)) (K:List (AV×AV×Nat)→Bool):Bool:=List.rec (motive:=fun _=>(List (AV×AV×Nat)→Bool)→Bool) (fun K=>K []) (fun e _ ih K=>MA (Ss e.2.1) fun v=>ih fun l=>K ((e.1,v,e.2.2)::l)) es K
theorem St:∀{es:List (AV×AV×Nat)} {K:List (AV×AV×Nat)→Bool},Zb es K=true→∃es',K es'=true∧∀ms,bS E ρ es=some ms→bS E ρ es'=some ms
 |[],K,h=>⟨[],h,fun ms q=>q⟩
 |(k,v,b)::es,K,h=>by
  have h1:=IJ (show MA (Ss v) (fun v=>Zb es fun l=>K ((k,v,b)::l))=true from h)
  obtain⟨es',h2,h3⟩:=St h1
  refine⟨_,h2,fun ms q=> ?_⟩
  obtain⟨x,y,ms',q1,q2,q3,rfl⟩:=dS q
  simp only[bS,q1,HS q2,h3 _ q3]
noncomputable def YY (i:Nat) (M:T) (K:T→Bool):Bool:=rK M i fun es cl=>Zb es fun es'=>T.set cb M i (some (.map es' cl)) K
theorem Xn (h:Sim E ρ G F M nx w) {i:Nat} {K:T→Bool} (hk:YY i M K=true):∃M',Sim E ρ G F M' nx w∧K M'=true:=by
 obtain⟨es,cl,h1,hk⟩:=kO hk
 obtain⟨es',hk,h2⟩:=St (E:=E) (ρ:=ρ) hk
 obtain⟨M2,hk,g1,g2⟩:=T.set_ok _ _ _ _ _ hk
 exact⟨M2,h.swapM h1 h2 g1 g2,hk⟩
theorem Sim.swapK (h:Sim E ρ G F M nx w) {i:Nat} {es:List (AV×AV×Nat)} {cl:Nat} {ak av:Bool} {α:Type} {l:List α} {kf vf:α→List PL} (hi:M.get i=some (.map es cl)) (hs:es.map (fun e=>(e.1,e.2.1))=l.map (fun x=>(ch ak (kf x),ch av (vf x)))) {M':T} (h1:M'.get i=some (.kmap true ak av α l kf vf)) (h2:∀m,m≠i→M'.get m=M.get m):Sim E ρ G F M' nx w:=by
 obtain⟨c,hh,hob,hinj⟩:=h.ex
 have old:∀m o,M'.get m=some o→∃o2,M.get m=some o2∧∀e,cG e o=cG e o2:=fun m o hm=>by
  by_cases q1:m=i
  ·subst q1
   rw[h1]at hm;cases hm
   exact⟨_,hi,fun e=>rfl⟩
  ·rw[h2 m q1]at hm
   exact⟨o,hm,fun e=>rfl⟩
 refine⟨⟨c,hh,fun m o hm=> ?_,fun m k e f o o' hm hk he hf hb1 hb2 hb=> ?_⟩,h.mem,h.fresh⟩
 ·by_cases q1:m=i
  ·subst q1
   rw[h1]at hm;cases hm
   obtain⟨e,a1,⟨b1,ob,b2,b3⟩|⟨b1,b2⟩⟩:=hob m _ hi
   ·obtain⟨ms,c1,c2⟩:=b3
    exact⟨e,a1,.inl ⟨rfl,ob,b2,es,cl,ms,hs,c1,c2⟩⟩
   ·cases b1
  ·rw[h2 m q1]at hm
   exact hob m o hm
 ·obtain⟨o2,f1,f2⟩:=old m o hm
  obtain⟨o3,f3,f4⟩:=old k o' hk
  rw[f2]at hb1
  rw[f4]at hb2
  exact hinj m k e f o2 o3 f1 f3 he hf hb1 hb2 hb
noncomputable def kbX (i:Nat) (ak av:Bool) (α:Type) (kf vf:α→List PL) (M:T) (K:T→Bool):Bool:=bn (isK M i) (K M) (rK M i fun es _=>aI fun l:List α=>ac (au (es.map (fun e=>(e.1,e.2.1))=l.map (fun x=>(ch ak (kf x),ch av (vf x))))) (T.set cb M i (some (.kmap true ak av α l kf vf)) K))
theorem Tn (h:Sim E ρ G F M nx w) {i:Nat} {ak av:Bool} {α:Type} {kf vf:α→List PL} {K:T→Bool} (hk:kbX i ak av α kf vf M K=true):∃M',Sim E ρ G F M' nx w∧K M'=true:=by
 rcases bh hk with⟨_,hk⟩|⟨_,hk⟩
 ·exact⟨M,h,hk⟩
 obtain⟨es,cl,h1,hk⟩:=kO hk
 obtain⟨l,hk⟩:=bL hk
 obtain⟨hs,hk⟩:=aa hk
 obtain⟨M2,hk,g1,g2⟩:=T.set_ok _ _ _ _ _ hk
 exact⟨M2,h.swapK h1 hs g1 g2,hk⟩
theorem Sim.reobjE (h:Sim E ρ G F M nx w) {i:Nat} {o o':AObj} {e0:eH} (hi:M.get i=some o) (he0:ρ i=some e0) (hB:cG e0 o=true) (hB':cG e0 o'=true) (hr:∀ob,ORel E ρ e0 o ob→ORel E ρ e0 o' ob) {M':T} (h1:M'.get i=some o') (h2:∀m,m≠i→M'.get m=M.get m):Sim E ρ G F M' nx w:=by
 obtain⟨c,hh,hob,hinj⟩:=h.ex
 have old:∀m o2 e,M'.get m=some o2→ρ m=some e→∃o3,M.get m=some o3∧cG e o2=cG e o3:=fun m o2 e hm he=>by
  by_cases q1:m=i
  ·subst q1
   rw[h1]at hm;cases hm
   rw[he0]at he;cases he
   exact⟨_,hi,by rw[hB,hB']⟩
  ·rw[h2 m q1]at hm
   exact⟨o2,hm,rfl⟩
 refine⟨⟨c,hh,fun m o2 hm=> ?_,fun m k e f o2 o3 hm hk he hf hb1 hb2 hb=> ?_⟩,h.mem,h.fresh⟩
 ·by_cases q1:m=i
  ·subst q1
   rw[h1]at hm;cases hm
   obtain⟨e,a1,⟨b1,ob,b2,b3⟩|⟨b1,b2⟩⟩:=hob m _ hi
   ·rw[he0]at a1;cases a1
    exact⟨_,he0,.inl ⟨hB',ob,b2,hr ob b3⟩⟩
   ·rw[he0]at a1;cases a1
    rw[hB]at b1;cases b1
  ·rw[h2 m q1]at hm
   exact hob m o2 hm
 ·obtain⟨o4,f1,f2⟩:=old m o2 e hm he
  obtain⟨o5,f3,f4⟩:=old k o3 f hk hf
  rw[f2]at hb1
  rw[f4]at hb2
  exact hinj m k e f o4 o5 f1 f3 he hf hb1 hb2 hb
theorem Sim.nilObj (h:Sim E ρ G F M nx w) {M':T} {o:AObj} (hB:cG ⟨0,0⟩ o=false) (hN:Gk o) (h1:M'.get nx=some o) (h2:∀m,m≠nx→M'.get m=M.get m):Sim E (ρ.set nx ⟨0,0⟩) G F M' (nx+1) w:=by
 have h0:=h.fresh nx (acU _)
 have hle:=Ren.le_set (ρ:=ρ) ⟨0,0⟩ h0
 obtain⟨c,hh,hob,hinj⟩:=h.ex
 refine⟨⟨c,hh,fun j o hj=> ?_,fun j k e f o o' hj hk he hf hb1 hb2 hb=> ?_⟩,h.mem,fun j hj=> ?_⟩
 ·by_cases q:j=nx
  ·subst q
   rw[h1]at hj;cases hj
   exact⟨_,Ren.set_self _ _ _,.inr ⟨hB,hN⟩⟩
  ·rw[h2 j q]at hj
   obtain⟨e,a1,⟨q1,ob,q2,q3⟩|q1⟩:=hob j o hj
   ·exact⟨e,hle _ _ a1,.inl ⟨q1,ob,q2,q3.mono hle⟩⟩
   ·exact⟨e,hle _ _ a1,.inr q1⟩
 ·have nb:∀m e o,M'.get m=some o→ρ.set nx ⟨0,0⟩ m=some e→cG e o=true→m≠nx:=fun m e o q1 q2 q3 q4=>by
   subst q4
   rw[h1]at q1;cases q1
   rw[Ren.set_self]at q2;cases q2
   rw[hB]at q3;cases q3
  have nj:=nb j e o hj he hb1
  have nk:=nb k f o' hk hf hb2
  rw[h2 j nj]at hj
  rw[h2 k nk]at hk
  rw[Ren.set_ne _ nj]at he
  rw[Ren.set_ne _ nk]at hf
  exact hinj j k e f o o' hj hk he hf hb1 hb2 hb
 ·rw[Ren.set_ne _ (by omega)]
  exact h.fresh j (by omega)
noncomputable def Tl (i q r:Nat) (M:T) (K:T→Bool):Bool:=gv M i fun g Ty sz els=>dJ (fF els q) fun el=>dJ (fF el r) fun v=>KY v (fun j=>yb M j fun sure ak av α l kf vf=>bn sure false
  (ac (bn (au (l=[])) (ix el r [.nilM] fun e2=>ix els q [e2] fun els2=>T.set cb M i (some (.blk g Ty sz els2)) K) true)
   (T.set cb M j (some (.kmap true ak av α l kf vf)) fun M1=>gv M1 i fun g Ty sz els=>dJ (fF els q) fun el=>dJ (fF el r) fun v2=>ac (au (v2=v)) (ix el r [.map j] fun e2=>ix els q [e2] fun els2=>T.set cb M1 i (some (.blk g Ty sz els2)) K)))) (K M)
theorem Tk (h:Sim E ρ G F M nx w) {i q r:Nat} {K:T→Bool} (hk:Tl i q r M K=true):∃M',Sim E ρ G F M' nx w∧K M'=true:=by
 obtain⟨g,Ty,sz,els,h1,hk⟩:=dA hk
 obtain⟨el,h2,hk⟩:=bO hk
 obtain⟨v,h3,hk⟩:=bO hk
 rw[gB]at h2 h3
 rcases Nr hk with⟨j,rfl,hk⟩|hk
 case inr=>exact⟨M,h,hk⟩
 obtain⟨sure,ak,av,α,l,kf,vf,hj,hk⟩:=sv hk
 rcases bh hk with⟨_,hk⟩|⟨hs,hk⟩
 ·cases hk
 subst hs
 obtain⟨k1,k2⟩:=aw hk
 obtain⟨e,h4,q5⟩:=h.objP hj
 rcases q5 with⟨b1,ob,b2,b3⟩|⟨b1,b2⟩
 ·have b1':(false|| !Nat.beq e.cap 0)=true:=b1
  have b4:Nat.beq e.cap 0=false:=by simpa using b1'
  obtain⟨M1,k3,s1,s2⟩:=T.set_ok _ _ _ _ _ k2
  obtain⟨g,Ty,sz,els,h1,hk⟩:=dA k3
  obtain⟨el,h2,hk⟩:=bO hk
  obtain⟨v2,h3,hk⟩:=bO hk
  rw[gB]at h2 h3
  obtain⟨hvv,hk3⟩:=aa hk
  subst hvv
  obtain⟨hk4,_⟩:=ef hk3
  obtain⟨hk5,_⟩:=ef hk4
  obtain⟨M2,hk6,g1,g2⟩:=T.set_ok _ _ _ _ _ hk5
  have hS:Sim E ρ G F M1 nx w:=h.reobjE (o':=.kmap true ak av α l kf vf) hj h4 b1 rfl (fun ob q=>q) s1 s2
  refine⟨M2,hS.swap h1 h2 h3 (fun x hx=> ?_) g1 g2,hk6⟩
  simp only[den,bz,h4,b4,cond_false]at hx ⊢
  exact hx
 ·have b1':(false|| !Nat.beq e.cap 0)=false:=b1
  have b4:Nat.beq e.cap 0=true:=by simpa using b1'
  rw[prB_true.2 b2.2]at k1
  obtain⟨hk,_⟩:=ef (show(ix el r [.nilM] fun e2=>ix els q [e2] fun els2=>T.set cb M i (some (.blk g Ty sz els2)) K)=true from k1)
  obtain⟨hk,_⟩:=ef hk
  obtain⟨M2,hk,g1,g2⟩:=T.set_ok _ _ _ _ _ hk
  refine⟨M2,h.swap h1 h2 h3 (fun x hx=> ?_) g1 g2,hk⟩
  simp only[den,bz,h4,b4,cond_true]at hx ⊢
  exact hx
noncomputable def WJ (v:AV) (ak av:Bool) (α:Type) (kf vf:α→List PL) (M:T) (nx:Nat) (K:AV→T→Nat→Bool):Bool:=wA v (T.set cb M nx (some (.kmap false ak av α [] kf vf)) fun M'=>fN (Nat.succ nx) fun q=>K (.sy (.kmp nx)) M' q)
 (fun j=>kbX j ak av α kf vf M fun M1=>yb M1 j fun sure ak av α l kf vf=>ac sure (T.set cb M1 j none fun M2=>T.set cb M2 nx (some (.kmap false ak av α l kf vf)) fun M'=>fN (Nat.succ nx) fun q=>K (.sy (.kmp nx)) M' q))
theorem VB (h:Sim E ρ G F M nx w) {v:AV} {ak av:Bool} {α:Type} {kf vf:α→List PL} {K:AV→T→Nat→Bool} (hk:WJ v ak av α kf vf M nx K=true):
  ∃v' M' nx' ρ',ρ.Le ρ'∧Sim E ρ' G F M' nx' w∧K v' M' nx'=true∧(∀x,den E ρ v=some x→den E ρ' v'=some x):=by
 rcases oK hk with⟨rfl,g⟩|⟨j,rfl,g⟩
 ·obtain⟨M',k1,s1,s2⟩:=T.set_ok _ _ _ _ _ g
  rw[ck]at k1
  refine⟨_,M',nx+1,_,Ren.le_set _ (h.fresh nx (acU _)),h.nilObj (o:=.kmap false ak av α [] kf vf) rfl ⟨rfl,rfl⟩ s1 s2,k1,fun x hx=> ?_⟩
  cases hx
  simp[den,bz,Ren.set_self]
 ·obtain⟨M1,hS,k1⟩:=Tn h g
  have k1:=sv k1
  obtain⟨sure,ak2,av2,α2,l2,kf2,vf2,hj,k2⟩:=k1
  obtain⟨hs,k3⟩:=aw k2
  subst hs
  obtain⟨e,ob,h4,_,_⟩:=hS.obj hj
  obtain⟨M2,k4,s1,s2⟩:=T.set_ok _ _ _ _ _ k3
  obtain⟨M3,k5,s3,s4⟩:=T.set_ok _ _ _ _ _ k4
  rw[ck]at k5
  have h0:=hS.fresh nx (acU _)
  have hne:j≠nx:=fun q=>by rw[q,h0]at h4;cases h4
  refine⟨_,M3,nx+1,_,Ren.le_set (ρ:=ρ) ⟨e.b,1⟩ h0,hS.rekey (o':=.kmap false ak2 av2 α2 l2 kf2 vf2) (e':=⟨e.b,1⟩) hj h4 rfl rfl rfl (fun ob q=>q) s3 (fun m a1 a2=>by rw[s4 m a1,s2 m a2]) (by rw[s4 j hne,s1]),k5,fun x hx=> ?_⟩
  simp only[den,h4]at hx
  cases hx
  simp only[den,bz,Ren.set_self]
  rfl
noncomputable def Tj (i q r:Nat) (ak av:Bool) (α:Type) (kf vf:α→List PL) (M:T) (nx:Nat) (K:T→Nat→Bool):Bool:=
 gv M i fun _ _ _ els=>dJ (fF els q) fun el=>dJ (fF el r) fun v=>bn (fp v) (K M nx) (WJ v ak av α kf vf M nx fun v' M' nx'=>gv M' i fun g T2 s2 els=>dJ (fF els q) fun el'=>dJ (fF el' r) fun v2=>ac (au (v2=v))
  (ix el' r [v'] fun e2=>ix els q [e2] fun els2=>T.set cb M' i (some (.blk g T2 s2 els2)) fun M2=>K M2 nx'))
theorem Ti (h:Sim E ρ G F M nx w) {i q r:Nat} {ak av:Bool} {α:Type} {kf vf:α→List PL} {K:T→Nat→Bool} (hk:Tj i q r ak av α kf vf M nx K=true):
  ∃M' nx' ρ',ρ.Le ρ'∧Sim E ρ' G F M' nx' w∧K M' nx'=true:=by
 obtain⟨g,T1,s1,els,h1,hk⟩:=dA hk
 obtain⟨el,h2,hk⟩:=bO hk
 obtain⟨v,h3,hk⟩:=bO hk
 rcases bh hk with⟨-,hk⟩|⟨-,hk⟩
 ·exact⟨M,nx,ρ,Ren.Le.refl _,h,hk⟩
 obtain⟨v',M',nx',ρ',le,sm,hk,hv⟩:=VB h hk
 obtain⟨g,T2,s2,els2,h4,hk⟩:=dA hk
 obtain⟨el2,h5,hk⟩:=bO hk
 obtain⟨v2,h6,hk⟩:=bO hk
 obtain⟨hvv,hk2⟩:=aa hk
 obtain⟨hk3,l1⟩:=ef hk2
 obtain⟨hk4,l2⟩:=ef hk3
 obtain⟨M2,hk5,g1,g2⟩:=T.set_ok _ _ _ _ _ hk4
 clear hk hk2 hk3 hk4
 subst hvv
 rw[gB]at h2 h3 h5 h6
 refine⟨M2,nx',ρ',le,sm.swap h4 h5 h6 (fun x hx=> ?_) g1 g2,hk5⟩
 obtain⟨e,arr,xs,e1,e2,e3,e4,e5,e6,e7,e8,e9⟩:=h.cellsAt h1
 have hmem:v2∈els.flatten:=List.mem_flatten.2 ⟨el,acH h2,acH h3⟩
 obtain⟨k,hk2⟩:=List.mem_iff_getElem?.1 hmem
 obtain⟨y,y1,_⟩:=pl e3 hk2
 have:=iL le v2 y y1
 rw[this]at hx
 cases hx
 exact hv _ y1
noncomputable def VM (t n:Nat) (S:SL) (K:SL→Bool):Bool:=AV.casesOn (cu t S) false (fun _ _=>K S) (fun _=>false) (fun _=>false) (fun _ _=>false) (fun _ _ _ _=>false) (fun _=>false) false false false false false (fun _ _=>false) (fun _ _=>false) (fun _=>false) (fun _=>false) (fun _=>false) (fun _=>false)
 (fun s=>SY.casesOn s (fun k z=>BQ n z (fun j=>fN j fun j=>K (.cons t (.int k (Int.ofNat j)) S)) 0) (fun _=>false) (fun _=>false) (fun _ _ _ _ _=>false) (fun _ _ _=>false) (fun _ _=>false) (fun _ _ _ _=>false) (fun _ _ _ _=>false) (fun _ _ _=>false) (fun _=>false))
theorem Ys {N:Nat} {S:SL} {a:Act} (s:SR E ρ N S a) {t n:Nat} {K:SL→Bool} (hk:VM t n S K=true):∃S',SR E ρ N S' a∧K S'=true:=by
 unfold VM at hk
 generalize e:cu t S=v at hk
 cases v<;>first|(cases hk;done)|exact⟨S,s,hk⟩|skip
 case sy s'=>
  cases s'<;>first|(cases hk;done)|skip
  case int k z=>
   obtain⟨j,h1,_,h2⟩:=yd (show BQ n z (fun j=>fN j fun j=>K (.cons t (.int k (Int.ofNat j)) S)) 0=true from hk)
   rw[ck]at h2
   refine⟨_,⟨s.size,s.defs,fun u=> ?_⟩,h2⟩
   by_cases q:t=u
   ·subst q
    rw[jp]
    rcases s.at_ t with q|⟨x,q1,q2⟩
    ·rw[e]at q;cases q
    ·refine .inr ⟨x,?_,q2⟩
     rw[e]at q1
     rw[←q1,h1]
     rfl
   ·rw[nq _ _ q]
    exact s.at_ u
noncomputable def WM (i q r n:Nat) (M:T) (K:T→Bool):Bool:=gv M i fun g Ty sz els=>dJ (fF els q) fun el=>dJ (fF el r) fun v=>AV.casesOn v false (fun _ _=>K M) (fun _=>false) (fun _=>false) (fun _ _=>false) (fun _ _ _ _=>false) (fun _=>false) false false false false false (fun _ _=>false) (fun _ _=>false) (fun _=>false) (fun _=>false) (fun _=>false) (fun _=>false)
 (fun s=>SY.casesOn s (fun k z=>BQ n z (fun j=>fN j fun j=>ix el r [.int k (Int.ofNat j)] fun e2=>ix els q [e2] fun els2=>T.set cb M i (some (.blk g Ty sz els2)) K) 0) (fun _=>false) (fun _=>false) (fun _ _ _ _ _=>false) (fun _ _ _=>false) (fun _ _=>false) (fun _ _ _ _=>false) (fun _ _ _ _=>false) (fun _ _ _=>false) (fun _=>false))
theorem VL (h:Sim E ρ G F M nx w) {i q r n:Nat} {K:T→Bool} (hk:WM i q r n M K=true):∃M',Sim E ρ G F M' nx w∧K M'=true:=by
 obtain⟨g,Ty,sz,els,h1,hk1⟩:=dA hk
 obtain⟨el,h2,hk2⟩:=bO hk1
 obtain⟨v,h3,hk3⟩:=bO hk2
 clear hk hk1 hk2
 rw[gB]at h2 h3
 cases v<;>first|(cases hk3;done)|exact⟨M,h,hk3⟩|skip
 case sy s'=>
  cases s'<;>first|(cases hk3;done)|skip
  case int k z=>
   obtain⟨j,e1,_,e2⟩:=yd (show BQ n z (fun j=>fN j fun j=>ix el r [.int k (Int.ofNat j)] fun e2=>ix els q [e2] fun els2=>T.set cb M i (some (.blk g Ty sz els2)) K) 0=true from hk3)
   rw[ck]at e2
   obtain⟨e3,l1⟩:=ef e2
   obtain⟨e4,l2⟩:=ef e3
   obtain⟨M2,e5,g1,g2⟩:=T.set_ok _ _ _ _ _ e4
   refine⟨M2,h.swap h1 h2 h3 (v':=.int k (Int.ofNat j)) (fun x hx=> ?_) g1 g2,e5⟩
   rw[←hx,e1]
   rfl
noncomputable def KQ (n:Nat) (z:Int) (K:Nat→Bool) (D:Bool):Nat→Bool:=Nat.rec (fun _=>D) (fun _ ih k=>bn (au (z=Int.ofNat k)) (K k) (ih (Nat.succ k))) n
theorem MB {z:Int} {K:Nat→Bool} {D:Bool}:∀{n k:Nat},KQ n z K D k=true→(∃j:Nat,z=(j:Int)∧K j=true)∨D=true
 |0,k,h=>.inr h
 |n+1,k,h=>by
  have h':bn (au (z=Int.ofNat k)) (K k) (KQ n z K D (Nat.succ k))=true:=h
  rcases lj h' with⟨q,g⟩|⟨_,g⟩
  ·exact .inl ⟨k,q,g⟩
  ·exact MB g
noncomputable def WL (i q r n:Nat) (M:T) (K:T→Bool):Bool:=gv M i fun g Ty sz els=>dJ (fF els q) fun el=>dJ (fF el r) fun v=>AV.casesOn v false (fun _ _=>K M) (fun _=>false) (fun _=>false) (fun _ _=>false) (fun _ _ _ _=>false) (fun _=>false) false false false false false (fun _ _=>false) (fun _ _=>false) (fun _=>false) (fun _=>false) (fun _=>false) (fun _=>false)
 (fun s=>SY.casesOn s (fun k z=>KQ n z (fun j=>fN j fun j=>ix el r [.int k (Int.ofNat j)] fun e2=>ix els q [e2] fun els2=>T.set cb M i (some (.blk g Ty sz els2)) K) (K M) 0) (fun _=>false) (fun _=>false) (fun _ _ _ _ _=>false) (fun _ _ _=>false) (fun _ _=>false) (fun _ _ _ _=>false) (fun _ _ _ _=>false) (fun _ _ _=>false) (fun _=>false))
theorem VK (h:Sim E ρ G F M nx w) {i q r n:Nat} {K:T→Bool} (hk:WL i q r n M K=true):∃M',Sim E ρ G F M' nx w∧K M'=true:=by
 obtain⟨g,Ty,sz,els,h1,hk1⟩:=dA hk
 obtain⟨el,h2,hk2⟩:=bO hk1
 obtain⟨v,h3,hk3⟩:=bO hk2
 clear hk hk1 hk2
 rw[gB]at h2 h3
 cases v<;>first|(cases hk3;done)|exact⟨M,h,hk3⟩|skip
 case sy s'=>
  cases s'<;>first|(cases hk3;done)|skip
  case int k z=>
   rcases MB (show KQ n z (fun j=>fN j fun j=>ix el r [.int k (Int.ofNat j)] fun e2=>ix els q [e2] fun els2=>T.set cb M i (some (.blk g Ty sz els2)) K) (K M) 0=true from hk3) with⟨j,e1,e2⟩|e2
   ·rw[ck]at e2
    obtain⟨e3,l1⟩:=ef e2
    obtain⟨e4,l2⟩:=ef e3
    obtain⟨M2,e5,g1,g2⟩:=T.set_ok _ _ _ _ _ e4
    refine⟨M2,h.swap h1 h2 h3 (v':=.int k (Int.ofNat j)) (fun x hx=> ?_) g1 g2,e5⟩
    rw[←hx,e1]
    rfl
   ·exact⟨M,h,e2⟩
end
inductive Adm:Type 1|can (k:Nat) (live:List Nat)|born (t Ty sz:Nat) (α:Type) (enc:α→List PL)|cell (i q r Ty sz:Nat) (α:Type) (enc:α→List PL)|up (t:Nat)|upc (i q r:Nat)|upm (i:Nat)|fix (t n:Nat)|frz (t:Nat)|fixc (i q r n:Nat)|frzc (i q r:Nat)|fixo (i q r n:Nat)|kb (i:Nat) (ak av:Bool) (α:Type) (kf vf:α→List PL)|die|kfork (i q r:Nat)|bors (t Ty sz:Nat) (α:Type) (enc:α→List PL)|kjoin (i q r:Nat) (ak av:Bool) (α:Type) (kf vf:α→List PL)
noncomputable def gO (l:List Adm):SL→T→Nat→(SL→T→Nat→Bool)→Bool:=List.rec (fun S M nx K=>K S M nx) (fun a _ ih S M nx K=>Adm.casesOn a (fun k live=>abN k live S M fun S M nx=>ih S M nx K) (fun t Ty sz α enc=>KX t Ty sz α enc S M nx fun S M nx=>ih S M nx K) (fun i q r Ty sz α enc=>WV i q r Ty sz α enc M nx fun M nx=>ih S M nx K) (fun t=>upX t S fun S=>ih S M nx K) (fun i q r=>YZ i q r M fun M=>ih S M nx K) (fun i=>YY i M fun M=>ih S M nx K) (fun t n=>VM t n S fun S=>ih S M nx K) (fun t=>Rh (cu t S) M fun v M=>ih (.cons t v S) M nx K) (fun i q r n=>WM i q r n M fun M=>ih S M nx K) (fun i q r=>WK i q r M fun M=>ih S M nx K) (fun i q r n=>WL i q r n M fun M=>ih S M nx K) (fun i ak av α kf vf=>kbX i ak av α kf vf M fun M=>ih S M nx K) false (fun i q r=>Tl i q r M fun M=>ih S M nx K) (fun t Ty sz α enc=>bn (fp (cu t S)) (ih S M nx K) (KX t Ty sz α enc S M nx fun S M nx=>ih S M nx K)) (fun i q r ak av α kf vf=>Tj i q r ak av α kf vf M nx fun M nx=>ih S M nx K)) l
noncomputable def Cv (l:List (Nat×List Adm)) (e:Nat):List Adm:=List.rec [] (fun p _ ih=>Bool.rec ih p.2 (Nat.beq p.1 e)) l
noncomputable def Qn (S:SL):Nat:=AV.casesOn (cu 0 S) 0 (fun _ z=>Int.casesOn z (fun n=>Nat.succ n) (fun _=>0)) (fun _=>0) (fun _=>0) (fun _ _=>0) (fun _ _ _ _=>0) (fun _=>0) 0 0 0 0 0 (fun _ _=>0) (fun _ _=>0) (fun _=>0) (fun _=>0) (fun _=>0) (fun _=>0) (fun _=>0)
noncomputable def abr (l:List (Nat×List Adm)) (e:Nat):Bool:=List.rec false (fun p _ ih=>Bool.rec ih true (Nat.beq p.1 e)) l
noncomputable def IU (l:List (Nat×List Adm)) (e:Nat) (S:SL):List Adm:=Bool.rec (Cv l e) (Cv l (Nat.add e (Nat.mul 1000 (Qn S)))) (abr l (Nat.add e (Nat.mul 1000 (Qn S))))
inductive XC:Type 1|bad|skip|ret|exit (k:Nat)|reg (draw:Bool) (n:Nat) (tr:XTr)|seq (x y:XC)|cond (p:XP) (x y:XC)|block (k:Nat) (c:XC)|loop (live:List Nat) (c:XC)|inv (j:Nat) (c:XC)|aft (x:XC) (l:List (Nat×List Adm))|pre (l:List Adm) (x:XC)|spc (j:Nat) (x:XC)
abbrev KC:=Nat→SL→T→Nat→Bool
noncomputable def frc (v:AV) (K0:Bool) (K:AV→Bool):Bool:=AV.casesOn v K0 (fun k z=>K (.int k z)) (fun b=>K (.bool b)) (fun l=>K (.str l)) (fun i o=>K (.ptr i o)) (fun i o n c=>K (.sl i o n c)) (fun i=>K (.map i)) (K .nilP) (K .nilS) (K .nilM) (K .nilF) (K .nilI) (fun t v=>K (.iface t v)) (fun f c=>K (.fn f c)) (fun i=>K (.yl i)) (fun l=>K (.agg l)) (fun l=>K (.tup l)) (fun i=>K (.any i)) (fun s=>K (.sy s))
theorem abs {v:AV} {K0:Bool} {K:AV→Bool} (h:frc v K0 K=true):(v= .bad∧K0=true)∨K v=true:=by
 cases v<;>first|exact .inr h|exact .inl ⟨rfl,h⟩
noncomputable def GB (S:SL) (live:List Nat):SL→(SL→Bool)→Bool:=List.rec (fun acc K=>K acc) (fun t _ ih acc K=>frc (cu t S) (ih acc K) fun v=>ih (.cons t v acc) K) live
noncomputable def WT (p:XP) (S:SL) (K:Bool→SL→Bool):Bool:=XP.casesOn p (fun n=>Id n S K) (fun v=>PK v fun b=>K b S) (fun _=>false)
abbrev ft:=Nat→SL→T→Nat→KC→Bool
noncomputable def cQ (cf:kX) (lp:ft) (lf:Nat) (c:XC):SL→T→Nat→KC→Bool:=XC.rec
 (fun _ _ _ _=>false) (fun S M nx K=>K 0 S M nx) (fun S M nx K=>K 1 S M nx) (fun k S M nx K=>K k S M nx)
 (fun _ _ tr S M nx K=>KJ cf tr S M nx fun S M nx=>K 0 S M nx)
 (fun _ _ ihx ihy S M nx K=>ihx S M nx fun e S M nx=>Nat.casesOn e (ihy S M nx K) fun e'=>K (Nat.succ e') S M nx)
 (fun p _ _ ihx ihy S M nx K=>WT p S fun b S=>bn b (ihx S M nx K) (ihy S M nx K))
 (fun k _ ih S M nx K=>ih S M nx fun e S M nx=>bn (Nat.beq e k) (K 0 S M nx) (K e S M nx))
 (fun live _ ih S M nx K=>Nat.rec (motive:=fun _=>SL→T→Nat→Bool) (fun _ _ _=>false) (fun _ js S M nx=>GB S live .nil fun S=>ih S M nx fun e S M nx=>Nat.casesOn e (js S M nx) fun e'=>K (Nat.succ e') S M nx) lf S M nx)
 (fun j _ _ S M nx K=>lp j S M nx K)
 (fun _ l ih S M nx K=>ih S M nx fun e S M nx=>gO (IU l e S) S M nx (K e))
 (fun l _ ih S M nx K=>gO l S M nx fun S M nx=>ih S M nx K)
 (fun j _ _ S M nx K=>lp j S M nx K) c
def IM:Nat→Exit
 |0=>.normal|1=>.ret|n+2=>.exit n
def GD:List XSt→Bool
 |[]=>true
 |.a ..::_=>false
 |_::r=>GD r
def gR (P:Program) (N:Nat):XC→Code→Bool
 |.bad,_=>true
 |.skip,.skip=>true
 |.ret,.ret=>true
 |.exit k,.exit i=>Nat.beq k (i+2)
 |.reg draw n tr,.region _ ops d=>decide (draw=d)&&Hq P ops N tr&&(match draw,tr with|true,_=>CO ops n [] (Qd tr)|false,.leaf sts=>GD sts&&Nat.beq ops.size n&&decide ((sts.map fun s=>(zW s).1)=List.range n)|_,_=>false)
 |.seq x y,.seq a b=>gR P N x a&&gR P N y b
 |.cond p x y,.cond c a b=>cE p c&&gR P N x a&&gR P N y b
 |.block k c,.block i a=>Nat.beq k (i+2)&&gR P N c a
 |.loop _ c,.loop a=>gR P N c a
 |.inv _ c,.loop a=>gR P N c a
 |.aft x _,c=>gR P N x c
 |.pre _ x,c=>gR P N x c
 |.spc _ x,c=>gR P N x c
 |_,_=>false
def plain:XC→Bool
 |.seq x y=>plain x&&plain y
 |.cond _ x y=>plain x&&plain y
 |.block _ c=>plain c
 |.loop _ c=>plain c
 |.inv ..|.aft ..|.pre ..|.spc ..=>false
 |_=>true
def gL:XC→List (Bool×Nat×XC)
 |.seq x y=>gL x++gL y
 |.cond _ x y=>gL x++gL y
 |.block _ c=>gL c
 |.loop _ c=>gL c
 |.inv j c=>[(true,j,c)]
 |.aft x _=>gL x
 |.pre _ x=>gL x
 |.spc j x=>[(false,j,x)]
 |_=>[]
section
variable {P:Program} {E:Env} {ρ:Ren} {G:GS} {F:List aH} {M:T} {nx:Nat} {w:World} {N:Nat} {S:SL} {a:Act} {ops:Array Oper} {o:Oper}
theorem VW (s:SR E ρ N S a) {p:XP} {c:Operand} {K:Bool→SL→Bool} (ho:cE p c=true) (h:WT p S K=true):∃b S',a.eval c= .bool b∧SR E ρ N S' a∧K b S'=true:=by
 cases p with
 |t n=>
  cases c<;>simp only[cE]at ho<;>first|(cases ho;done)|skip
  have:=acG ho
  subst this
  obtain⟨b,S',h1,h2,h3⟩:=OR s (show Id n S K=true from h)
  exact⟨b,S',h1,h2,h3⟩
 |c v=>
  cases c<;>simp only[cE]at ho<;>first|(cases ho;done)|skip
  have hd:=yc (E:=E) (ρ:=ρ) ho
  obtain⟨b,rfl,h1⟩:=HA (show PK v (fun b=>K b S)=true from h)
  cases hd
  exact⟨b,S,rfl,s,h1⟩
 |f n=>cases h
theorem ER (s:SR E ρ N S a):∀{live:List Nat} {acc:SL} {K:SL→Bool},SR E ρ N acc a→GB S live acc K=true→∃S',SR E ρ N S' a∧K S'=true
 |[],acc,K,sa,h=>⟨acc,sa,h⟩
 |t::live,acc,K,sa,h=>by
  have h':frc (cu t S) (GB S live acc K) (fun v=>GB S live (.cons t v acc) K)=true:=h
  rcases abs h' with⟨_,h1⟩|h1
  ·exact ER s sa h1
  ·refine ER s ⟨sa.size,sa.defs,fun u=> ?_⟩ h1
   by_cases e:t=u
   ·subst e
    rw[jp]
    exact s.at_ t
   ·rw[nq _ _ e]
    exact sa.at_ u
theorem SR.nil (h1:a.tmps.size=N) (h2:a.defers=[]):SR E ρ N .nil a:=⟨h1,h2,fun _=>.inl rfl⟩
theorem tK {Q:Exit→Act→World→Prop}:∀{sts:List XSt} {a:Act} {w:World},GD sts=true→qy P ops (fun a w=>Q .normal a w) (sts.map zW) a w→wpOps P ops Q (sts.map fun s=>(zW s).1) a w
 |[],_,_,_,h=>h
 |.p i d g x::r,a,w,hn,⟨v,h1,h2⟩=>by
  rw[acJ,wpOps_cons]
  exact CV ((h1 w).to (tK (Q:=Q) (by simpa[GD] using hn) h2))
 |.r i d g x::r,a,w,hn,⟨v,h1,h2⟩=>by
  rw[acJ,wpOps_cons]
  exact CV (h1.to (tK (Q:=Q) (by simpa[GD] using hn) h2))
 |.e i d g x::r,a,w,hn,h=>by
  rw[acJ,wpOps_cons]
  exact CV (op1.mono h fun a w h=>tK (Q:=Q) (by simpa[GD] using hn) h)
 |.c i d g f xs::r,a,w,hn,h=>by
  rw[acJ,wpOps_cons]
  exact CV (op1.mono h fun a w h=>tK (Q:=Q) (by simpa[GD] using hn) h)
 |.k i d g t f xs::r,a,w,hn,h=>by
  rw[acJ,wpOps_cons]
  exact CV (op1.mono h fun a w h=>tK (Q:=Q) (by simpa[GD] using hn) h)
 |.a i d g x::r,a,w,hn,h=>by simp[GD]at hn
structure Rel (fl:Bool) (pk:Nat) (E:Env) (ρ:Ren) (E':Env) (ρ':Ren):Prop where
 one:fM E'
 mem:MLe E.M E'.M
 ext:fl=true→Ext E ρ E' ρ'
 pin:∀i e,i<pk→ρ i=some e→ρ' i=some e
theorem Ext.rel {fl:Bool} {pk:Nat} {E':Env} {ρ':Ren} (h:Ext E ρ E' ρ'):Rel fl pk E ρ E' ρ':=⟨h.one,h.env.mem,fun _=>h,fun i e _ q=>h.le i e q⟩
theorem Rel.trans {fl:Bool} {pk:Nat} {E1 E2 E3:Env} {r1 r2 r3:Ren} (h:Rel fl pk E1 r1 E2 r2) (k:Rel fl pk E2 r2 E3 r3):Rel fl pk E1 r1 E3 r3:=⟨k.one,MLe.trans h.mem k.mem,fun q=>(h.ext q).trans (k.ext q),fun i e q1 q2=>k.pin i e q1 (h.pin i e q1 q2)⟩
theorem Rel.next {pk:Nat} {E1 E2:Env} {r1 r2 r3:Ren} (h:Rel false pk E1 r1 E2 r2) (k:∀i e,i<pk→r2 i=some e→r3 i=some e):Rel false pk E1 r1 E2 r3:=⟨h.one,h.mem,fun q=>(by cases q),fun i e q1 q2=>k i e q1 (h.pin i e q1 q2)⟩
theorem Rel.prev {pk:Nat} {E1 E2:Env} {r1 r2 r3:Ren} (h:Rel false pk E1 r2 E2 r3) (k:∀i e,i<pk→r1 i=some e→r2 i=some e):Rel false pk E1 r1 E2 r3:=⟨h.one,h.mem,fun q=>(by cases q),fun i e q1 q2=>h.pin i e q1 (k i e q1 q2)⟩
def df (pk:Nat):List Adm→Bool
 |[]=>true
 |.can k _::l=>Nat.ble pk k&&df pk l
 |.born ..::l=>df pk l
 |.cell ..::l=>df pk l
 |.up _::l=>df pk l
 |.upc ..::l=>df pk l
 |.upm _::l=>df pk l
 |.fix ..::l=>df pk l
 |.frz _::l=>df pk l
 |.fixc ..::l=>df pk l
 |.frzc ..::l=>df pk l
 |.fixo ..::l=>df pk l
 |.kb ..::l=>df pk l
 |.die::l=>df pk l
 |.kfork ..::l=>df pk l
 |.bors ..::l=>df pk l
 |.kjoin ..::l=>df pk l
def KN (pk:Nat):List (Nat×List Adm)→Bool
 |[]=>true
 |p::l=>df pk p.2&&KN pk l
def iQ (pk:Nat):XC→Bool
 |.seq x y=>iQ pk x&&iQ pk y
 |.cond _ x y=>iQ pk x&&iQ pk y
 |.block _ c=>iQ pk c
 |.loop _ c=>iQ pk c
 |.aft x l=>iQ pk x&&KN pk l
 |.pre l x=>df pk l&&iQ pk x
 |_=>true
theorem Fv {pk:Nat}:∀{l:List (Nat×List Adm)} {e:Nat},KN pk l=true→df pk (Cv l e)=true
 |[],e,_=>rfl
 |p::l,e,h=>by
  obtain⟨h1,h2⟩:=bc h
  have:Cv (p::l) e=(Bool.rec (Cv l e) p.2 (Nat.beq p.1 e):List Adm):=rfl
  rw[this]
  cases Nat.beq p.1 e
  ·exact Fv h2
  ·exact h1
theorem Tm {pk:Nat} {l:List (Nat×List Adm)} {e:Nat} {S:SL} (h:KN pk l=true):df pk (IU l e S)=true:=by
 unfold IU
 cases abr l (Nat.add e (Nat.mul 1000 (Qn S)))
 ·exact Fv h
 ·exact Fv h
theorem dW {pk:Nat}:∀{l:List Adm} {S:SL} {M:T} {nx:Nat} {E:Env} {ρ:Ren} {K:SL→T→Nat→Bool},fM E→df pk l=true→SR E ρ N S a→Sim E ρ G F M nx w→gO l S M nx K=true→∃S' M' nx' E' ρ',fM E'∧MLe E.M E'.M∧SR E' ρ' N S' a∧Sim E' ρ' G F M' nx' w∧K S' M' nx'=true∧∀i e,i<pk→ρ i=some e→ρ' i=some e
 |[],S,M,nx,E,ρ,K,hE,_,s,h,hk=>⟨S,M,nx,E,ρ,hE,MLe.refl _,s,h,hk,fun _ _ _ q=>q⟩
 |.can k live::l,S,M,nx,E,ρ,K,hE,hp,s,h,hk=>by
  obtain⟨hp1,hp2⟩:=bc hp
  rw[Nat.ble_eq]at hp1
  obtain⟨S1,M1,n1,ρ1,s1,h1,k1,p1⟩:=YD (K:=fun S M nx=>gO l S M nx K) s h hk
  obtain⟨S2,M2,n2,E2,ρ2,o2,m2,s2,h2,k2,p2⟩:=dW hE hp2 s1 h1 k1
  exact⟨S2,M2,n2,E2,ρ2,o2,m2,s2,h2,k2,fun i e q1 q2=>p2 i e q1 (p1 i e (Nat.lt_of_lt_of_le q1 hp1) q2)⟩
 |.born t Ty sz α enc::l,S,M,nx,E,ρ,K,hE,hp,s,h,hk=>by
  obtain⟨S1,M1,n1,ρ1,le1,s1,h1,k1⟩:=Ng (K:=fun S M nx=>gO l S M nx K) s h hk
  obtain⟨S2,M2,n2,E2,ρ2,o2,m2,s2,h2,k2,p2⟩:=dW hE (show df pk l=true from hp) s1 h1 k1
  exact⟨S2,M2,n2,E2,ρ2,o2,m2,s2,h2,k2,fun i e q1 q2=>p2 i e q1 (le1 i e q2)⟩
 |.cell i q r Ty sz α enc::l,S,M,nx,E,ρ,K,hE,hp,s,h,hk=>by
  obtain⟨M1,n1,ρ1,le1,h1,k1⟩:=VY (K:=fun M nx=>gO l S M nx K) h hk
  obtain⟨S2,M2,n2,E2,ρ2,o2,m2,s2,h2,k2,p2⟩:=dW hE (show df pk l=true from hp) (s.mono le1) h1 k1
  exact⟨S2,M2,n2,E2,ρ2,o2,m2,s2,h2,k2,fun i e q1 q2=>p2 i e q1 (le1 i e q2)⟩
 |.up t::l,S,M,nx,E,ρ,K,hE,hp,s,h,hk=>by
  obtain⟨S1,s1,k1⟩:=Za (K:=fun S=>gO l S M nx K) s hk
  exact dW hE (show df pk l=true from hp) s1 h k1
 |.upc i q r::l,S,M,nx,E,ρ,K,hE,hp,s,h,hk=>by
  obtain⟨M1,h1,k1⟩:=Xp (K:=fun M=>gO l S M nx K) h hk
  exact dW hE (show df pk l=true from hp) s h1 k1
 |.upm i::l,S,M,nx,E,ρ,K,hE,hp,s,h,hk=>by
  obtain⟨M1,h1,k1⟩:=Xn (K:=fun M=>gO l S M nx K) h hk
  exact dW hE (show df pk l=true from hp) s h1 k1
 |.kb i ak av α kf vf::l,S,M,nx,E,ρ,K,hE,hp,s,h,hk=>by
  obtain⟨M1,h1,k1⟩:=Tn (K:=fun M=>gO l S M nx K) h hk
  exact dW hE (show df pk l=true from hp) s h1 k1
 |.kfork i q r::l,S,M,nx,E,ρ,K,hE,hp,s,h,hk=>by
  obtain⟨M1,h1,k1⟩:=Tk (K:=fun M=>gO l S M nx K) h hk
  exact dW hE (show df pk l=true from hp) s h1 k1
 |.kjoin i q r ak av α kf vf::l,S,M,nx,E,ρ,K,hE,hp,s,h,hk=>by
  obtain⟨M1,n1,ρ1,le1,h1,k1⟩:=Ti (K:=fun M nx=>gO l S M nx K) h hk
  obtain⟨S2,M2,n2,E2,ρ2,o2,m2,s2,h2,k2,p2⟩:=dW hE (show df pk l=true from hp) (s.mono le1) h1 k1
  exact⟨S2,M2,n2,E2,ρ2,o2,m2,s2,h2,k2,fun i e q1 q2=>p2 i e q1 (le1 i e q2)⟩
 |.bors t Ty sz α enc::l,S,M,nx,E,ρ,K,hE,hp,s,h,hk=>by
  rcases bh (show bn (fp (cu t S)) (gO l S M nx K) (KX t Ty sz α enc S M nx fun S M nx=>gO l S M nx K)=true from hk) with⟨_,hk⟩|⟨_,hk⟩
  ·exact dW hE (show df pk l=true from hp) s h hk
  obtain⟨S1,M1,n1,ρ1,le1,s1,h1,k1⟩:=Ng (K:=fun S M nx=>gO l S M nx K) s h hk
  obtain⟨S2,M2,n2,E2,ρ2,o2,m2,s2,h2,k2,p2⟩:=dW hE (show df pk l=true from hp) s1 h1 k1
  exact⟨S2,M2,n2,E2,ρ2,o2,m2,s2,h2,k2,fun i e q1 q2=>p2 i e q1 (le1 i e q2)⟩
 |.die::l,S,M,nx,E,ρ,K,hE,hp,s,h,hk=>by cases(show false=true from hk)
 |.fix t n::l,S,M,nx,E,ρ,K,hE,hp,s,h,hk=>by
  obtain⟨S1,s1,k1⟩:=Ys (K:=fun S=>gO l S M nx K) s hk
  exact dW hE (show df pk l=true from hp) s1 h k1
 |.frz t::l,S,M,nx,E,ρ,K,hE,hp,s,h,hk=>by
  have hk':(Rh (cu t S) M fun v M=>gO l (.cons t v S) M nx K)=true:=hk
  have hne:cu t S≠ .bad:=fun e=>by rw[e]at hk';cases hk'
  obtain⟨x,q1,q2⟩:=(s.at_ t).resolve_left hne
  obtain⟨E1,M1,u,e1,e2,e3,e4,k1⟩:=Pw h q1 hk'
  have hE1:fM E1:=⟨fun i=>by rw[e2];exact hE.1 i,Tied.mono e1.mem hE.2⟩
  have s1:SR E1 ρ N (.cons t u S) a:=⟨s.size,s.defs,fun r=>by
   by_cases q:t=r
   ·subst q
    rw[jp]
    exact .inr ⟨x,iL (ρ:=fun _=>none) (fun _ _ q=>by cases q) u x e4,q2⟩
   ·rw[nq _ _ q]
    exact(s.at_ r).imp id fun⟨y,y1,y2⟩=>⟨y,ph e1 _ _ y1,y2⟩⟩
  obtain⟨S2,M2,n2,E2,ρ2,o2,m2,s2,h2,k2,p2⟩:=dW hE1 (show df pk l=true from hp) s1 e3 k1
  exact⟨S2,M2,n2,E2,ρ2,o2,MLe.trans e1.mem m2,s2,h2,k2,p2⟩
 |.frzc i q r::l,S,M,nx,E,ρ,K,hE,hp,s,h,hk=>by
  obtain⟨E1,M1,e1,e2,h1,k1⟩:=VH (K:=fun M=>gO l S M nx K) h hk
  have hE1:fM E1:=⟨fun i=>by rw[e2];exact hE.1 i,Tied.mono e1.mem hE.2⟩
  have s1:SR E1 ρ N S a:=⟨s.size,s.defs,fun r=>(s.at_ r).imp id fun⟨y,y1,y2⟩=>⟨y,ph e1 _ _ y1,y2⟩⟩
  obtain⟨S2,M2,n2,E2,ρ2,o2,m2,s2,h2,k2,p2⟩:=dW hE1 (show df pk l=true from hp) s1 h1 k1
  exact⟨S2,M2,n2,E2,ρ2,o2,MLe.trans e1.mem m2,s2,h2,k2,p2⟩
 |.fixo i q r n::l,S,M,nx,E,ρ,K,hE,hp,s,h,hk=>by
  obtain⟨M1,h1,k1⟩:=VK (K:=fun M=>gO l S M nx K) h hk
  exact dW hE (show df pk l=true from hp) s h1 k1
 |.fixc i q r n::l,S,M,nx,E,ρ,K,hE,hp,s,h,hk=>by
  obtain⟨M1,h1,k1⟩:=VL (K:=fun M=>gO l S M nx K) h hk
  exact dW hE (show df pk l=true from hp) s h1 k1
def dI (P:Program) (N pk:Nat) (lp:ft) (b:Bool) (j:Nat) (x:XC):Prop:=∀(c:Code) (S:SL) (M:T) (nx:Nat) (E:Env) (ρ:Ren) (G:GS) (F:List aH) (a:Act) (w:World) (K:KC) (Q:Exit→Act→World→Prop),fM E→gR P N x c=true→SR E ρ N S a→Sim E ρ G F M nx w→lp j S M nx K=true→
 (∀e S' M' nx' E' ρ' a' w',K e S' M' nx'=true→Rel false pk E ρ E' ρ'→SR E' ρ' N S' a'→Sim E' ρ' G F M' nx' w'→Q (IM e) a' w')→(bif b then Code.loop c else c).wp P Q a w
theorem MZ (hm:P.follows .mixedOrders=true) {cf:kX} (hcf:mL P cf) {lp:ft} {lf:Nat} {fl:Bool} {pk:Nat}:∀(xc:XC) (c:Code) {S:SL} {M:T} {nx:Nat} {E:Env} {ρ:Ren} {a:Act} {w:World} {K:KC} {Q:Exit→Act→World→Prop},fM E→(fl=true→plain xc=true)→iQ pk xc=true→(∀b j x,(b,j,x)∈gL xc→dI P N pk lp b j x)→gR P N xc c=true→SR E ρ N S a→Sim E ρ G F M nx w→cQ cf lp lf xc S M nx K=true→
  (∀e S' M' nx' E' ρ' a' w',K e S' M' nx'=true→Rel fl pk E ρ E' ρ'→SR E' ρ' N S' a'→Sim E' ρ' G F M' nx' w'→Q (IM e) a' w')→c.wp P Q a w:=by
 intro xc
 induction xc with
 |bad=>
  intro c S M nx E ρ a w K Q hE hfl hkp hlp hc s h hk hq
  cases hk
 |skip=>
  intro c S M nx E ρ a w K Q hE hfl hkp hlp hc s h hk hq
  cases c<;>simp only[gR]at hc<;>first|(cases hc;done)|skip
  exact wp_skip (hq 0 _ _ _ _ _ _ _ hk (Ext.of hE (Ren.Le.refl _)).rel s h)
 |ret=>
  intro c S M nx E ρ a w K Q hE hfl hkp hlp hc s h hk hq
  cases c<;>simp only[gR]at hc<;>first|(cases hc;done)|skip
  exact wp_ret (hq 1 _ _ _ _ _ _ _ hk (Ext.of hE (Ren.Le.refl _)).rel s h)
 |exit k=>
  intro c S M nx E ρ a w K Q hE hfl hkp hlp hc s h hk hq
  cases c<;>simp only[gR]at hc<;>first|(cases hc;done)|skip
  have:=acG hc
  subst this
  exact wp_exit (hq _ _ _ _ _ _ _ _ hk (Ext.of hE (Ren.Le.refl _)).rel s h)
 |reg draw n tr=>
  intro c S M nx E ρ a w K Q hE hfl hkp hlp hc s h hk hq
  cases c<;>simp only[gR]at hc<;>first|(cases hc;done)|skip
  rename_i id ops d
  obtain⟨hc,c3⟩:=bc hc
  obtain⟨c1,c2⟩:=bc hc
  rw[decide_eq_true_eq]at c1
  subst c1
  cases draw with
  |true=>
   refine HQ hm n _ c3 ?_
   exact EA hE hcf s h.drawn (fun S' M' nx' E' ρ' a' w' k1 k2 k3 k4=>hq 0 _ _ _ _ _ _ _ k1 k2.rel k3 k4) c2 hk
  |false=>
   cases tr with
   |split x y t u=>cases c3
   |leaf sts=>
    have hall:∀st∈sts,tH P ops N st=true:=fun st hst=>List.all_eq_true.1 c2 st hst
    obtain⟨hc,c5⟩:=bc c3
    obtain⟨c3,c4⟩:=bc hc
    rw[decide_eq_true_eq]at c5
    have c4:=acG c4
    refine wp_region ?_
    rw[c4,←c5]
    exact tK c3 (Ic hcf hE hall s h hk fun S' M' nx' E' ρ' a' w' k1 k2 k3 k4=>hq 0 _ _ _ _ _ _ _ k1 k2.rel k3 k4)
 |seq x y ihx ihy=>
  intro c S M nx E ρ a w K Q hE hfl hkp hlp hc s h hk hq
  cases c<;>simp only[gR]at hc<;>first|(cases hc;done)|skip
  obtain⟨c1,c2⟩:=bc hc
  refine wp_seq (ihx _ hE (fun q=>(bc (hfl q)).1) (bc hkp).1 (fun b j x h=>hlp b j x (List.mem_append.2 (.inl h))) c1 s h hk fun e S' M' nx' E' ρ' a' w' k1 k2 k3 k4=> ?_)
  match e,k1 with
  |0,k1=>exact ihy _ k2.one (fun q=>(bc (hfl q)).2) (bc hkp).2 (fun b j x h=>hlp b j x (List.mem_append.2 (.inr h))) c2 k3 k4 k1 fun e S2 M2 nx2 E2 ρ2 a2 w2 j1 j2=>hq e _ _ _ _ _ _ _ j1 (k2.trans j2)
  |1,k1=>exact hq 1 _ _ _ _ _ _ _ k1 k2 k3 k4
  |n+2,k1=>exact hq (n+2) _ _ _ _ _ _ _ k1 k2 k3 k4
 |cond p x y ihx ihy=>
  intro c S M nx E ρ a w K Q hE hfl hkp hlp hc s h hk hq
  cases c<;>simp only[gR]at hc<;>first|(cases hc;done)|skip
  obtain⟨hc,c3⟩:=bc hc
  obtain⟨c1,c2⟩:=bc hc
  obtain⟨b,S,h2,s,h4⟩:=VW s c1 hk
  rcases bh h4 with⟨rfl,h5⟩|⟨rfl,h5⟩
  ·exact wp_cond_true h2 (ihx _ hE (fun q=>(bc (hfl q)).1) (bc hkp).1 (fun b j x h=>hlp b j x (List.mem_append.2 (.inl h))) c2 s h h5 hq)
  ·exact wp_cond_false h2 (ihy _ hE (fun q=>(bc (hfl q)).2) (bc hkp).2 (fun b j x h=>hlp b j x (List.mem_append.2 (.inr h))) c3 s h h5 hq)
 |block k x ih=>
  intro c S M nx E ρ a w K Q hE hfl hkp hlp hc s h hk hq
  cases c<;>simp only[gR]at hc<;>first|(cases hc;done)|skip
  rename_i i cc
  obtain⟨c1,c2⟩:=bc hc
  have c1:=acG c1
  subst c1
  refine wp_block (ih _ hE hfl hkp hlp c2 s h hk fun e S' M' nx' E' ρ' a' w' k1 k2 k3 k4=> ?_)
  rcases bh k1 with⟨q,g1⟩|⟨q,g1⟩
  ·have he:=acG q
   have h0:=hq 0 _ _ _ _ _ _ _ g1 k2 k3 k4
   rw[he]
   simp only[IM,Exit.inBlock,if_true]
   exact h0
  ·have:=hq e _ _ _ _ _ _ _ g1 k2 k3 k4
   match e,q,this with
   |0,_,this=>exact this
   |1,_,this=>exact this
   |n+2,q,this=>
    have hne:¬n=i:=fun e=>by subst e;simp at q
    simp only[IM,Exit.inBlock,if_neg hne]
    exact this
 |loop live x ih=>
  intro c S M nx E ρ a w K Q hE hfl hkp hlp hc s h hk hq
  cases c<;>simp only[gR]at hc<;>first|(cases hc;done)|skip
  rename_i cc
  refine wp_loop_rounds lf ?_
  have key:∀(n:Nat) {S:SL} {M:T} {nx:Nat} {E:Env} {ρ:Ren} {a:Act} {w:World},fM E→SR E ρ N S a→Sim E ρ G F M nx w→
    (Nat.rec (motive:=fun _=>SL→T→Nat→Bool) (fun _ _ _=>false) (fun _ js S M nx=>GB S live .nil fun S=>cQ cf lp lf x S M nx fun e S M nx=>Nat.casesOn e (js S M nx) fun e'=>K (Nat.succ e') S M nx) n S M nx)=true→
    (∀e S' M' nx' E' ρ' a' w',K e S' M' nx'=true→Rel fl pk E ρ E' ρ'→SR E' ρ' N S' a'→Sim E' ρ' G F M' nx' w'→Q (IM e) a' w')→Code.rounds P cc Q n a w:=by
   intro n
   induction n with
   |zero=>intro S M nx E ρ a w _ _ _ hk;cases hk
   |succ n ihn=>
    intro S M nx E ρ a w hE s h hk hq
    obtain⟨S1,s1,hk1⟩:=ER s (SR.nil s.size s.defs) hk
    refine ih _ hE hfl hkp hlp hc s1 h hk1 fun e S' M' nx' E' ρ' a' w' k1 k2 k3 k4=> ?_
    match e,k1 with
    |0,k1=>exact ihn k2.one k3 k4 k1 fun e S2 M2 nx2 E2 ρ2 a2 w2 j1 j2=>hq e _ _ _ _ _ _ _ j1 (k2.trans j2)
    |1,k1=>exact hq 1 _ _ _ _ _ _ _ k1 k2 k3 k4
    |m+2,k1=>exact hq (m+2) _ _ _ _ _ _ _ k1 k2 k3 k4
  exact key lf hE s h hk hq
 |inv j x ih=>
  intro c S M nx E ρ a w K Q hE hfl hkp hlp hc s h hk hq
  cases c<;>simp only[gR]at hc<;>first|(cases hc;done)|skip
  cases fl with
  |true=>exact absurd (hfl rfl) (by simp[plain])
  |false=>exact hlp true j x (by simp[gL]) _ S M nx E ρ G F a w K Q hE hc s h hk hq
 |aft x l ih=>
  intro c S M nx E ρ a w K Q hE hfl hkp hlp hc s h hk hq
  cases fl with
  |true=>exact absurd (hfl rfl) (by simp[plain])
  |false=>
   have hc':gR P N x c=true:=by
    cases c<;>exact hc
   refine ih c hE (fun q=>by cases q) (bc hkp).1 hlp hc' s h hk fun e S' M' nx' E' ρ' a' w' k1 k2 k3 k4=> ?_
   obtain⟨S2,M2,n2,E2,ρ2,o2,m2,s2,h2,g2,p2⟩:=dW k2.one (Tm (bc hkp).2) k3 k4 k1
   exact hq e S2 M2 n2 E2 ρ2 a' w' g2 (k2.trans ⟨o2,m2,fun q=>(by cases q),p2⟩) s2 h2
 |pre l x ih=>
  intro c S M nx E ρ a w K Q hE hfl hkp hlp hc s h hk hq
  cases fl with
  |true=>exact absurd (hfl rfl) (by simp[plain])
  |false=>
   have hc':gR P N x c=true:=by
    cases c<;>exact hc
   obtain⟨S2,M2,n2,E2,ρ2,o2,m2,s2,h2,g2,p2⟩:=dW (K:=fun S M nx=>cQ cf lp lf x S M nx K) hE (bc hkp).1 s h hk
   exact ih c o2 (fun q=>by cases q) (bc hkp).2 hlp hc' s2 h2 g2 fun e S' M' nx' E' ρ' a' w' k1 k2 k3 k4=>hq e S' M' nx' E' ρ' a' w' k1 (Rel.trans ⟨o2,m2,fun q=>(by cases q),p2⟩ k2) k3 k4
 |spc j x ih=>
  intro c S M nx E ρ a w K Q hE hfl hkp hlp hc s h hk hq
  cases fl with
  |true=>exact absurd (hfl rfl) (by simp[plain])
  |false=>
   have hc':gR P N x c=true:=by
    cases c<;>exact hc
   exact hlp false j x (by simp[gL]) c S M nx E ρ G F a w K Q hE hc' s h hk hq
end
inductive XRes|none|one (t:Nat)|two (t u:Nat)|cell (t:Nat) (agg:Bool) (n:Nat)|ct (t:Nat) (agg:Bool) (n u:Nat)
inductive XF:Type 1|mk (N:Nat) (res:XRes) (body:XC)
noncomputable def Ln (r:XRes) (S:SL) (M:T) (K:AV→Bool):Bool:=XRes.casesOn r (K (.tup [])) (fun t=>nb (cu t S) K) (fun t u=>nb (cu t S) fun x=>nb (cu u S) fun y=>K (.tup [x,y])) (fun t agg n=>nb (cu t S) fun p=>Pf agg n p M K) (fun t agg n u=>nb (cu t S) fun p=>Pf agg n p M fun v=>nb (cu u S) fun y=>K (.tup [v,y]))
noncomputable def DE (vs:List AV):Nat→SL→(SL→Bool)→Bool:=List.rec (fun _ S K=>K S) (fun v _ ih n S K=>ih (Nat.succ n) (.cons n v S) K) vs
def Nb (P:Program) (r:XRes) (rs:List ResultVar):Bool:=match r,rs with
 |.none,[]=>true
 |.one t,[.tmp t']=>Nat.beq t t'
 |.two t u,[.tmp t',.tmp u']=>Nat.beq t t'&&Nat.beq u u'
 |.cell t agg n,[.cell t' ty]=>Nat.beq t t'&&decide (ia P ty=some agg)&&decide (cj P ty=some n)
 |.ct t agg n u,[.cell t' ty,.tmp u']=>Nat.beq t t'&&decide (ia P ty=some agg)&&decide (cj P ty=some n)&&Nat.beq u u'
 |_,_=>false
def mF:XF→XC
 |.mk _ _ b=>b
def nOf:XF→Nat
 |.mk n _ _=>n
def bT (P:Program) (f:Nat) (xf:XF):Bool:=match xf,P.funcs[f]? with
 |.mk N res body,some fn=>(match fn.body with|some c=>Nat.beq fn.ntmps N&&Nb P res fn.results.toList&&gR P N body c|none=>false)
 |_,none=>false
abbrev dC:=List AV→T→Nat→(AV→T→Nat→Bool)→Bool
inductive ES:Type 1|mk (k:Nat) (sp:dC)
noncomputable def fP (l:List (Nat×Nat)):(List (Nat×Nat)→Bool)→Bool:=List.rec (fun K=>K []) (fun p _ ih K=>fN p.1 fun a=>fN p.2 fun b=>ih fun l=>K ((a,b)::l)) l
theorem KT:∀{l:List (Nat×Nat)} {K:List (Nat×Nat)→Bool},fP l K=K l
 |[],K=>rfl
 |p::l,K=>by
  have:fP (p::l) K=(fN p.1 fun a=>fN p.2 fun b=>fP l fun l=>K ((a,b)::l)):=rfl
  rw[this,ck,ck,KT]
def Nl (n:Nat) (ps:List (Nat×Nat)):Bool:=ps.all fun p=>Nat.blt p.2 n
theorem Kq {n:Nat} {ps:List (Nat×Nat)} (h:Nl n ps=true):∀p∈ps,p.2<n:=fun p hp=>by
 have:=List.all_eq_true.1 h p hp
 simpa[ac2] using this
noncomputable def Ry (k:Nat) (v:AV) (M:T) (K:AV→T→Nat→Bool):Bool:=fP (Ir 0 (tg M 200 (HT k (zX v)) [])) fun ps=>ac (GA ps k) (ac (iK ps) (fN ps.length fun n=>ac (Nl n ps) (wE ps M ps .leaf fun M'=>dJ (gw ps v) fun v'=>K v' M' n)))
noncomputable def VV (l:List (Nat×Nat)):T→(T→Bool)→Bool:=List.rec (fun M K=>K M) (fun p _ ih M K=>T.set cb M p.1 none fun M=>ih M K) l
noncomputable def lkB (ps:List (Nat×Nat)) (j:Nat):Nat:=List.rec 0 (fun p _ ih=>Bool.rec ih p.1 (Nat.beq p.2 j)) ps
noncomputable def aaJ (k nx:Nat) (ps:List (Nat×Nat)) (l:List Nat):List (Nat×Nat):=List.rec [] (fun j _ ih=>(j,Bool.rec (Nat.add nx j) (lkB ps j) (Nat.blt j k))::ih) l
def aaK (k nx n:Nat) (ps qs:List (Nat×Nat)):Bool:=qs.all fun q=>Nat.blt q.1 n&&((Nat.blt q.1 k&&ps.any fun p=>Nat.beq p.1 q.2&&Nat.beq p.2 q.1)||(Nat.ble k q.1&&Nat.beq q.2 (nx+q.1)))
noncomputable def Dc (k:Nat) (sp:dC) (vs:List AV) (M:T) (nx:Nat) (K:AV→T→Nat→Bool):Bool:=fP (Ir 0 (tg M 200 (Fw vs) [])) fun ps=>ac (iK ps) (fN ps.length fun n=>ac (Nl n ps) (dJ (kw ps vs) fun us=>wE ps M ps .leaf fun Ml=>sp us Ml n fun v M' n'=>
 fP (aaJ k nx ps (tg M' 200 (HT k (zX v)) [])) fun qs=>ac (iK qs) (ac (aaK k nx n' ps qs) (dJ (gw qs v) fun v'=>VV ps M fun M1=>wE qs M' qs M1 fun M2=>fN (nx+n') fun n2=>K v' M2 n2))))
noncomputable def RA (tab:Nat→Option XF) (nat:Nat→List AV→Option ES) (lp:ft) (lf:Nat):Nat→kX:=Nat.rec (fun f vs M nx K=>Option.casesOn (nat f vs) false fun es=>ES.casesOn es fun k sp=>Dc k sp vs M nx K) (fun _ ih f vs M nx K=>Option.casesOn (nat f vs) (dJ (tab f) fun xf=>XF.casesOn xf fun N res body=>
 ac (Nat.ble (eG vs) N) (DE vs 0 .nil fun S=>cQ ih lp lf body S M nx fun e S M nx=>bn (Nat.blt 1 e) false (Ln res S M fun v=>K v M nx))) fun es=>ES.casesOn es fun k sp=>Dc k sp vs M nx K)
noncomputable def bZ (k:Nat) (cf:kX) (lp:ft) (lf:Nat) (xf:XF) (vs:List AV) (M:T) (nx:Nat) (K:AV→T→Nat→Bool):Bool:=XF.casesOn xf fun N res body=>ac (Nat.ble (eG vs) N) (DE vs 0 .nil fun S=>cQ cf lp lf body S M nx fun e S M nx=>bn (Nat.blt 1 e) false (Ln res S M fun v=>Ry k v M K))
section
variable {P:Program} {E:Env} {ρ:Ren} {G:GS} {F:List aH} {M:T} {nx:Nat} {w:World} {N:Nat} {S:SL} {a:Act} {ops:Array Oper} {o:Oper} {pk:Nat}
theorem Ns:∀{vs:List AV} {xs:List Value} {n:Nat} {S:SL} {K:SL→Bool},aR E ρ vs=some xs→(∀i x,xs[i]?=some x→a.tmps.getD (n+i) undef=x)→SR E ρ N S a→DE vs n S K=true→∃S',SR E ρ N S' a∧K S'=true
 |[],xs,n,S,K,_,_,s,h=>⟨S,s,h⟩
 |v::vs,xs,n,S,K,hd,hx,s,h=>by
  obtain⟨y,ys,h1,h2,rfl⟩:=bu hd
  have h':DE vs (Nat.succ n) (.cons n v S) K=true:=h
  refine Ns h2 (fun i x hi=> ?_) ⟨s.size,s.defs,fun t=> ?_⟩ h'
  ·have:=hx (i+1) x (by simpa using hi)
   rw[show n+(i+1)=Nat.succ n+i by omega]at this
   exact this
  ·by_cases e:n=t
   ·subst e
    rw[jp]
    exact .inr ⟨y,h1,hx 0 y rfl⟩
   ·rw[nq _ _ e]
    exact s.at_ t
theorem tL (s:SR E ρ N S a) {t:Nat} {K:AV→Bool} (h:nb (cu t S) K=true):∃x,den E ρ (cu t S)=some x∧a.tmps.getD t undef=x∧K (cu t S)=true:=by
 obtain⟨h1,h2⟩:=WF h
 obtain⟨x,h3,h4⟩:=(s.at_ t).resolve_left h1
 exact⟨x,h3,h4,h2⟩
theorem XD (s:SR E ρ N S a) (h:Sim E ρ G F M nx w) {fn:Func} {r:XRes} {K:AV→Bool} (hc:Nb P r fn.results.toList=true) (hk:Ln r S M K=true):∃v z,den E ρ v=some z∧K v=true∧(results fn a.tmps).run P w= .ok z w:=by
 unfold Nb at hc
 split at hc
 ·rename_i h1
  have hr:=vC h1
  exact⟨.tup [],.tuple #[],by simp[den,aR],hk,results_none hr _ _ _⟩
 ·rename_i t t' h1
  have hr:=vC h1
  have:=acG hc
  subst this
  obtain⟨x,g1,g2,g3⟩:=tL s (show nb (cu t S) K=true from hk)
  exact⟨_,x,g1,g3,by rw[results_tmp hr,g2]⟩
 ·rename_i t u t' u' h1
  have hr:=vC h1
  obtain⟨c1,c2⟩:=bc hc
  have c1:=acG c1
  have c2:=acG c2
  subst c1;subst c2
  obtain⟨x,g1,g2,g3⟩:=tL s (show nb (cu t S) (fun x=>nb (cu u S) fun y=>K (.tup [x,y]))=true from hk)
  obtain⟨y,g4,g5,g6⟩:=tL s (show nb (cu u S) (fun y=>K (.tup [cu t S,y]))=true from g3)
  exact⟨_,.tuple #[x,y],by simp only[den,aR,g1,g4],g6,by rw[results_tmp2 hr,g2,g5]⟩
 ·rename_i t agg n t' ty h1
  have hr:=vC h1
  obtain⟨hc,c3⟩:=bc hc
  obtain⟨c1,c2⟩:=bc hc
  rw[decide_eq_true_eq]at c2 c3
  have c1:=acG c1
  subst c1
  obtain⟨x,g1,g2,g3⟩:=tL s (show nb (cu t S) (fun p=>Pf agg n p M K)=true from hk)
  have fin:∀{u:AV} {z:Value},den E ρ u=some z→K u=true→(Instr.loadAt ty x).run P w= .ok z w→∃v z,den E ρ v=some z∧K v=true∧(results fn a.tmps).run P w= .ok z w:=by
   intro u z d1 d2 d3
   refine⟨u,z,d1,d2,?_⟩
   have e1:a.tmps[t]?.getD undef=x:=by simpa using g2
   cases x with
   |pointer p=>
    cases p with
    |some ad=>
     simp only[Instr.loadAt,Instr.sureAddr,Sem.run_bind,Sem.run_pure,Result.andThen_ok]at d3
     simp[results,hr,e1,asAddr,d3]
    |none=>simp[Instr.loadAt,Instr.sureAddr]at d3
   |_=>simp[Instr.loadAt,Instr.sureAddr]at d3
  obtain⟨u,z,d1,d2,d3⟩:=LP (P:=P) h g1 g3 c2 c3
  exact fin d1 d2 d3
 ·rename_i t agg n v0 t' ty u' h1
  have hr:=vC h1
  obtain⟨hc,c4⟩:=bc hc
  obtain⟨hc,c3⟩:=bc hc
  obtain⟨c1,c2⟩:=bc hc
  rw[decide_eq_true_eq]at c2 c3
  have c1:=acG c1
  subst c1
  have c4:=acG c4
  subst c4
  obtain⟨x,g1,g2,g3⟩:=tL s (show nb (cu t S) (fun p=>Pf agg n p M fun v=>nb (cu v0 S) fun y=>K (.tup [v,y]))=true from hk)
  obtain⟨u,z,d1,d2,d3⟩:=LP (P:=P) h g1 g3 c2 c3
  obtain⟨y,e1,e2,e3⟩:=tL s d2
  refine⟨_,.tuple #[z,y],by simp only[den,aR,d1,e1],e3,?_⟩
  rw[results_cell_tmp hr,g2,e2]
  cases x with
  |pointer p=>
   cases p with
   |some ad=>
    simp only[Instr.loadAt,Instr.sureAddr,Sem.run_bind,Sem.run_pure,Result.andThen_ok]at d3
    simp[asAddr,d3]
   |none=>simp[Instr.loadAt,Instr.sureAddr]at d3
  |_=>simp[Instr.loadAt,Instr.sureAddr]at d3
 ·cases hc
theorem Lo:∀{ps l:List (Nat×Nat)} {M acc:T} {K:T→Bool},wE ps M l acc K=true→∀p∈l,∃o,M.get p.1=some o
 |ps,[],M,acc,K,h,p,hp=>by simp at hp
 |ps,q::l,M,acc,K,h,p,hp=>by
  have h':(dJ (M.get q.1) fun o=>dJ (gX ps o) fun o'=>T.set cb acc q.2 (some o') fun acc=>wE ps M l acc K)=true:=h
  obtain⟨o,h1,h2⟩:=bO h'
  obtain⟨o',h3,h4⟩:=bO h2
  obtain⟨acc',h5,s1,s2⟩:=T.set_ok _ _ _ _ _ h4
  rcases List.mem_cons.1 hp with rfl|hp
  ·exact⟨o,h1⟩
  ·exact Lo h5 p hp
theorem Jo:∀{ps l:List (Nat×Nat)} {M M1 acc:T} {K:T→Bool},(∀j o,acc.get j=some o→(∃i o0,(i,j)∈ps∧M.get i=some o0∧gX ps o0=some o)∨M1.get j=some o)→(∀p∈l,p∈ps)→wE ps M l acc K=true→
  ∃M',K M'=true∧∀j o,M'.get j=some o→(∃i o0,(i,j)∈ps∧M.get i=some o0∧gX ps o0=some o)∨M1.get j=some o
 |ps,[],M,M1,acc,K,ha,_,h=>⟨acc,h,ha⟩
 |ps,p::l,M,M1,acc,K,ha,hl,h=>by
  have h':(dJ (M.get p.1) fun o=>dJ (gX ps o) fun o'=>T.set cb acc p.2 (some o') fun acc=>wE ps M l acc K)=true:=h
  obtain⟨o,h1,h2⟩:=bO h'
  obtain⟨o',h3,h4⟩:=bO h2
  obtain⟨acc',h5,s1,s2⟩:=T.set_ok _ _ _ _ _ h4
  refine Jo (fun j ob hj=> ?_) (fun q hq=>hl q (by simp[hq])) h5
  by_cases e:j=p.2
  ·subst e
   rw[s1]at hj
   cases hj
   exact .inl ⟨p.1,o,hl p (by simp),h1,h3⟩
  ·rw[s2 j e]at hj
   exact ha j ob hj
theorem PD:∀{l:List (Nat×Nat)} {M:T} {K:T→Bool},VV l M K=true→∃M',K M'=true∧(∀j o,M'.get j=some o→M.get j=some o∧∀p∈l,p.1≠j)
 |[],M,K,h=>⟨M,h,fun j o hj=>⟨hj,fun p hp=>by simp at hp⟩⟩
 |p::l,M,K,h=>by
  have h':(T.set cb M p.1 none fun M=>VV l M K)=true:=h
  obtain⟨M1,h1,s1,s2⟩:=T.set_ok _ _ _ _ _ h'
  obtain⟨M2,h2,h3⟩:=PD h1
  refine⟨M2,h2,fun j o hj=> ?_⟩
  obtain⟨q1,q2⟩:=h3 j o hj
  have hne:p.1≠j:=fun e=>by rw[←e,s1]at q1;cases q1
  refine⟨by rw[←s2 j (fun e=>hne e.symm)];exact q1,fun r hr=> ?_⟩
  rcases List.mem_cons.1 hr with rfl|hr
  ·exact hne
  ·exact q2 r hr
theorem XH {k nx n:Nat} {ps qs:List (Nat×Nat)} (h:aaK k nx n ps qs=true):∀q∈qs,q.1<n∧((q.1<k∧(q.2,q.1)∈ps)∨(k≤q.1∧q.2=nx+q.1)):=fun q hq=>by
 have:=List.all_eq_true.1 h q hq
 simp only[acW,Bool.or_eq_true,ac2,Nat.ble_eq]at this
 obtain⟨h1,h2⟩:=this
 refine⟨h1,?_⟩
 rcases h2 with⟨h2,h3⟩|⟨h2,h3⟩
 ·obtain⟨p,q1,q2⟩:=List.any_eq_true.1 h3
  simp only[acW]at q2
  have e1:=acG q2.1
  have e2:=acG q2.2
  have:p=(q.2,q.1):=by cases p;simp_all
  rw[this]at q1
  exact .inl ⟨h2,q1⟩
 ·exact .inr ⟨h2,acG h3⟩
theorem YE (h:Sim E ρ G F M nx w) {k:Nat} {v:AV} {x:Value} {K:AV→T→Nat→Bool} (hd:den E ρ v=some x) (hk:Ry k v M K=true):
  ∃v' M' n' ρ',Sim E ρ' G F M' n' w∧den E ρ' v'=some x∧K v' M' n'=true∧∀i e,i<k→ρ i=some e→ρ' i=some e:=by
 unfold Ry at hk
 rw[KT]at hk
 generalize Ir 0 (tg M 200 (HT k (zX v)) [])=ps at hk
 obtain⟨h1,hk⟩:=aw hk
 obtain⟨h2,hk⟩:=aw hk
 rw[ck]at hk
 obtain⟨h3,hk⟩:=aw hk
 obtain⟨M',h4,h5⟩:=CS (ps:=ps) (fun j o hj=>by simp[T.get_leaf]at hj) (fun p hp=>hp) hk
 obtain⟨v',h6,h7⟩:=bO h4
 exact⟨v',M',_,lD ps ρ,h.ren h2 (Kq h3) h5,ow h2 _ _ _ h6 hd,h7,fun i e q1 q2=>by rw[ep h2 (EQ h1 i q1)];exact q2⟩
def cY (P:Program) (f k:Nat) (sp:dC):Prop:=∀(us:List AV) (xs:List Value) (E:Env) (ρ:Ren) (G:GS) (F:List aH) (M:T) (nx:Nat) (w:World) (K:AV→T→Nat→Bool) (R:Ending→World→Prop),fM E→Sim E ρ G F M nx w→aR E ρ us=some xs→sp us M nx K=true→
 (∀v M' nx' E' ρ' w' z,K v M' nx'=true→fM E'→MLe E.M E'.M→(∀i e,i<k→ρ i=some e→ρ' i=some e)→Sim E' ρ' G F M' nx' w'→den E' ρ' v=some z→R (.returned z) w')→Calls P f xs.toArray w R
theorem LJ {f k:Nat} {sp:dC} (hn:cY P f k sp) {vs:List AV} {xs:List Value} {K:AV→T→Nat→Bool} {R:Ending→World→Prop} (hE:fM E) (h:Sim E ρ G F M nx w) (hd:aR E ρ vs=some xs) (hk:Dc k sp vs M nx K=true)
  (hr:∀v M' nx' E' ρ' w' z,K v M' nx'=true→Ext E ρ E' ρ'→Sim E' ρ' G F M' nx' w'→den E' ρ' v=some z→R (.returned z) w'):Calls P f xs.toArray w R:=by
 classical
 unfold Dc at hk
 rw[KT]at hk
 generalize Ir 0 (tg M 200 (Fw vs) [])=ps at hk
 obtain⟨h1,hk⟩:=aw hk
 rw[ck]at hk
 obtain⟨h2,hk⟩:=aw hk
 have h2:=Kq h2
 obtain⟨us,h3,hk⟩:=bO hk
 have hall:=Lo hk
 obtain⟨Ml,hsp,hMl⟩:=CS (ps:=ps) (fun j o hj=>by simp[T.get_leaf]at hj) (fun p hp=>hp) hk
 obtain⟨c,hh,hob,hinj⟩:=h.ex
 let B:Nat×Obj→Bool:=fun q=>decide (∃p∈ps,∃e o,ρ p.1=some e∧e.b=q.1∧M.get p.1=some o∧cG e o=true)
 have hB:∀q:Nat×Obj,B q=true↔∃p∈ps,∃e o,ρ p.1=some e∧e.b=q.1∧M.get p.1=some o∧cG e o=true:=fun q=>by simp only[B,decide_eq_true_eq]
 have hh1:Holds {G with M:=E.M} w (c.filter B::c.filter (fun q=> !B q)::F):=hh.perm (by
  simp only[acI,←acL]
  exact(List.filter_append_perm B c).append_right _)
 have hs:Sim E (lD ps ρ) G (c.filter (fun q=> !B q)::F) Ml ps.length w:=by
  refine⟨⟨c.filter B,hh1,fun j o hj=> ?_,fun j k e f o o' hj hk he hf hb1 hb2 hb=> ?_⟩,h.mem,fun j hj=> ?_⟩
  ·obtain⟨i,o0,g1,g2,g3⟩:=hMl j o hj
   obtain⟨e,a1,q⟩:=hob i o0 g2
   have hHB:=io (e:=e) g3
   refine⟨e,by rw[ep h1 g1];exact a1,?_⟩
   rcases q with⟨q1,ob,q2,q3⟩|⟨q1,q2⟩
   ·exact .inl ⟨by rw[hHB.1];exact q1,ob,List.mem_filter.2 ⟨q2,(hB _).2 ⟨(i,j),g1,e,o0,a1,rfl,g2,q1⟩⟩,EN h1 g3 q3⟩
   ·exact .inr ⟨by rw[hHB.1];exact q1,hHB.2 q2⟩
  ·obtain⟨i,o0,g1,g2,g3⟩:=hMl j o hj
   obtain⟨i',o1,f1,f2,f3⟩:=hMl k o' hk
   rw[ep h1 g1]at he
   rw[ep h1 f1]at hf
   rw[(io (e:=e) g3).1]at hb1
   rw[(io (e:=f) f3).1]at hb2
   have:=hinj i i' e f o0 o1 g2 f2 he hf hb1 hb2 hb
   subst this
   exact zw h1 g1 f1
  ·unfold lD
   split
   ·rename_i p hp
    have q1:=List.mem_of_find?_eq_some hp
    have q2:=List.find?_some hp
    have:=acG q2
    have:=h2 p q1
    omega
   ·rfl
 refine hn us xs E (lD ps ρ) G _ Ml _ w _ R hE hs (qH h1 _ _ _ h3 hd) hsp fun v M' n' E' ρ' w' z kv hE' hm hpin hs' hz=> ?_
 rw[KT]at kv
 generalize aaJ k nx ps (tg M' 200 (HT k (zX v)) [])=qs at kv
 obtain⟨g1,kv⟩:=aw kv
 obtain⟨g2,kv⟩:=aw kv
 have g2:=XH g2
 obtain⟨v',g3,kv⟩:=bO kv
 obtain⟨M1,kv,hM1⟩:=PD kv
 obtain⟨M2,kv,hM2⟩:=Jo (M1:=M1) (fun j o hj=>.inr hj) (fun p hp=>hp) kv
 rw[ck]at kv
 obtain⟨c',hh',hob',hinj'⟩:=hs'.ex
 let ρo:Ren:=fun i=>if i<nx then ρ i else ρ' (i - nx)
 have lt:∀i e,ρ i=some e→i<nx:=fun i e q=>by
  by_cases q1:i<nx
  ·exact q1
  ·rw[h.fresh i (by omega)]at q;cases q
 have hle:ρ.Le ρo:=fun i e q=>by simp only[ρo,if_pos (lt i e q)];exact q
 have hq:∀j i,(j,i)∈qs→∀e,ρ' j=some e→ρo i=some e:=fun j i hji e he=>by
  obtain⟨q1,⟨q2,q3⟩|⟨q2,q3⟩⟩:=g2 _ hji
  ·obtain⟨o,ho⟩:=hall _ q3
   obtain⟨e0,a1,_⟩:=hob _ _ ho
   have:=hpin j e0 q2 (by rw[ep h1 q3];exact a1)
   rw[this]at he
   cases he
   exact hle _ _ a1
  ·simp only at q2 q3
   have:¬i<nx:=by omega
   simp only[ρo,if_neg this]
   rw[show i - nx=j by omega];exact he
 have hrle:(lD qs ρ').Le ρo:=fun i e q=>by
  unfold lD at q
  split at q
  ·rename_i p hp
   have q1:=List.mem_of_find?_eq_some hp
   have q2:=List.find?_some hp
   have q2:=acG q2
   subst q2
   exact hq p.1 p.2 q1 e q
  ·cases q
 have hEE:Ey ρ E ⟨E.at_,E'.M⟩:=⟨fun _ _ _=>rfl,hm⟩
 refine hr v' M2 (nx+n') ⟨E.at_,E'.M⟩ ρo w' z kv ⟨hEE,hle,hE.1,hE'.2⟩ ⟨⟨c'++c.filter (fun q=> !B q),?_,fun id o hid=> ?_,fun i j e f o o' hi hj he hf hb1 hb2 hb=> ?_⟩,hs'.mem,fun i hi=> ?_⟩ (iL hrle _ _ (ow g1 _ _ _ g3 hz))
 ·exact hh'.perm (by simp)
 ·rcases hM2 id o hid with⟨j,o0,p1,p2,p3⟩|p1
  ·obtain⟨e,a1,q⟩:=hob' j o0 p2
   have hHB:=io (e:=e) p3
   refine⟨e,hq j id p1 e a1,?_⟩
   rcases q with⟨q1,ob,q2,q3⟩|⟨q1,q2⟩
   ·exact .inl ⟨by rw[hHB.1];exact q1,ob,List.mem_append.2 (.inl q2),(EN (t2:=E.at_) g1 p3 q3).mono hrle⟩
   ·exact .inr ⟨by rw[hHB.1];exact q1,hHB.2 q2⟩
  ·obtain⟨q1,q2⟩:=hM1 id o p1
   obtain⟨e,a1,q⟩:=hob id o q1
   refine⟨e,hle _ _ a1,?_⟩
   rcases q with⟨r1,ob,r2,r3⟩|r
   ·refine .inl ⟨r1,ob,List.mem_append.2 (.inr (List.mem_filter.2 ⟨r2,?_⟩)),(r3.env hEE).mono hle⟩
    have:¬B (e.b,ob)=true:=fun hb=>by
     obtain⟨p,s1,e2,o2,s2,s3,s4,s5⟩:=(hB _).1 hb
     exact q2 p s1 (hinj p.1 id e2 e o2 o s4 q1 s2 a1 s5 r1 s3)
    simpa using this
   ·exact .inr r
 ·have nd:=hh'.nodup
  simp only[acI,acR]at nd
  have ap:∀b,b∈c'.map (·.1)→b∈(c.filter fun q=> !B q).map (·.1)→False:=fun b b1 b2=>
   (List.nodup_append.1 nd).2.2 b b1 b (List.mem_append.2 (.inl b2)) rfl
  have blkN:∀id o e,(∃j o0,(j,id)∈qs∧M'.get j=some o0∧gX qs o0=some o)→ρo id=some e→cG e o=true→e.b∈c'.map (·.1):=by
   rintro id o e ⟨j,o0,p1,p2,p3⟩ he hb
   obtain⟨e2,a1,q⟩:=hob' j o0 p2
   have:=hq j id p1 e2 a1
   rw[this]at he;cases he
   rcases q with⟨q1,ob,q2,q3⟩|⟨q1,q2⟩
   ·exact List.mem_map.2 ⟨_,q2,rfl⟩
   ·rw[(io (e:=e) p3).1,q1]at hb;cases hb
  have blkO:∀id o e,M1.get id=some o→ρo id=some e→cG e o=true→e.b∈(c.filter fun q=> !B q).map (·.1):=by
   intro id o e p1 he hb
   obtain⟨q1,q2⟩:=hM1 id o p1
   obtain⟨e2,a1,q⟩:=hob id o q1
   rw[hle _ _ a1]at he;cases he
   rcases q with⟨r1,ob,r2,r3⟩|⟨r1,r2⟩
   ·refine List.mem_map.2 ⟨_,List.mem_filter.2 ⟨r2,?_⟩,rfl⟩
    have:¬B (e.b,ob)=true:=fun hb=>by
     obtain⟨p,s1,e3,o2,s2,s3,s4,s5⟩:=(hB _).1 hb
     exact q2 p s1 (hinj p.1 id e3 e o2 o s4 q1 s2 a1 s5 r1 s3)
    simpa using this
   ·rw[r1]at hb;cases hb
  rcases hM2 i o hi with m1|m1<;>rcases hM2 j o' hj with m2|m2
  ·obtain⟨j1,o1,p1,p2,p3⟩:=m1
   obtain⟨j2,o2,r1,r2,r3⟩:=m2
   obtain⟨e1,a1,_⟩:=hob' j1 o1 p2
   obtain⟨e2,a2,_⟩:=hob' j2 o2 r2
   have x1:=hq _ _ p1 _ a1
   have x2:=hq _ _ r1 _ a2
   rw[x1]at he;cases he
   rw[x2]at hf;cases hf
   rw[(io (e:=e) p3).1]at hb1
   rw[(io (e:=f) r3).1]at hb2
   have:=hinj' j1 j2 e f o1 o2 p2 r2 a1 a2 hb1 hb2 hb
   subst this
   exact zw g1 p1 r1
  ·exact(ap _ (blkN i o e m1 he hb1) (by rw[hb];exact blkO j o' f m2 hf hb2)).elim
  ·exact(ap _ (blkN j o' f m2 hf hb2) (by rw[←hb];exact blkO i o e m1 he hb1)).elim
  ·obtain⟨q1,_⟩:=hM1 i o m1
   obtain⟨q2,_⟩:=hM1 j o' m2
   obtain⟨e1,a1,_⟩:=hob i o q1
   obtain⟨e2,a2,_⟩:=hob j o' q2
   rw[hle _ _ a1]at he;cases he
   rw[hle _ _ a2]at hf;cases hf
   exact hinj i j e f o o' q1 q2 a1 a2 hb1 hb2 hb
 ·have:¬i<nx:=by omega
  simp only[ρo,if_neg this]
  exact hs'.fresh _ (by omega)
theorem OP (hm:P.follows .mixedOrders=true) {cf:kX} (hcf:mL P cf) {lp:ft} {lf:Nat} {fl:Bool} {pk:Nat} {f N:Nat} {res:XRes} {body:XC} (hf:bT P f (.mk N res body)=true) (hfl:fl=true→plain body=true) (hkp:iQ pk body=true) (hlp:∀b j x,(b,j,x)∈gL body→dI P N pk lp b j x)
  {vs:List AV} {xs:List Value} (hE:fM E) (h:Sim E ρ G F M nx w) (hd:aR E ρ vs=some xs) {K:AV→T→Nat→Bool} {R:Ending→World→Prop}
  (h2:ac (Nat.ble (eG vs) N) (DE vs 0 .nil fun S=>cQ cf lp lf body S M nx fun e S M nx=>bn (Nat.blt 1 e) false (Ln res S M fun v=>K v M nx))=true)
  (hr:∀v M' nx' E' ρ' w' z,K v M' nx'=true→Rel fl pk E ρ E' ρ'→Sim E' ρ' G F M' nx' w'→den E' ρ' v=some z→R (.returned z) w'):Calls P f xs.toArray w R:=by
 unfold bT at hf
 split at hf
 case h_2=>cases hf
 rename_i N' res' body' fn hx hfn
 cases hx
 split at hf
 case h_2=>cases hf
 rename_i c hb
 obtain⟨hf,c3⟩:=bc hf
 obtain⟨c1,c2⟩:=bc hf
 have c1:=acG c1
 obtain⟨h3,h4⟩:=aw h2
 rw[Nat.ble_eq,cT]at h3
 have hlen:=cV hd
 refine calls_of_wp hfn hb ?_
 have hsz:(xs.toArray++Array.replicate (fn.ntmps - xs.toArray.size) undef).size=N:=by simp;omega
 obtain⟨S,s,h5⟩:=Ns (a:={tmps:=xs.toArray++Array.replicate (fn.ntmps - xs.toArray.size) undef,defers:=[]}) (N:=N) hd (fun i x hi=>by
  have hlt:=(List.getElem?_eq_some_iff.1 hi).1
  have hv:=(List.getElem?_eq_some_iff.1 hi).2
  simp only[Nat.zero_add,Array.getD,hsz]
  rw[dif_pos (by omega)]
  simp[Array.getElem_append,hlt,hv]) (SR.nil hsz rfl) h4
 refine MZ hm hcf body c hE hfl hkp hlp c3 s h h5 fun e S' M' nx' E' ρ' a' w' k1 k2 k3 k4=> ?_
 rcases bh k1 with⟨_,g1⟩|⟨q,g1⟩
 ·cases g1
 ·obtain⟨v,z,r1,r2,r3⟩:=XD k3 k4 c2 g1
  have hR:=hr v M' nx' E' ρ' w' z r2 k2 k4 r1
  match e,q with
  |0,_=>exact⟨k3.defs,z,r3,hR⟩
  |1,_=>exact⟨k3.defs,z,r3,hR⟩
  |n+2,q=>
   have:Nat.blt 1 (n+2)=true:=by rw[ac2];omega
   rw[this]at q;cases q
theorem Nc (hm:P.follows .mixedOrders=true) {tab:Nat→Option XF} {nat:Nat→List AV→Option ES} {lp:ft} {lf:Nat} (htab:∀f xf,tab f=some xf→bT P f xf=true∧plain (mF xf)=true) (hnat:∀f vs k sp,nat f vs=some (.mk k sp)→cY P f k sp):∀d,mL P (RA tab nat lp lf d)
 |0=>by
  intro f vs M nx K E ρ G F w xs R hE h hd hk hr
  have hk':(Option.casesOn (nat f vs) false fun es=>ES.casesOn es fun k sp=>Dc k sp vs M nx K:Bool)=true:=hk
  rcases e:nat f vs with _|⟨k,sp⟩
  ·rw[e]at hk';cases hk'
  ·rw[e]at hk'
   exact LJ (hnat f vs k sp e) hE h hd hk' hr
 |d+1=>by
  intro f vs M nx K E ρ G F w xs R hE h hd hk hr
  have hk':(Option.casesOn (nat f vs) (dJ (tab f) fun xf=>XF.casesOn xf fun N res body=>
   ac (Nat.ble (eG vs) N) (DE vs 0 .nil fun S=>cQ (RA tab nat lp lf d) lp lf body S M nx fun e S M nx=>bn (Nat.blt 1 e) false (Ln res S M fun v=>K v M nx))) fun es=>ES.casesOn es fun k sp=>Dc k sp vs M nx K:Bool)=true:=hk
  rcases e:nat f vs with _|⟨k,sp⟩
  ·rw[e]at hk'
   obtain⟨xf,h1,h2⟩:=bO hk'
   obtain⟨hf,hp⟩:=htab f xf h1
   obtain⟨N,res,body⟩:=xf
   have hno:∀{x:XC},plain x=true→gL x=[]:=by
    intro x
    induction x with
    |seq x y ihx ihy=>intro q;obtain⟨q1,q2⟩:=bc (show(plain x&&plain y)=true from q);simp[gL,ihx q1,ihy q2]
    |cond p x y ihx ihy=>intro q;obtain⟨q1,q2⟩:=bc (show(plain x&&plain y)=true from q);simp[gL,ihx q1,ihy q2]
    |block k x ih=>exact fun q=>ih q
    |loop l x ih=>exact fun q=>ih q
    |inv=>intro q;cases q
    |aft=>intro q;cases q
    |pre=>intro q;cases q
    |spc=>intro q;cases q
    |_=>intro _;rfl
   have hk0:∀{x:XC},plain x=true→iQ 0 x=true:=by
    intro x
    induction x with
    |seq x y ihx ihy=>intro q;obtain⟨q1,q2⟩:=bc (show(plain x&&plain y)=true from q);simp[iQ,ihx q1,ihy q2]
    |cond p x y ihx ihy=>intro q;obtain⟨q1,q2⟩:=bc (show(plain x&&plain y)=true from q);simp[iQ,ihx q1,ihy q2]
    |block k x ih=>exact fun q=>ih q
    |loop l x ih=>exact fun q=>ih q
    |inv=>intro q;cases q
    |aft=>intro q;cases q
    |pre=>intro q;cases q
    |spc=>intro q;cases q
    |_=>intro _;rfl
   exact OP (fl:=true) (pk:=0) hm (Nc hm htab hnat d) hf (fun _=>hp) (hk0 hp) (fun b j x q=>by rw[hno (x:=body) hp]at q;cases q) hE h hd h2 fun v M' nx' E' ρ' w' z q1 q2=>hr v M' nx' E' ρ' w' z q1 (q2.ext rfl)
  ·rw[e]at hk'
   exact LJ (hnat f vs k sp e) hE h hd hk' hr
theorem XU (hm:P.follows .mixedOrders=true) {cf:kX} (hcf:mL P cf) {lp:ft} {lf f k:Nat} {xf:XF} {sp:dC} (hf:bT P f xf=true) (hkp:iQ k (mF xf)=true) (hlp:∀b j x,(b,j,x)∈gL (mF xf)→dI P (nOf xf) k lp b j x) (hrun:∀us M nx K,sp us M nx K=true→bZ k cf lp lf xf us M nx K=true):cY P f k sp:=by
 intro us xs E ρ G F M nx w K R hE hs hd hk hr
 obtain⟨N,res,body⟩:=xf
 refine OP (fl:=false) (pk:=k) (K:=fun v M _=>Ry k v M K) (G:=G) hm hcf hf (fun q=>by cases q) hkp hlp hE hs hd (hrun us M nx K hk) fun v M' nx' E' ρ' w' z q1 q2 q3 q4=> ?_
 obtain⟨v2,M2,n2,ρ2,f1,f2,f3,f4⟩:=YE q3 q4 q1
 exact hr v2 M2 n2 E' ρ2 w' z f3 q2.one q2.mem (fun i e i1 i2=>f4 i e i1 (q2.pin i e i1 i2)) f1 f2
theorem dM (hm:P.follows .mixedOrders=true) {cf:kX} (hcf:mL P cf) {lp:ft} {lf j:Nat} {x:XC} (hkp:iQ pk x=true) {α:Type _} (I:α→SL×T×Nat) (μ:α→Nat) (spec:α→KC→Bool) (hlp:∀b j' x',(b,j',x')∈gL x→dI P N pk lp b j' x')
  (hj:∀S M nx K,lp j S M nx K=true→∃p,(S,M,nx)=I p∧spec p K=true)
  (hbody:∀p K,spec p K=true→cQ cf lp lf x (I p).1 (I p).2.1 (I p).2.2 (fun e S M nx=>Nat.casesOn e (aI fun p'=>ac (au ((S,M,nx)=I p'∧μ p'<μ p)) (spec p' K)) (fun e'=>K (Nat.succ e') S M nx))=true):dI P N pk lp true j x:=by
 intro c S M nx E ρ G F a w K Q hE hc s h hk hq
 obtain⟨p,hp,hs⟩:=hj S M nx K hk
 have key:∀(n:Nat) (p:α),μ p<n→∀{S:SL} {M:T} {nx:Nat} {E:Env} {ρ:Ren} {a:Act} {w:World},(S,M,nx)=I p→spec p K=true→fM E→SR E ρ N S a→Sim E ρ G F M nx w→
   (∀e S' M' nx' E' ρ' a' w',K e S' M' nx'=true→Rel false pk E ρ E' ρ'→SR E' ρ' N S' a'→Sim E' ρ' G F M' nx' w'→Q (IM e) a' w')→Code.rounds P c Q n a w:=by
  intro n
  induction n with
  |zero=>intro p hn;omega
  |succ n ih=>
   intro p hn S M nx E ρ a w hI hs hE s h hq
   have hb:=hbody p K hs
   rw[←hI]at hb
   refine MZ (fl:=false) hm hcf x c hE (fun q=>by cases q) hkp hlp hc s h hb fun e S' M' nx' E' ρ' a' w' k1 k2 k3 k4=> ?_
   match e,k1 with
   |0,k1=>
    obtain⟨p',k5⟩:=bL k1
    obtain⟨⟨k6,k7⟩,k8⟩:=aa k5
    exact ih p' (by omega) k6 k8 k2.one k3 k4 fun e S2 M2 nx2 E2 ρ2 a2 w2 j1 j2=>hq e _ _ _ _ _ _ _ j1 (k2.trans j2)
   |1,k1=>exact hq 1 _ _ _ _ _ _ _ k1 k2 k3 k4
   |m+2,k1=>exact hq (m+2) _ _ _ _ _ _ _ k1 k2 k3 k4
 exact wp_loop_rounds (μ p+1) (key (μ p+1) p (Nat.lt_succ_self _) hp hs hE s h hq)
end
noncomputable def shp (v:AV):Nat:=AV.casesOn v 0 (fun _ _=>1) (fun _=>2) (fun _=>3) (fun _ _=>4) (fun _ _ _ _=>5) (fun _=>6) 7 8 9 10 11 (fun _ _=>12) (fun _ _=>13) (fun _=>14) (fun _=>15) (fun _=>16) (fun _=>17) (fun s=>SY.casesOn s (fun _ _=>20) (fun _=>21) (fun _=>22) (fun _ _ _ _ _=>23) (fun _ _ _=>24) (fun _ _=>25) (fun _ _ _ _=>26) (fun _ _ _ _=>27) (fun _ _ _=>28) (fun _=>29))
noncomputable def acd (vs:List AV) (n:Nat):Nat:=Option.casesOn (fF vs n) 0 shp
noncomputable def acr (vs:List AV) (l:List (Nat×Nat)):Bool:=List.rec true (fun p _ ih=>Bool.rec false ih (Nat.beq (acd vs p.1) p.2)) l
noncomputable def QR (f g:Nat) (vs:List AV) (l:List (Nat×Nat)):Bool:=Bool.rec false (acr vs l) (Nat.beq f g)
theorem Vk {P:Program} {f g k k0:Nat} {vs:List AV} {sp sp0:dC} {rest:Option ES} {l:List (Nat×Nat)} (h0:cY P g k0 sp0) (hr:rest=some (.mk k sp)→cY P f k sp) (h:(Bool.rec rest (some (ES.mk k0 sp0)) (QR f g vs l):Option ES)=some (.mk k sp)):cY P f k sp:=by
 cases hb:QR f g vs l with
 |false=>rw[hb]at h;exact hr h
 |true=>
  rw[hb]at h
  cases h
  unfold QR at hb
  cases he:Nat.beq f g with
  |false=>rw[he]at hb;cases hb
  |true=>rw[acG he];exact h0
theorem cd {P:Program} {N k:Nat} {lp:ft} {b b0:Bool} {j j0:Nat} {x x0:XC} {l:List (Bool×Nat×XC)} (h0:dI P N k lp b0 j0 x0) (hr:(b,j,x)∈l→dI P N k lp b j x) (h:(b,j,x)∈(b0,j0,x0)::l):dI P N k lp b j x:=by
 rcases List.mem_cons.1 h with e|h
 ·injection e with e1 e2
  injection e2 with e3 e4
  subst e1;subst e3;subst e4
  exact h0
 ·exact hr h
theorem aP {p:Prop} {x y:Bool} (hp:p) (h:bn (au p) x y=true):x=true:=by
 rcases lj h with⟨_,h⟩|⟨q,_⟩
 ·exact h
 ·exact absurd hp q
def bi (x:UInt8):List PL:=[.sint 1 (x.toNat:Int)]
def MT (s:List UInt8):List PL:=[.sstr s]
def yr (T b:Nat) (l:List UInt8) (c:aH):Prop:=∃p ao cap cr,(p= .pointer none∨p= .pointer (some ⟨b,0,none⟩))∧Row 5 1 ao l.length cap (l.map u8) cr∧c=(b,.cells #[p,.slice ao l.length cap] T (0,0))::cr
def BuildS (T b:Nat) (l:List UInt8) (c:aH):Prop:=∃p ao cap cr,p= .pointer (some ⟨b,0,none⟩)∧Row 5 1 ao l.length cap (l.map u8) cr∧c=(b,.cells #[p,.slice ao l.length cap] T (0,0))::cr
theorem BuildS.d {T b:Nat} {l:List UInt8} {c:aH}:BuildS T b l c→yr T b l c:=fun⟨p,ao,cap,cr,h1,h2⟩=>⟨p,ao,cap,cr,.inr h1,h2⟩
end Go.Sy
namespace Go.Eng
open Go Go.RowKit
section
variable {G:GS} {w:World} {F:List aH} {c:aH}
theorem Holds.pick1 {x:Nat×Obj} (h:Holds G w (c::F)) (hm:x∈c):Holds G w ([x]::F):=by
 obtain⟨s,t,rfl⟩:=List.append_of_mem hm
 have h2:Holds G w ((s++t)::[x]::F):=h.perm (by
  simp only[acI]
  have p1:(s++x::t).Perm (x::(s++t)):=List.perm_middle
  exact(List.perm_append_comm_assoc (s++t) [x] F.flatten).trans (p1.append_right F.flatten).symm)
 exact h2.drop
theorem Holds.pick2 {x y:Nat×Obj} (h:Holds G w (c::F)) (hx:x∈c) (hy:y∈c) (hne:x.1≠y.1):Holds G w ((x::[y])::F):=by
 obtain⟨s,t,rfl⟩:=List.append_of_mem hx
 have hy2:y∈s++t:=by
  rcases List.mem_append.1 hy with q|q
  ·exact List.mem_append.2 (.inl q)
  ·rcases List.mem_cons.1 q with rfl|q
   ·exact absurd rfl hne
   ·exact List.mem_append.2 (.inr q)
 obtain⟨s2,t2,e⟩:=List.append_of_mem hy2
 have h2:Holds G w ((s2++t2)::(x::[y])::F):=h.perm (by
  simp only[acI]
  have p1:(s++x::t).Perm (x::(s++t)):=List.perm_middle
  rw[e]at p1
  have p2:(s2++y::t2).Perm (y::(s2++t2)):=List.perm_middle
  have p3:(s++x::t).Perm ((x::[y])++(s2++t2)):=p1.trans (p2.cons x)
  have p4:((s++x::t)++F.flatten).Perm (((x::[y])++(s2++t2))++F.flatten):=p3.append_right _
  exact(List.perm_append_comm_assoc (s2++t2) (x::[y]) F.flatten).trans p4.symm)
 exact h2.drop
end
end Go.Eng
namespace Go.Sy
open Go Go.RowKit Go.Eng
section
variable {P:Program} {E:Env} {ρ:Ren} {G:GS} {F:List aH} {M:T} {nx:Nat} {w:World}
theorem Holds.withM {G G':GS} {m:pp} (hG:GS.Le {G with M:=m} G') {H:List aH} (hh:Holds G' w H):Holds {G with M:=G'.M} w H:=⟨hh.os.trans hG.os,hh.tape.trans hG.tape,hh.output.trans hG.output,hh.mem,hh.own,hh.nodup,hh.apart⟩
theorem Sim.bare {G':GS} {w':World} (hs:Sim E ρ G F M nx w) (hG:GS.Le {G with M:=E.M} G') (hh:Holds G' w' F):Sim ⟨E.at_,G'.M⟩ (fun _=>none) G F .leaf 0 w':=
 ⟨⟨[],(Holds.withM hG hh).nil,fun i o h=>by simp[T.get_leaf]at h,fun i j e f o o' h=>by simp[T.get_leaf]at h⟩,MLe.trans hs.mem (fun b o h=>hG.mem b o h),fun _ _=>rfl⟩
abbrev RR (k:Nat) (E:Env) (ρ:Ren) (G:GS) (F:List aH) (K:AV→T→Nat→Bool) (R:Ending→World→Prop):Prop:=
 ∀v M' nx' E' ρ' w' z,K v M' nx'=true→fM E'→MLe E.M E'.M→(∀i e,i<k→ρ i=some e→ρ' i=some e)→Sim E' ρ' G F M' nx' w'→den E' ρ' v=some z→R (.returned z) w'
theorem Dt {f:Nat} {xs:Array Value} {s:List UInt8} {K:AV→T→Nat→Bool} {R:Ending→World→Prop} (hE:fM E) (hs:Sim E ρ G F M nx w) (hc:Calls P f xs w (Ret {G with M:=E.M} F fun _ v=>v=S s)) (hk:K (.sy (.str s)) .leaf 0=true) (hr:RR 0 E ρ G F K R):Calls P f xs w R:=by
 refine hc.mono fun e w' ⟨v,G',he,hG,hh,hv⟩=> ?_
 subst he;subst hv
 exact hr _ _ _ ⟨E.at_,G'.M⟩ (fun _=>none) w' _ hk ⟨hE.1,Tied.mono (fun b o h=>hG.mem b o h) hE.2⟩ (fun b o h=>hG.mem b o h) (fun i e h=>absurd h (Nat.not_lt_zero i)) (hs.bare hG hh) rfl
theorem Du {f:Nat} {xs:Array Value} {s:List UInt8} {K:AV→T→Nat→Bool} {R:Ending→World→Prop} (hE:fM E) (hs:Sim E ρ G F M nx w) (hc:Calls P f xs w fun e w'=>e= .returned (S s)∧Below w.heap.size w w') (hk:K (.sy (.str s)) .leaf 0=true) (hr:RR 0 E ρ G F K R):Calls P f xs w R:=by
 obtain⟨c,hh,_,_⟩:=hs.ex
 exact Dt hE hs (hc.mono fun e w' ⟨he,hb⟩=>⟨_,_,he,GS.Le.refl _,hh.drop.ext hb,rfl⟩) hk hr
noncomputable def zA (k:Nat) (v:AV) (K:Int→Bool):Bool:=match v with
 |.int j z=>ac (Nat.beq j k) (K z)
 |.sy (.int j z)=>ac (Nat.beq j k) (K z)
 |_=>false
theorem mZ {k:Nat} {v:AV} {K:Int→Bool} (h:zA k v K=true):∃z,(∀x,den E ρ v=some x→x= .int (dc k) z)∧K z=true:=by
 unfold zA at h
 split at h
 ·obtain⟨h1,h2⟩:=aw h
  have:=acG h1
  subst this
  exact⟨_,fun x hx=>by simpa[den] using hx.symm,h2⟩
 ·obtain⟨h1,h2⟩:=aw h
  have:=acG h1
  subst this
  exact⟨_,fun x hx=>by simpa[den,bz] using hx.symm,h2⟩
 ·cases h
noncomputable def Bb (k:Nat) (g:Int→List UInt8):dC:=fun us _ _ K=>match us with
 |[v]=>zA k v fun z=>ac (au (aL k z)) (K (.sy (.str (g z))) .leaf 0)
 |_=>false
noncomputable def Qm (k b:Nat) (g:Int→List UInt8):dC:=fun us _ _ K=>match us with
 |[v,.int 0 (.ofNat n)]=>ac (Nat.beq n b) (zA k v fun z=>ac (au (aL k z)) (K (.sy (.str (g z))) .leaf 0))
 |_=>false
theorem Ix {f k:Nat} {g:Int→List UInt8} (hI:∀(z:Int) (G:GS) (w:World) (F:List aH),aL k z→Tied G.M→Holds G w F→Calls P f #[.int (dc k) z] w (Ret G F fun _ v=>v=S (g z))):cY P f 0 (Bb k g):=by
 intro us xs E ρ G F M nx w K R hE hs hd hk hr
 unfold Bb at hk
 split at hk
 case h_2=>cases hk
 rename_i v
 obtain⟨x,ys,h1,h2,rfl⟩:=bu hd
 obtain rfl:ys=[]:=by simpa[aR] using h2.symm
 obtain⟨z,hz,hk⟩:=mZ (E:=E) (ρ:=ρ) hk
 obtain⟨hi,hk⟩:=aa hk
 obtain rfl:=hz x h1
 obtain⟨c,hh,_,_⟩:=hs.ex
 exact Dt hE hs (hI z {G with M:=E.M} w F hi hE.2 hh.drop) hk hr
theorem XV {f k b:Nat} {g:Int→List UInt8} (hI:∀(z:Int) (G:GS) (w:World) (F:List aH),aL k z→Tied G.M→Holds G w F→Calls P f #[.int (dc k) z,.int .i64 (b:Int)] w (Ret G F fun _ v=>v=S (g z))):cY P f 0 (Qm k b g):=by
 intro us xs E ρ G F M nx w K R hE hs hd hk hr
 unfold Qm at hk
 split at hk
 case h_2=>cases hk
 rename_i v n
 obtain⟨hb,hk1⟩:=aw hk
 have hb:=acG hb
 subst hb
 obtain⟨x,ys,h1,h2,rfl⟩:=bu hd
 obtain⟨x2,ys2,h3,h4,rfl⟩:=bu h2
 obtain rfl:ys2=[]:=by simpa[aR] using h4.symm
 obtain rfl:x2= .int .i64 (n:Int):=by simpa[den,dc] using h3.symm
 obtain⟨z,hz,hk2⟩:=mZ (E:=E) (ρ:=ρ) hk1
 obtain⟨hi,hk⟩:=aa hk2
 obtain rfl:=hz x h1
 obtain⟨c,hh,_,_⟩:=hs.ex
 exact Dt hE hs (hI z {G with M:=E.M} w F hi hE.2 hh.drop) hk hr
noncomputable def MY (fuel:Nat):Nat→List Nat→List Nat:=Nat.rec (fun _ acc=>acc) (fun _ ih n acc=>Bool.rec (ih (Nat.div n 10) (Nat.add 48 (Nat.mod n 10)::acc)) (Nat.add 48 n::acc) (Nat.blt n 10)) fuel
theorem PE:∀(fuel n:Nat) (acc:List Nat),n<10 ^ fuel→0<fuel→(MY fuel n acc).map ac0=Lib.decDigits n++acc.map ac0
 |0,n,acc,h,h0=>by omega
 |fuel+1,n,acc,h,_=>by
  have e:MY (fuel+1) n acc=Bool.rec (MY fuel (n / 10) ((48+n % 10)::acc)) ((48+n)::acc) (Nat.blt n 10):=rfl
  cases hb:Nat.blt n 10 with
  |true=>
   have h9:=hb
   rw[ac2]at h9
   rw[e,hb,Lib.decDigits_one h9]
   rfl
  |false=>
   have hn:¬n<10:=fun q=>by rw[←ac2]at q;rw[q]at hb;cases hb
   rw[e,hb]
   show(MY fuel (n / 10) ((48+n % 10)::acc)).map ac0=_
   rcases Nat.eq_zero_or_pos fuel with rfl|hf
   ·simp at h;omega
   ·rw[PE fuel (n / 10) _ (by rw[Nat.pow_succ]at h;omega) hf]
    conv=>rhs;rw[Lib.decDigits,dif_neg hn]
    simp
noncomputable def Ia (k m:Nat) (tl:List AV→Bool):dC:=fun us _ _ K=>match us with
 |.int j (.ofNat n)::r=>ac (Nat.beq j k) (ac (tl r) (ac (au (aL k (n:Int))) (ac (Nat.blt n m) (K (.str (MY 20 n [])) .leaf 0))))
 |_=>false
noncomputable def ON (r:List AV):Bool:=match r with|[]=>true|_=>false
theorem VC (n:Nat):Lib.itoa (n:Int)=Lib.decDigits n:=by
 unfold Lib.itoa
 rw[if_neg (by omega)]
 simp
theorem ab7 {f:Nat} {xs:Array Value} {s:List Nat} {K:AV→T→Nat→Bool} {R:Ending→World→Prop} (hE:fM E) (hs:Sim E ρ G F M nx w) (hc:Calls P f xs w (Ret {G with M:=E.M} F fun _ v=>v=S (s.map ac0))) (hk:K (.str s) .leaf 0=true) (hr:RR 0 E ρ G F K R):Calls P f xs w R:=by
 refine hc.mono fun e w' ⟨v,G',he,hG,hh,hv⟩=> ?_
 subst he;subst hv
 exact hr _ _ _ ⟨E.at_,G'.M⟩ (fun _=>none) w' _ hk ⟨hE.1,Tied.mono (fun b o h=>hG.mem b o h) hE.2⟩ (fun b o h=>hG.mem b o h) (fun i e h=>absurd h (Nat.not_lt_zero i)) (hs.bare hG hh) rfl
theorem Pd {f k m:Nat} (hm:m≤100000000000000000000) {tl:List AV→Bool} {ts:List Value} (ht:∀(E:Env) (ρ:Ren) (r:List AV) (xs:List Value),tl r=true→aR E ρ r=some xs→xs=ts) (hI:∀(n:Nat) (G:GS) (w:World) (F:List aH),n<m→aL k (n:Int)→Tied G.M→Holds G w F→Calls P f (Value.int (dc k) (n:Int)::ts).toArray w (Ret G F fun _ v=>v=S (Lib.decDigits n))):cY P f 0 (Ia k m tl):=by
 intro us xs E ρ G F M nx w K R hE hs hd hk hr
 unfold Ia at hk
 split at hk
 case h_2=>cases hk
 rename_i j n r
 obtain⟨q1,hk1⟩:=aw hk
 obtain⟨q2,hk2⟩:=aw hk1
 obtain⟨q3,hk3⟩:=aa hk2
 obtain⟨q4,hk4⟩:=aw hk3
 have q1:=acG q1
 subst q1
 rw[ac2]at q4
 obtain⟨x,ys,h1,h2,rfl⟩:=bu hd
 obtain rfl:=ht E ρ r ys q2 h2
 obtain rfl:x= .int (dc j) (n:Int):=by simpa[den] using h1.symm
 obtain⟨c,hh,_,_⟩:=hs.ex
 have:=hI n {G with M:=E.M} w F q4 q3 hE.2 hh.drop
 have e:=PE 20 n [] (Nat.lt_of_lt_of_le q4 (Nat.le_trans hm (by decide))) (by omega)
 rw[List.map_nil,List.append_nil]at e
 rw[←e]at this
 exact ab7 hE hs this hk4 hr
theorem Sx (E:Env) (ρ:Ren) (r:List AV) (xs:List Value) (h:ON r=true) (hd:aR E ρ r=some xs):xs=[]:=by
 unfold ON at h
 split at h
 ·simpa[aR] using hd.symm
 ·cases h
noncomputable def sA (v:AV) (K:List UInt8→Bool):Bool:=match v with
 |.str l=>K (l.map ac0)
 |.sy (.str l)=>K l
 |_=>false
theorem Qq {v:AV} {K:List UInt8→Bool} (h:sA v K=true):∃s,den E ρ v=some (S s)∧K s=true:=by
 unfold sA at h
 split at h
 ·exact⟨_,by simp[den],h⟩
 ·exact⟨_,by simp[den,bz],h⟩
 ·cases h
noncomputable def YO (l:List (List AV)):(List (List UInt8)→Bool)→Bool:=List.rec (fun K=>K []) (fun e _ ih K=>match e with
 |[v]=>sA v fun s=>ih fun ws=>K (s::ws)
 |_=>false) l
theorem RS:∀{l:List (List AV)} {K:List (List UInt8)→Bool},YO l K=true→∃ws vs,l=vs.map (fun v=>[v])∧aR E ρ vs=some (ws.map S)∧K ws=true
 |[],K,h=>⟨[],[],rfl,rfl,h⟩
 |e::l,K,h=>by
  have h':(match (generalizing:=false) e with
   |[v]=>sA v fun s=>YO l fun ws=>K (s::ws)
   |_=>false)=true:=h
  split at h'
  ·obtain⟨s,h1,h2⟩:=Qq (E:=E) (ρ:=ρ) h'
   obtain⟨ws,vs,e1,e2,e3⟩:=RS h2
   exact⟨s::ws,_::vs,by simp[e1],ly h1 e2,e3⟩
  ·cases h'
noncomputable def abM (g:Bool) (n:Nat) (c:ACap):Bool:=match c with
 |.ex m=>Nat.ble n m
 |.rest 0=>g
 |_=>false
noncomputable def KO (ws:List (List UInt8)) (sep:List UInt8) (K:AV→T→Nat→Bool):Bool:=ac (au ((Lib.join ws sep).length≤140737488355328)) (ac (au (ws.length≤140737488355328)) (K (.sy (.str (Lib.join ws sep))) .leaf 0))
noncomputable def Gn:dC:=fun us M _ K=>match us with
 |[a,s]=>sA s fun sep=>(match a with
  |.nilS=>KO [] sep K
  |.sl 0 0 n c=>(match M.get 0 with
   |some (.blk g _ 1 els)=>ac (Nat.ble n (eG els)) (ac (abM g n c) (YO (els.take n) fun ws=>KO ws sep K))
   |_=>false)
  |.sy (.prow 0 n)=>(match M.get 0 with
   |some (.prow _ 1 _ l enc)=>aI fun ws:List (List UInt8)=>ac (au (l.map enc=ws.map MT)) (ac (au (n=ws.length)) (KO ws sep K))
   |_=>false)
  |.sy (.imm _ 1 _ l enc)=>aI fun ws:List (List UInt8)=>ac (au (l.map enc=ws.map MT)) (KO ws sep K)
  |_=>false)
 |_=>false
theorem MD {α:Type} {l:List α} {enc:α→List PL} {ws:List (List UInt8)} (h:l.map enc=ws.map MT):l.flatMap enc=ws.map PL.sstr:=by
 rw[List.flatMap_def,h]
 clear h
 induction ws with
 |nil=>rfl
 |cons a r ih=>
  show PL.sstr a::(List.map MT r).flatten=PL.sstr a::List.map PL.sstr r
  rw[ih]
theorem BU {α:Type} {l:List α} {enc:α→List PL} {ws:List UInt8} (h:l.map enc=ws.map bi):l.flatMap enc=ws.map fun x=>PL.sint 1 (x.toNat:Int):=by
 rw[List.flatMap_def,h]
 clear h
 induction ws with
 |nil=>rfl
 |cons a r ih=>
  show PL.sint 1 (a.toNat:Int)::(List.map bi r).flatten=PL.sint 1 (a.toNat:Int)::List.map (fun x=>PL.sint 1 (x.toNat:Int)) r
  rw[ih]
theorem OO {α:Type} {l:List α} {m j:Nat} {y:α} (h:(l.take m)[j]?=some y):l[j]?=some y:=by
 rw[List.getElem?_take]at h
 split at h
 ·exact h
 ·cases h
theorem SU {f:Nat} (hJ:∀(bk o c:Nat) (ws:List (List UInt8)) (sep:List UInt8) (w:World),(∀(j:Nat) x,ws[j]?=some x→w.cell? ⟨bk,o+j,none⟩=some (S x))→bk<w.heap.size→ws.length≤140737488355328→ws.length≤c→(Lib.join ws sep).length≤140737488355328→
   Calls P f #[.slice (some ⟨bk,o,none⟩) ws.length c,S sep] w fun e w'=>e= .returned (S (Lib.join ws sep))∧Below w.heap.size w w')
  (hN:∀(a:Option Addr) (c:Nat) (sep:List UInt8) (w:World),Calls P f #[.slice a 0 c,S sep] w fun e w'=>e= .returned (S (Lib.join [] sep))∧Below w.heap.size w w'):cY P f 0 Gn:=by
 intro us xs E ρ G F M nx w K R hE hs hd hk hr
 unfold Gn at hk
 split at hk
 case h_2=>cases hk
 rename_i a s
 obtain⟨xa,ys,d1,d2,rfl⟩:=bu hd
 obtain⟨xs',ys2,d3,d4,rfl⟩:=bu d2
 obtain rfl:ys2=[]:=by simpa[aR] using d4.symm
 obtain⟨sep,e1,hk1⟩:=Qq (E:=E) (ρ:=ρ) hk
 clear hk
 have hk:=hk1
 clear hk1
 obtain rfl:xs'=S sep:=ac1 (d3.symm.trans e1)
 split at hk
 ·obtain rfl:xa= .slice none 0 0:=by simpa[den] using d1.symm
  obtain⟨l1,hk⟩:=aa hk
  obtain⟨l2,hk⟩:=aa hk
  exact Du hE hs (hN none 0 sep w) hk hr
 ·rename_i n c
  split at hk
  case h_2=>cases hk
  rename_i g T els hM
  obtain⟨hn,hk⟩:=aw hk
  obtain⟨hc,hk⟩:=aw hk
  obtain⟨ws,vs,e2,e3,hk⟩:=RS (E:=E) (ρ:=ρ) hk
  obtain⟨l1,hk⟩:=aa hk
  obtain⟨l2,hk⟩:=aa hk
  rw[cT,Nat.ble_eq]at hn
  obtain⟨e,ob,r0,hheap,_,_,arr,xs0,rfl,hdd,hR⟩:=hs.obj hM (fun _=>rfl)
  obtain rfl:xa= .slice (some ⟨e.b,0,none⟩) n (dF e c):=by simpa[den,r0] using d1.symm
  have hlv:vs.length=n:=by
   have:=congrArg List.length e2
   simpa[hn] using this.symm
  have hlw:ws.length=n:=by
   have:=cV e3
   simpa[hlv] using this
  have hsp:els.flatten=vs++(els.drop n).flatten:=by
   conv=>lhs;rw[←List.take_append_drop n els,List.flatten_append,e2]
   congr 1
   clear e2 e3 hlv
   induction vs with
   |nil=>rfl
   |cons v r ih=>simpa using ih
  rw[hsp]at hdd
  obtain⟨xs1,xs2,f1,f2,rfl⟩:=eJ hdd
  obtain rfl:xs1=ws.map S:=ac1 (f1.symm.trans e3)
  have hcell:∀(j:Nat) x,ws[j]?=some x→arr.toList[j]?=some (S x):=by
   intro j x hx
   have hj:(ws.map S++xs2)[j]?=some (S x):=by
    rw[List.getElem?_append_left (by rw[acE];exact(List.getElem?_eq_some_iff.1 hx).1)]
    simp[hx]
   cases g with
   |false=>exact(show arr.toList=_ from hR)▸hj
   |true=>
    obtain⟨_,q,_⟩:=(show arr.size=e.cap*1∧arr.toList.take (els.length*1)=ws.map S++xs2∧els.length≤e.cap∧e.cap≤maxLen from hR)
    rw[←q]at hj
    exact OO hj
  have hcap:n≤dF e c:=by
   unfold abM at hc
   split at hc
   ·exact Nat.le_of_ble_eq_true hc
   ·subst hc
    obtain⟨_,_,q,_⟩:=(show arr.size=e.cap*1∧arr.toList.take (els.length*1)=ws.map S++xs2∧els.length≤e.cap∧e.cap≤maxLen from hR)
    show n≤e.cap - 0
    omega
   ·cases hc
  have:=hJ e.b 0 (dF e c) ws sep w (fun j x hx=>by
   have:=hcell j x hx
   simp only[World.cell?,hheap,Nat.zero_add]
   simpa using this) (bQ hheap) l2 (by omega) l1
  rw[hlw]at this
  exact Du hE hs this hk hr
 ·rename_i n
  split at hk
  case h_2=>cases hk
  rename_i T α l enc hM
  obtain⟨ws,hk2⟩:=bL hk
  obtain⟨e2,hk3⟩:=aa hk2
  obtain⟨en,hk4⟩:=aa hk3
  obtain⟨l1,hk5⟩:=aa hk4
  obtain⟨l2,hk6⟩:=aa hk5
  clear hk hk2 hk3 hk4 hk5
  subst en
  have hll:l.length=ws.length:=by simpa using congrArg List.length e2
  obtain⟨e,r0,⟨hB,ob,hheap,arr,xs0,rfl,_,_,hdd,hsz,htk,hle,hmx⟩|⟨hB,hnil,_⟩⟩:=hs.objP hM
  ·obtain⟨cc,hcc⟩:∃cc,e.cap=cc+1:=by
    rcases h0:e.cap with _|cc
    ·simp[cG,h0]at hB
    ·exact⟨cc,rfl⟩
   obtain rfl:xa= .slice (some ⟨e.b,0,none⟩) ws.length cc:=by simpa[den,bz,r0,oI,hcc] using d1.symm
   rw[MD e2]at hdd
   obtain⟨_,rfl⟩:=tE hdd
   have:=hJ e.b 0 cc ws sep w (fun j x hx=>by
    have hj:((ws.map PL.sstr).map bR)[j]?=some (S x):=by simp[hx,bR]
    rw[←htk]at hj
    have:=OO hj
    simp only[World.cell?,hheap,Nat.zero_add]
    simpa using this) (bQ hheap) l2 (by omega) l1
   exact Du hE hs this hk6 hr
  ·have hc0:e.cap=0:=by simpa[cG] using hB
   subst hnil
   obtain rfl:ws=[]:=by simpa using e2.symm
   obtain rfl:xa= .slice none 0 0:=by simpa[den,bz,r0,oI,hc0] using d1.symm
   exact Du hE hs (hN none 0 sep w) hk6 hr
 ·rename_i h α l enc
  obtain⟨ws,hk⟩:=bL hk
  obtain⟨e2,hk⟩:=aa hk
  obtain⟨l1,hk⟩:=aa hk
  obtain⟨l2,hk⟩:=aa hk
  have hll:l.length=ws.length:=by simpa using congrArg List.length e2
  obtain⟨ok,rfl⟩:=iu (show iR E (.imm h 1 α l enc)=some xa by simpa[den,bz] using d1)
  cases ok with
  |imm ao cap hh h1 h2 h3 ha hl ho hr2=>
   subst hh
   show Calls P f #[.slice ao l.length cap,S sep] w R
   rcases Nat.eq_zero_or_pos l.length with h0|h0
   ·obtain rfl:ws=[]:=acZ (by omega)
    rw[h0]
    exact Du hE hs (hN ao cap sep w) hk hr
   ·have hc:∀(j:Nat) x,ws[j]?=some x→w.cell? ⟨blk ao,lI ao+j,none⟩=some (S x):=by
     intro j x hx
     have e3:(l.map enc)[j]?=some (MT x):=by rw[e2];simp[hx]
     rw[List.getElem?_map,acN]at e3
     obtain⟨y,hy,e4⟩:=e3
     have:=hr2 j y hy 0 (S x) (by rw[e4];rfl)
     simp only[Nat.mul_one,Nat.add_zero]at this
     exact hs.cellM this
    have hb:blk ao<w.heap.size:=by
     obtain⟨x,hx⟩:∃x,ws[0]?=some x:=⟨ws[0]'(by omega),by simp⟩
     have:=hc 0 x hx
     unfold World.cell? at this
     rcases hh:w.heap[blk ao]? with _|o
     ·simp[hh]at this
     ·exact bQ hh
    have:=hJ (blk ao) (lI ao) cap ws sep w hc hb l2 (by omega) l1
    rw[←ha h0,←hll]at this
    exact Du hE hs this hk hr
 ·cases hk
noncomputable def Nf (M:T) (b0:AV) (K:List UInt8→Bool):Bool:=match b0 with
 |.nilS=>K []
 |.sy (.prow 1 n)=>(match M.get 1 with
  |some (.prow 5 1 _ l enc)=>aI fun s:List UInt8=>ac (au (l.map enc=s.map bi)) (ac (au (n=s.length)) (K s))
  |_=>false)
 |_=>false
noncomputable def LX (a0:AV):Bool:=match a0 with
 |.nilP=>true
 |.ptr 0 0=>true
 |_=>false
noncomputable def mB (Ty:Nat) (s:List UInt8) (n:Nat):T:=.node (.node .leaf (some (.prow 5 1 UInt8 s bi)) .leaf) (some (.blk false Ty 2 [[.ptr 0 0,.sy (.prow 1 n)]])) .leaf
noncomputable def Nt (n:Nat) (l:List Nat):Bool:=List.rec false (fun m _ ih=>Bool.rec ih true (Nat.beq n m)) l
theorem yi:∀{n:Nat} {l:List Nat},Nt n l=true→n∈l
 |n,[],h=>by cases h
 |n,m::l,h=>by
  have h':(Bool.rec (Nt n l) true (Nat.beq n m):Bool)=true:=h
  cases hb:Nat.beq n m with
  |true=>rw[acG hb];simp
  |false=>rw[hb]at h';exact List.mem_cons_of_mem _ (yi h')
noncomputable def CR (Ts:List Nat):dC:=fun us M _ K=>match us with
 |[.ptr 0 0,s]=>(match M.get 0 with
  |some (.blk false Ty 2 [[a0,b0]])=>ac (Nt Ty Ts) (ac (LX a0) (Nf M b0 fun l=>sA s fun t=>ac (au (l.length+t.length≤140737488355328)) (K (.tup [.sy (.int 0 (t.length:Int)),.nilI]) (mB Ty (l++t) (l++t).length) 2)))
  |_=>false)
 |_=>false
noncomputable def Gp (Ts:List Nat):dC:=fun us M _ K=>match us with
 |[.ptr 0 0,c]=>(match M.get 0 with
  |some (.blk false Ty 2 [[a0,b0]])=>ac (Nt Ty Ts) (ac (LX a0) (Nf M b0 fun l=>zA 1 c fun z=>ac (au (aL 1 z)) (ac (au (l.length+1≤140737488355328)) (K .nilI (mB Ty (l++[ac0 z.toNat]) (l++[ac0 z.toNat]).length) 2))))
  |_=>false)
 |_=>false
noncomputable def KL (Ts:List Nat):dC:=fun us M _ K=>match us with
 |[.ptr 0 0]=>(match M.get 0 with
  |some (.blk false Ty 2 [[a0,b0]])=>ac (Nt Ty Ts) (ac (LX a0) (match b0 with
   |.nilS=>K (.sy (.str [])) .leaf 0
   |.sy (.prow 1 n)=>Nf M b0 fun l=>ac (au (l≠[])) (K (.sy (.str l)) .leaf 0)
   |_=>false))
  |_=>false)
 |_=>false
theorem IQ {M:T} {b0:AV} {K:List UInt8→Bool} (h:Nf M b0 K=true):∃s,((b0= .nilS∧s=[])∨(b0= .sy (.prow 1 s.length)∧∃α l,∃enc:α→List PL,M.get 1=some (.prow 5 1 α l enc)∧l.map enc=s.map bi))∧K s=true:=by
 unfold Nf at h
 split at h
 ·exact⟨[],.inl ⟨rfl,rfl⟩,h⟩
 ·split at h
  case h_2=>cases h
  rename_i α l enc hM
  obtain⟨s,h2⟩:=bL h
  obtain⟨e1,h3⟩:=aa h2
  obtain⟨en,h4⟩:=aa h3
  subst en
  exact⟨s,.inr ⟨rfl,α,l,enc,hM,e1⟩,h4⟩
 ·cases h
theorem Dl {a0:AV} (h:LX a0=true):a0= .nilP∨a0= .ptr 0 0:=by
 unfold LX at h
 split at h
 ·exact .inl rfl
 ·exact .inr rfl
 ·cases h
theorem Ah (hs:Sim E ρ G F M nx w) {Ty:Nat} {a0 b0:AV} {s:List UInt8} (h0:M.get 0=some (.blk false Ty 2 [[a0,b0]])) (ha:a0= .nilP∨a0= .ptr 0 0)
  (hb:(b0= .nilS∧s=[])∨(b0= .sy (.prow 1 s.length)∧∃α l,∃enc:α→List PL,M.get 1=some (.prow 5 1 α l enc)∧l.map enc=s.map bi)):
  ∃e p ao cap cr,ρ 0=some e∧(p= .pointer none∨p= .pointer (some ⟨e.b,0,none⟩))∧Row 5 1 ao s.length cap (s.map u8) cr∧(b0= .nilS→ao=none)∧Holds {G with M:=E.M} w (((e.b,.cells #[p,.slice ao s.length cap] Ty (0,0))::cr)::F):=by
 obtain⟨c0,hh,ho,hj⟩:=hs.ex
 obtain⟨e,r0,⟨_,ob,hm,_,_,arr,xs,rfl,hd,hR⟩|⟨q,_⟩⟩:=ho 0 _ h0
 case inr=>cases q
 have hR:arr.toList=xs:=hR
 obtain⟨x0,ys,d0,d1,rfl⟩:=bu (show aR E ρ [a0,b0]=some xs from hd)
 obtain⟨x1,zs,d2,d3,rfl⟩:=bu d1
 obtain rfl:zs=[]:=by simpa[aR] using d3.symm
 have harr:arr= #[x0,x1]:=Array.toList_inj.1 hR
 subst harr
 have hp:x0= .pointer none∨x0= .pointer (some ⟨e.b,0,none⟩):=by
  rcases ha with rfl|rfl
  ·exact .inl (by simpa[den] using d0.symm)
  ·exact .inr (by simpa[den,r0] using d0.symm)
 rcases hb with⟨rfl,rfl⟩|⟨rfl,α,l,enc,hM,e1⟩
 ·obtain rfl:x1= .slice none 0 0:=by simpa[den] using d2.symm
  exact⟨e,x0,none,0,[],r0,hp,Row.nil 5 1,fun _=>rfl,hh.pick1 hm⟩
 ·have hll:l.length=s.length:=by simpa using congrArg List.length e1
  obtain⟨f,r1,⟨hB,ob1,hm1,arr1,xs1,rfl,_,_,hdd,hsz,htk,hle,hmx⟩|⟨hB,hnil,_⟩⟩:=ho 1 _ hM
  ·obtain⟨cc,hcc⟩:∃cc,f.cap=cc+1:=by
    rcases h0:f.cap with _|cc
    ·simp[cG,h0]at hB
    ·exact⟨cc,rfl⟩
   obtain rfl:x1= .slice (some ⟨f.b,0,none⟩) s.length cc:=by simpa[den,bz,r1,oI,hcc] using d2.symm
   rw[BU e1]at hdd
   obtain⟨_,rfl⟩:=tE hdd
   have hne:e.b≠f.b:=fun q=>by
    have:=hj 0 1 e f _ _ h0 hM r0 r1 rfl hB q
    omega
   refine⟨e,x0,_,cc,[(f.b,.cells arr1 5 (0,0))],r0,hp,⟨by simp,.inr ⟨f.b,arr1,rfl,rfl,by omega,by omega,by rw[hsz,hcc];simp,?_⟩⟩,fun q=>(by cases q),hh.pick2 hm hm1 hne⟩
   rw[←hll,htk]
   simp[bR,dc,u8,Function.comp_def]
  ·have hc0:f.cap=0:=by simpa[cG] using hB
   subst hnil
   obtain rfl:s=[]:=by simpa using e1.symm
   obtain rfl:x1= .slice none 0 0:=by simpa[den,bz,r1,oI,hc0] using d2.symm
   exact⟨e,x0,none,0,[],r0,hp,Row.nil 5 1,fun _=>rfl,hh.pick1 hm⟩
theorem LO (Ty:Nat) (s:List UInt8) (n:Nat):∀i o,(mB Ty s n).get i=some o→(i=0∧o= .blk false Ty 2 [[.ptr 0 0,.sy (.prow 1 n)]])∨(i=1∧o= .prow 5 1 UInt8 s bi)
 |0,o,h=>by cases h;exact .inl ⟨rfl,rfl⟩
 |1,o,h=>by cases h;exact .inr ⟨rfl,rfl⟩
 |m+2,o,h=>by
  exfalso
  unfold mB at h
  rcases Nat.mod_two_eq_zero_or_one (m+1) with q|q
  ·rw[T.get_even _ _ _ _ q]at h
   obtain⟨k,hk⟩:∃k,(m+1) / 2=k+1:=⟨(m+1) / 2 - 1,by omega⟩
   rw[hk]at h
   rcases Nat.mod_two_eq_zero_or_one k with q|q
   ·rw[T.get_even _ _ _ _ q,T.get_leaf]at h;cases h
   ·rw[T.get_odd _ _ _ _ q,T.get_leaf]at h;cases h
  ·rw[T.get_odd _ _ _ _ q,T.get_leaf]at h;cases h
theorem Ko (hs:Sim E ρ G F M nx w) {G':GS} {w':World} {Ty:Nat} {e:eH} {s:List UInt8} {c:aH} (hG:GS.Le {G with M:=E.M} G') (hh:Holds G' w' (c::F)) (hb:BuildS Ty e.b s c):
  ∃ρ',ρ' 0=some e∧Sim ⟨E.at_,G'.M⟩ ρ' G F (mB Ty s s.length) 2 w':=by
 obtain⟨p,ao,cap,cr,rfl,hr,rfl⟩:=hb
 have hh:=Holds.withM hG hh
 have hm:MLe G.M G'.M:=MLe.trans hs.mem (fun b o h=>hG.mem b o h)
 have key:∀f:eH,((cG f (.prow 5 1 UInt8 s bi)=true∧f.b≠e.b∧∃ob,(f.b,ob)∈cr∧ORel ⟨E.at_,G'.M⟩ (fun i=>match i with|0=>some e|1=>some f|_=>none) f (.prow 5 1 UInt8 s bi) ob)∨(cG f (.prow 5 1 UInt8 s bi)=false∧s=[]))→oI f s.length=some (.slice ao s.length cap)→
   ∃ρ':Ren,ρ' 0=some e∧Sim ⟨E.at_,G'.M⟩ ρ' G F (mB Ty s s.length) 2 w':=by
  intro f hf hv
  refine⟨fun i=>match i with|0=>some e|1=>some f|_=>none,rfl,⟨_,hh,fun i o hi=> ?_,fun i j e1 e2 o1 o2 hi hj he1 he2 hb1 hb2 hb=> ?_⟩,hm,fun i hi=> ?_⟩
  ·rcases LO _ _ _ i o hi with⟨rfl,rfl⟩|⟨rfl,rfl⟩
   ·refine⟨e,rfl,.inl ⟨rfl,_,List.mem_cons_self,fun l hl=> ?_,by decide,_,_,rfl,?_,rfl⟩⟩
    ·simp only[List.mem_cons,List.not_mem_nil,or_false]at hl
     subst hl;rfl
    ·simp[aR,den,bz,hv]
   ·refine⟨f,rfl,?_⟩
    rcases hf with⟨h1,_,ob,h2,h3⟩|⟨h1,h2⟩
    ·exact .inl ⟨h1,ob,List.mem_cons_of_mem _ h2,h3⟩
    ·exact .inr ⟨h1,h2,by decide⟩
  ·rcases LO _ _ _ i o1 hi with⟨rfl,rfl⟩|⟨rfl,rfl⟩<;>rcases LO _ _ _ j o2 hj with⟨rfl,rfl⟩|⟨rfl,rfl⟩
   ·rfl
   ·cases he1;cases he2
    rcases hf with⟨_,h1,_⟩|⟨h1,_⟩
    ·exact absurd hb.symm h1
    ·rw[h1]at hb2;cases hb2
   ·cases he1;cases he2
    rcases hf with⟨_,h1,_⟩|⟨h1,_⟩
    ·exact absurd hb h1
    ·rw[h1]at hb1;cases hb1
   ·rfl
  ·match i,hi with
   |m+2,_=>rfl
 rcases hr.form with⟨rfl,h0,rfl,rfl⟩|⟨g,cur,rfl,rfl,h1,h2,h3,h4⟩
 ·have:s=[]:=acZ h0
  subst this
  exact key ⟨0,0⟩ (.inr ⟨rfl,rfl⟩) rfl
 ·refine key ⟨g,cap+1⟩ (.inl ⟨rfl,?_,_,List.mem_cons_self,cur,s.map u8,rfl,by decide,fun x _=>rfl,?_,by simpa using h3,by simpa using h4,by simpa using h1,by simpa using h2⟩) (by simp[oI])
  ·intro q
   have:=hh.nodup
   simp only[acI,List.cons_append,List.nil_append,acJ,List.nodup_cons,List.mem_cons]at this
   exact this.1 (.inl q.symm)
  ·have e1:s.flatMap bi=s.map fun x=>PL.sint 1 (x.toNat:Int):=BU rfl
   rw[e1,uY (fun p hp=>by obtain⟨x,_,rfl⟩:=List.mem_map.1 hp;exact .sint _ _)]
   simp[bR,dc,u8,Function.comp_def]
theorem QH {f:Nat} {Ts:List Nat} {BT:Nat→Prop} (hT:∀Ty∈Ts,BT Ty) (hW:∀(Ty b:Nat) (l:List UInt8) (c:aH) (t:List UInt8) (G:GS) (w:World) (F:List aH),BT Ty→yr Ty b l c→l.length+t.length≤140737488355328→Holds G w (c::F)→
   Calls P f #[.pointer (some ⟨b,0,none⟩),S t] w (IV G F fun _ v c1=>v= .tuple #[.int .i64 (t.length:Int),.nilIface]∧BuildS Ty b (l++t) c1)):cY P f 1 (CR Ts):=by
 intro us xs E ρ G F M nx w K R hE hs hd hk hr
 unfold CR at hk
 split at hk
 case h_2=>cases hk
 rename_i s
 split at hk
 case h_2=>cases hk
 rename_i Ty a0 b0 hM
 obtain⟨q1,hk⟩:=aw hk
 obtain⟨q2,hk⟩:=aw hk
 obtain⟨l,q3,hk⟩:=IQ hk
 obtain⟨t,q4,hk⟩:=Qq (E:=E) (ρ:=ρ) hk
 obtain⟨q5,hk⟩:=aa hk
 obtain⟨e,p,ao,cap,cr,r0,hp,hrow,_,hh⟩:=Ah hs hM (Dl q2) q3
 obtain⟨x0,ys,d1,d2,rfl⟩:=bu hd
 obtain⟨x1,ys2,d3,d4,rfl⟩:=bu d2
 obtain rfl:ys2=[]:=by simpa[aR] using d4.symm
 obtain rfl:x1=S t:=ac1 (d3.symm.trans q4)
 obtain rfl:x0= .pointer (some ⟨e.b,0,none⟩):=by simpa[den,r0] using d1.symm
 refine(hW Ty e.b l _ t {G with M:=E.M} w F (hT _ (yi q1)) ⟨p,ao,cap,cr,hp,hrow,rfl⟩ q5 hh).mono fun e' w' ⟨v,G',c',he,hG,hh',hv,hb⟩=> ?_
 subst he;subst hv
 obtain⟨ρ',r1,hs'⟩:=Ko hs hG hh' hb
 refine hr _ _ _ ⟨E.at_,G'.M⟩ ρ' w' _ hk ⟨hE.1,Tied.mono (fun b o h=>hG.mem b o h) hE.2⟩ (fun b o h=>hG.mem b o h) (fun i e2 hi he2=> ?_) hs' (by simp[den,aR,bz,dc])
 obtain rfl:i=0:=by omega
 rw[r0]at he2;cases he2;exact r1
theorem SV {f:Nat} {Ts:List Nat} {BT:Nat→Prop} (hT:∀Ty∈Ts,BT Ty) (hW:∀(Ty b:Nat) (l:List UInt8) (c:aH) (z:Int) (G:GS) (w:World) (F:List aH),BT Ty→yr Ty b l c→0≤z∧z≤255→l.length+1≤140737488355328→Holds G w (c::F)→
   Calls P f #[.pointer (some ⟨b,0,none⟩),.int .u8 z] w (IV G F fun _ v c1=>v= .nilIface∧BuildS Ty b (l++[ac0 z.toNat]) c1)):cY P f 1 (Gp Ts):=by
 intro us xs E ρ G F M nx w K R hE hs hd hk hr
 unfold Gp at hk
 split at hk
 case h_2=>cases hk
 rename_i s
 split at hk
 case h_2=>cases hk
 rename_i Ty a0 b0 hM
 obtain⟨q1,hk⟩:=aw hk
 obtain⟨q2,hk⟩:=aw hk
 obtain⟨l,q3,hk⟩:=IQ hk
 obtain⟨z,q4,hk⟩:=mZ (E:=E) (ρ:=ρ) hk
 obtain⟨q6,hk⟩:=aa hk
 obtain⟨q5,hk⟩:=aa hk
 obtain⟨e,p,ao,cap,cr,r0,hp,hrow,_,hh⟩:=Ah hs hM (Dl q2) q3
 obtain⟨x0,ys,d1,d2,rfl⟩:=bu hd
 obtain⟨x1,ys2,d3,d4,rfl⟩:=bu d2
 obtain rfl:ys2=[]:=by simpa[aR] using d4.symm
 obtain rfl:=q4 x1 d3
 obtain rfl:x0= .pointer (some ⟨e.b,0,none⟩):=by simpa[den,r0] using d1.symm
 refine(hW Ty e.b l _ z {G with M:=E.M} w F (hT _ (yi q1)) ⟨p,ao,cap,cr,hp,hrow,rfl⟩ q6 q5 hh).mono fun e' w' ⟨v,G',c',he,hG,hh',hv,hb⟩=> ?_
 subst he;subst hv
 obtain⟨ρ',r1,hs'⟩:=Ko hs hG hh' hb
 refine hr _ _ _ ⟨E.at_,G'.M⟩ ρ' w' _ hk ⟨hE.1,Tied.mono (fun b o h=>hG.mem b o h) hE.2⟩ (fun b o h=>hG.mem b o h) (fun i e2 hi he2=> ?_) hs' (by simp[den])
 obtain rfl:i=0:=by omega
 rw[r0]at he2;cases he2;exact r1
theorem Vl {f:Nat} {Ts:List Nat} {BT:Nat→Prop} (hT:∀Ty∈Ts,BT Ty) (hW:∀(Ty b:Nat) (l:List UInt8) (c:aH) (G:GS) (w:World) (F:List aH),BT Ty→BuildC Ty b l c→Holds G w (c::F)→
   Calls P f #[.pointer (some ⟨b,0,none⟩)] w (Ret G F fun _ v=>v=S l)):cY P f 0 (KL Ts):=by
 intro us xs E ρ G F M nx w K R hE hs hd hk hr
 unfold KL at hk
 split at hk
 case h_2=>cases hk
 split at hk
 case h_2=>cases hk
 rename_i Ty a0 b0 hM
 obtain⟨q1,hk⟩:=aw hk
 obtain⟨q2,hk⟩:=aw hk
 obtain⟨x0,ys,d1,d2,rfl⟩:=bu hd
 obtain rfl:ys=[]:=by simpa[aR] using d2.symm
 split at hk
 ·obtain⟨e,p,ao,cap,cr,r0,hp,hrow,hn,hh⟩:=Ah (s:=[]) hs hM (Dl q2) (.inl ⟨rfl,rfl⟩)
  obtain rfl:x0= .pointer (some ⟨e.b,0,none⟩):=by simpa[den,r0] using d1.symm
  exact Dt hE hs (hW Ty e.b [] _ {G with M:=E.M} w F (hT _ (yi q1)) ⟨p,ao,cap,cr,hp,hrow,fun _=>hn rfl,rfl⟩ hh) hk hr
 ·obtain⟨l,q3,hk⟩:=IQ hk
  obtain⟨q5,hk⟩:=aa hk
  obtain⟨e,p,ao,cap,cr,r0,hp,hrow,hn,hh⟩:=Ah hs hM (Dl q2) q3
  obtain rfl:x0= .pointer (some ⟨e.b,0,none⟩):=by simpa[den,r0] using d1.symm
  exact Dt hE hs (hW Ty e.b l _ {G with M:=E.M} w F (hT _ (yi q1)) ⟨p,ao,cap,cr,hp,hrow,fun q=>absurd q q5,rfl⟩ hh) hk hr
 ·cases hk
end
end Go.Sy
namespace Go.Proofs
open Go.Shelf
def Tryz.lays156_ren:Go.Shelf.Ren:=⟨fun|156=>64|165=>83|166=>63|169=>34|240=>82|241=>88|276=>87|277=>93|n=>n,fun|31=>143|9=>9|3=>3|4=>4|0=>0|20=>20|72=>129|76=>181|70=>126|37=>127|75=>180|127=>187|164=>207|5=>5|80=>136|n=>n,fun|n=>n⟩
theorem Tryz.lays156:Go.Proofs.Lays.n156 Tryz.prog Tryz.lays156_ren:={
 mixed:=by kernel_rfl
 f156:=Tryz.func64.trans (congrArg some (by kernel_rfl))
 f165:=Tryz.func83.trans (congrArg some (by kernel_rfl))
 f166:=Tryz.func63.trans (congrArg some (by kernel_rfl))
 f169:=Tryz.func34.trans (congrArg some (by kernel_rfl))
 f240:=Tryz.func82.trans (congrArg some (by kernel_rfl))
 f241:=Tryz.func88.trans (congrArg some (by kernel_rfl))
 f276:=Tryz.func87.trans (congrArg some (by kernel_rfl))
 f277:=Tryz.func93.trans (congrArg some (by kernel_rfl))
 t0:=Tryz.underlying0
 a0:=Tryz.isAgg0
 z0:=Tryz.sizeOf0
 v0:=Tryz.zeroValue0
 t3:=Tryz.underlying3
 a3:=Tryz.isAgg3
 z3:=Tryz.sizeOf3
 v3:=Tryz.zeroValue3
 t4:=Tryz.underlying4
 a4:=Tryz.isAgg4
 z4:=Tryz.sizeOf4
 v4:=Tryz.zeroValue4
 t9:=Tryz.underlying9
 a9:=Tryz.isAgg9
 z9:=Tryz.sizeOf9
 v9:=Tryz.zeroValue9
 t20:=Tryz.underlying20
 a20:=Tryz.isAgg20
 z20:=Tryz.sizeOf20
 v20:=Tryz.zeroValue20
 t31:=Tryz.underlying143
 a31:=Tryz.isAgg143
 z31:=Tryz.sizeOf143
 v31:=Tryz.zeroValue143
 t37:=Tryz.underlying127
 a37:=Tryz.isAgg127
 z37:=Tryz.sizeOf127
 v37:=Tryz.zeroValue127
 t70:=Tryz.underlying126
 a70:=Tryz.isAgg126
 z70:=Tryz.sizeOf126
 v70:=Tryz.zeroValue126
 t72:=Tryz.underlying129
 a72:=Tryz.isAgg129
 z72:=Tryz.sizeOf129
 v72:=Tryz.zeroValue129
 t75:=Tryz.underlying180
 a75:=Tryz.isAgg180
 z75:=Tryz.sizeOf180
 v75:=Tryz.zeroValue180
 t76:=Tryz.underlying181
 a76:=Tryz.isAgg181
 z76:=Tryz.sizeOf181
 v76:=Tryz.zeroValue181
 t127:=Tryz.underlying187
 a127:=Tryz.isAgg187
 z127:=Tryz.sizeOf187
 v127:=Tryz.zeroValue187
 t164:=Tryz.underlying207
 a164:=Tryz.isAgg207
 z164:=Tryz.sizeOf207
 v164:=Tryz.zeroValue207}
theorem Tryz.Builder_Extra_156:Builder.Extra Tryz.prog Tryz.lays156_ren:={
 sizeBuilder:=by kernel_rfl
 liesBuilder:=by kernel_rfl
 t5:=Tryz.underlying5
 a5:=Tryz.isAgg5
 z5:=Tryz.sizeOf5
 v5:=Tryz.zeroValue5
 infoByte:=by kernel_rfl
 cellsByte:=by kernel_rfl
 sizeByte:=by kernel_rfl
 neB5:=by decide}
open Go.RowKit in
theorem Tryz.strings_Join_none (a:Option Addr) (c:Nat) (sep:ByteArray) (w:World):
  Calls Tryz.prog 64 #[.slice a 0 c,.string sep] w fun e w'=>e= .returned (.string ⟨#[]⟩)∧w'=w:=Any.strings_Join_none Tryz.lays156 Tryz.Builder_Extra_156 a c sep w
open Go.RowKit in
theorem Tryz.strings_Join (bk o c:Nat) (xs:List ByteArray) (sep:ByteArray) (w:World) (hcells:∀(j:Nat) x,xs[j]?=some x→w.cell? ⟨bk,o+j,none⟩=some (.string x)) (hbk:bk<w.heap.size) (hN:xs.length≤140737488355328) (hcap:xs.length≤c) (hlen:(Lib.join (xs.map (·.data.toList)) sep.data.toList).length≤140737488355328):
  Calls Tryz.prog 64 #[.slice (some ⟨bk,o,none⟩) xs.length c,.string sep] w fun e w'=>e= .returned (.string ⟨(Lib.join (xs.map (·.data.toList)) sep.data.toList).toArray⟩)∧Below w.heap.size w w':=Any.strings_Join Tryz.lays156 Tryz.Builder_Extra_156 bk o c xs sep w hcells hbk hN hcap hlen
def Tryz.lays283_ren:Go.Shelf.Ren:=⟨fun|283=>89|n=>n,fun|3=>3|9=>9|4=>4|n=>n,fun|n=>n⟩
theorem Tryz.lays283:Go.Proofs.Lays.n283 Tryz.prog Tryz.lays283_ren:={
 mixed:=by kernel_rfl
 f283:=Tryz.func89.trans (congrArg some (by kernel_rfl))
 t3:=Tryz.underlying3
 a3:=Tryz.isAgg3
 z3:=Tryz.sizeOf3
 v3:=Tryz.zeroValue3
 t4:=Tryz.underlying4
 a4:=Tryz.isAgg4
 z4:=Tryz.sizeOf4
 v4:=Tryz.zeroValue4
 t9:=Tryz.underlying9
 a9:=Tryz.isAgg9
 z9:=Tryz.sizeOf9
 v9:=Tryz.zeroValue9}
open Go.Lib in
theorem Tryz.internal_strconv_small (i:Nat) (h:i<100) (w:World):
  Calls Tryz.prog 89 #[.int .i64 i] w fun e w'=>e= .returned (.string ⟨(Lib.decDigits i).toArray⟩)∧w'=w:=Any.internal_strconv_small Tryz.lays283 i h w
def Tryz.laysM246_ren:Go.Shelf.Ren:=⟨fun|246=>84|283=>89|284=>90|285=>91|286=>92|129=>95|317=>94|318=>96|319=>97|320=>98|337=>99|338=>100|n=>n,fun|2=>2|3=>3|9=>9|4=>4|171=>209|0=>0|53=>210|37=>127|5=>5|173=>213|212=>218|51=>40|20=>20|213=>219|46=>221|232=>224|233=>225|n=>n,fun|17=>0|18=>2|19=>3|n=>n⟩
def Tryz.laysM243_ren:Go.Shelf.Ren:=⟨fun|243=>66|246=>84|283=>89|284=>90|285=>91|286=>92|129=>95|317=>94|318=>96|319=>97|320=>98|337=>99|338=>100|n=>n,fun|3=>3|9=>9|2=>2|4=>4|171=>209|0=>0|53=>210|37=>127|5=>5|173=>213|212=>218|51=>40|20=>20|213=>219|46=>221|232=>224|233=>225|n=>n,fun|17=>0|18=>2|19=>3|n=>n⟩
def Tryz.laysM171_ren:Go.Shelf.Ren:=⟨fun|171=>32|243=>66|246=>84|283=>89|284=>90|285=>91|286=>92|129=>95|317=>94|318=>96|319=>97|320=>98|337=>99|338=>100|n=>n,fun|3=>3|9=>9|2=>2|4=>4|171=>209|0=>0|53=>210|37=>127|5=>5|173=>213|212=>218|51=>40|20=>20|213=>219|46=>221|232=>224|233=>225|n=>n,fun|17=>0|18=>2|19=>3|n=>n⟩
theorem Tryz.laysM171:Go.Proofs.LaysM.n171 Tryz.prog Tryz.laysM171_ren:={
 mixed:=by kernel_rfl
 f129:=Tryz.func95.trans (congrArg some (by kernel_rfl))
 f171:=Tryz.func32.trans (congrArg some (by kernel_rfl))
 f243:=Tryz.func66.trans (congrArg some (by kernel_rfl))
 f246:=Tryz.func84.trans (congrArg some (by kernel_rfl))
 f283:=Tryz.func89.trans (congrArg some (by kernel_rfl))
 f284:=Tryz.func90.trans (congrArg some (by kernel_rfl))
 f285:=Tryz.func91.trans (congrArg some (by kernel_rfl))
 f286:=Tryz.func92.trans (congrArg some (by kernel_rfl))
 f317:=Tryz.func94.trans (congrArg some (by kernel_rfl))
 f318:=Tryz.func96.trans (congrArg some (by kernel_rfl))
 f319:=Tryz.func97.trans (congrArg some (by kernel_rfl))
 f320:=Tryz.func98.trans (congrArg some (by kernel_rfl))
 f337:=Tryz.func99.trans (congrArg some (by kernel_rfl))
 f338:=Tryz.func100.trans (congrArg some (by kernel_rfl))
 t0:=Tryz.underlying0
 a0:=Tryz.isAgg0
 z0:=Tryz.sizeOf0
 v0:=Tryz.zeroValue0
 t2:=Tryz.underlying2
 a2:=Tryz.isAgg2
 z2:=Tryz.sizeOf2
 v2:=Tryz.zeroValue2
 t3:=Tryz.underlying3
 a3:=Tryz.isAgg3
 z3:=Tryz.sizeOf3
 v3:=Tryz.zeroValue3
 t4:=Tryz.underlying4
 a4:=Tryz.isAgg4
 z4:=Tryz.sizeOf4
 v4:=Tryz.zeroValue4
 t5:=Tryz.underlying5
 a5:=Tryz.isAgg5
 z5:=Tryz.sizeOf5
 v5:=Tryz.zeroValue5
 t9:=Tryz.underlying9
 a9:=Tryz.isAgg9
 z9:=Tryz.sizeOf9
 v9:=Tryz.zeroValue9
 t20:=Tryz.underlying20
 a20:=Tryz.isAgg20
 z20:=Tryz.sizeOf20
 v20:=Tryz.zeroValue20
 t37:=Tryz.underlying127
 a37:=Tryz.isAgg127
 z37:=Tryz.sizeOf127
 v37:=Tryz.zeroValue127
 t46:=Tryz.underlying221
 a46:=Tryz.isAgg221
 z46:=Tryz.sizeOf221
 v46:=Tryz.zeroValue221
 t51:=Tryz.underlying40
 a51:=Tryz.isAgg40
 z51:=Tryz.sizeOf40
 v51:=Tryz.zeroValue40
 t53:=Tryz.underlying210
 a53:=Tryz.isAgg210
 z53:=Tryz.sizeOf210
 v53:=Tryz.zeroValue210
 t171:=Tryz.underlying209
 a171:=Tryz.isAgg209
 z171:=Tryz.sizeOf209
 v171:=Tryz.zeroValue209
 t173:=Tryz.underlying213
 a173:=Tryz.isAgg213
 z173:=Tryz.sizeOf213
 v173:=Tryz.zeroValue213
 t212:=Tryz.underlying218
 a212:=Tryz.isAgg218
 z212:=Tryz.sizeOf218
 v212:=Tryz.zeroValue218
 t213:=Tryz.underlying219
 a213:=Tryz.isAgg219
 z213:=Tryz.sizeOf219
 t232:=Tryz.underlying224
 a232:=Tryz.isAgg224
 z232:=Tryz.sizeOf224
 v232:=Tryz.zeroValue224
 t233:=Tryz.underlying225
 a233:=Tryz.isAgg225
 z233:=Tryz.sizeOf225
 v233:=Tryz.zeroValue225
 g17:=by kernel_rfl
 g18:=by kernel_rfl
 g19:=by kernel_rfl
 i0:=by kernel_rfl
 i2:=by kernel_rfl
 i3:=by kernel_rfl
 i4:=by kernel_rfl
 i5:=by kernel_rfl
 i9:=by kernel_rfl
 i20:=by kernel_rfl
 i37:=by kernel_rfl
 i46:=by kernel_rfl
 i51:=by kernel_rfl
 i53:=by kernel_rfl
 i171:=by kernel_rfl
 i173:=by kernel_rfl
 i212:=by kernel_rfl
 i232:=by kernel_rfl
 i233:=by kernel_rfl
 m17:=by kernel_rfl
 m18:=by kernel_rfl
 m19:=by kernel_rfl}
open Go.RowKit Go.Sort Go.Lib in
theorem Tryz.strconv_Itoa (n:Int) (h0: -9223372036854775808≤n) (h1:n≤9223372036854775807) (w:World) (htab:Lib.TabIs Tryz.prog w "internal/strconv.uint64pow10" .u64 Lib.pow10Tab):
  Calls Tryz.prog 32 #[.int .i64 n] w fun e w'=>e= .returned (.string ⟨(Lib.itoa n).toArray⟩)∧∃k os,w'=grow (w.drewN k) os:=Any.strconv_Itoa Tryz.laysM171 n h0 h1 w htab
def Tryz.laysM173_ren:Go.Shelf.Ren:=⟨fun|173=>85|246=>84|283=>89|284=>90|285=>91|286=>92|129=>95|317=>94|318=>96|319=>97|320=>98|337=>99|338=>100|n=>n,fun|2=>2|3=>3|9=>9|4=>4|171=>209|0=>0|53=>210|37=>127|5=>5|173=>213|212=>218|51=>40|20=>20|213=>219|46=>221|232=>224|233=>225|n=>n,fun|17=>0|18=>2|19=>3|n=>n⟩
theorem Tryz.laysM173:Go.Proofs.LaysM.n173 Tryz.prog Tryz.laysM173_ren:={
 mixed:=by kernel_rfl
 f129:=Tryz.func95.trans (congrArg some (by kernel_rfl))
 f173:=Tryz.func85.trans (congrArg some (by kernel_rfl))
 f246:=Tryz.func84.trans (congrArg some (by kernel_rfl))
 f283:=Tryz.func89.trans (congrArg some (by kernel_rfl))
 f284:=Tryz.func90.trans (congrArg some (by kernel_rfl))
 f285:=Tryz.func91.trans (congrArg some (by kernel_rfl))
 f286:=Tryz.func92.trans (congrArg some (by kernel_rfl))
 f317:=Tryz.func94.trans (congrArg some (by kernel_rfl))
 f318:=Tryz.func96.trans (congrArg some (by kernel_rfl))
 f319:=Tryz.func97.trans (congrArg some (by kernel_rfl))
 f320:=Tryz.func98.trans (congrArg some (by kernel_rfl))
 f337:=Tryz.func99.trans (congrArg some (by kernel_rfl))
 f338:=Tryz.func100.trans (congrArg some (by kernel_rfl))
 t0:=Tryz.underlying0
 a0:=Tryz.isAgg0
 z0:=Tryz.sizeOf0
 v0:=Tryz.zeroValue0
 t2:=Tryz.underlying2
 a2:=Tryz.isAgg2
 z2:=Tryz.sizeOf2
 v2:=Tryz.zeroValue2
 t3:=Tryz.underlying3
 a3:=Tryz.isAgg3
 z3:=Tryz.sizeOf3
 v3:=Tryz.zeroValue3
 t4:=Tryz.underlying4
 a4:=Tryz.isAgg4
 z4:=Tryz.sizeOf4
 v4:=Tryz.zeroValue4
 t5:=Tryz.underlying5
 a5:=Tryz.isAgg5
 z5:=Tryz.sizeOf5
 v5:=Tryz.zeroValue5
 t9:=Tryz.underlying9
 a9:=Tryz.isAgg9
 z9:=Tryz.sizeOf9
 v9:=Tryz.zeroValue9
 t20:=Tryz.underlying20
 a20:=Tryz.isAgg20
 z20:=Tryz.sizeOf20
 v20:=Tryz.zeroValue20
 t37:=Tryz.underlying127
 a37:=Tryz.isAgg127
 z37:=Tryz.sizeOf127
 v37:=Tryz.zeroValue127
 t46:=Tryz.underlying221
 a46:=Tryz.isAgg221
 z46:=Tryz.sizeOf221
 v46:=Tryz.zeroValue221
 t51:=Tryz.underlying40
 a51:=Tryz.isAgg40
 z51:=Tryz.sizeOf40
 v51:=Tryz.zeroValue40
 t53:=Tryz.underlying210
 a53:=Tryz.isAgg210
 z53:=Tryz.sizeOf210
 v53:=Tryz.zeroValue210
 t171:=Tryz.underlying209
 a171:=Tryz.isAgg209
 z171:=Tryz.sizeOf209
 v171:=Tryz.zeroValue209
 t173:=Tryz.underlying213
 a173:=Tryz.isAgg213
 z173:=Tryz.sizeOf213
 v173:=Tryz.zeroValue213
 t212:=Tryz.underlying218
 a212:=Tryz.isAgg218
 z212:=Tryz.sizeOf218
 v212:=Tryz.zeroValue218
 t213:=Tryz.underlying219
 a213:=Tryz.isAgg219
 z213:=Tryz.sizeOf219
 t232:=Tryz.underlying224
 a232:=Tryz.isAgg224
 z232:=Tryz.sizeOf224
 v232:=Tryz.zeroValue224
 t233:=Tryz.underlying225
 a233:=Tryz.isAgg225
 z233:=Tryz.sizeOf225
 v233:=Tryz.zeroValue225
 g17:=by kernel_rfl
 g18:=by kernel_rfl
 g19:=by kernel_rfl
 i0:=by kernel_rfl
 i2:=by kernel_rfl
 i3:=by kernel_rfl
 i4:=by kernel_rfl
 i5:=by kernel_rfl
 i9:=by kernel_rfl
 i20:=by kernel_rfl
 i37:=by kernel_rfl
 i46:=by kernel_rfl
 i51:=by kernel_rfl
 i53:=by kernel_rfl
 i171:=by kernel_rfl
 i173:=by kernel_rfl
 i212:=by kernel_rfl
 i232:=by kernel_rfl
 i233:=by kernel_rfl
 m17:=by kernel_rfl
 m18:=by kernel_rfl
 m19:=by kernel_rfl}
open Go.RowKit Go.Sort Go.Lib in
theorem Tryz.strconv_FormatInt_10 (n:Int) (h0: -9223372036854775808≤n) (h1:n≤9223372036854775807) (w:World) (htab:Lib.TabIs Tryz.prog w "internal/strconv.uint64pow10" .u64 Lib.pow10Tab):
  Calls Tryz.prog 85 #[.int .i64 n,.int .i64 10] w fun e w'=>e= .returned (.string ⟨(Lib.itoa n).toArray⟩)∧∃k os,w'=grow (w.drewN k) os:=Any.strconv_FormatInt_10 Tryz.laysM173 n h0 h1 w htab
end Go.Proofs
namespace Go.Proofs.YtdangmomddpegaaGreatDoor
open Go Go.RowKit Go.Eng Go.Sy
set_option linter.unusedVariables false
set_option linter.unnecessarySimpa false
set_option maxHeartbeats 4000000
set_option maxRecDepth 100000
theorem RK:ia Tryz.prog 126=some false:=by kernel_rfl
theorem DF:ia Tryz.prog 127=some false:=by kernel_rfl
theorem WS:ll Tryz.prog 5 1 1=true:=by kernel_rfl
theorem mixed:Tryz.prog.follows .mixedOrders=true:=by kernel_rfl
theorem zt:jU Tryz.prog 129 0=some 0:=by kernel_rfl
theorem mh:jU Tryz.prog 129 1=some 1:=by kernel_rfl
theorem aaT:sr Tryz.prog 82=some (false,false):=by kernel_rfl
theorem Xu:(Tryz.prog.info? 129).isSome=true:=by kernel_rfl
theorem ab3:cj Tryz.prog 126=some 1:=by kernel_rfl
theorem Wv:cj Tryz.prog 127=some 1:=by kernel_rfl
theorem Wu:cj Tryz.prog 129=some 2:=by kernel_rfl
theorem Lj:Tryz.prog.underlying 126=some (.pointer 129):=by kernel_rfl
theorem AY:Tryz.prog.underlying 127=some (.slice 5):=by kernel_rfl
theorem Zc:Tryz.prog.underlying 187=some (.pointer 5):=by kernel_rfl
theorem Su:Tryz.prog.underlying 207=some .unsafePointer:=by kernel_rfl
theorem UG:Tryz.prog.underlying 9=some .string:=by kernel_rfl
theorem zv5:(Tryz.prog.info? 5).bind (fun i=>i.zero)=some (.int .u8 0):=by kernel_rfl
abbrev Jk (T:Nat):Prop:=liesAt Tryz.prog Tryz.prog.depth T (2 / Tryz.prog.cellsOf T) 0 129 1=true
theorem abT (l:List UInt8) {ao:Option Addr} {cap:Nat} {c:aH} (r:Row 5 1 ao l.length cap (l.map u8) c) (h:l=[]→ao=none):(l=[]∧ao=none∧cap=0)∨∃g,ao=some ⟨g,0,none⟩∧cap≠0∧l≠[]:=by
 rcases r.form with⟨h1,h2,h3,_⟩|⟨g,cur,h1,_,h2,_⟩
 ·exact .inl ⟨acZ h2,h1,h3⟩
 ·have hne:l≠[]:=fun e=>by rw[h e]at h1;cases h1
  have:0<l.length:=List.length_pos_iff.2 hne
  exact .inr ⟨g,h1,by omega,hne⟩
theorem Hw {b_T b:Nat} {b_l:List UInt8} {b_k:aH} {G:GS} {w:World} {F:List aH} (h_b_T:Jk b_T) (h_b:yr b_T b b_l b_k) (h:Holds G w (b_k::F)):
  Calls Tryz.prog 82 #[.pointer (some ⟨b,0,none⟩)] w (IV G F fun G v c1=>v= .tuple #[]∧BuildS b_T b (b_l) c1):=by
 obtain⟨p,ao,cap,cr,hp,r,rfl⟩:=h_b
 refine enter (N:=20) (L:=[(0,.pointer (some ⟨b,0,none⟩))]) rfl Tryz.func82 rfl rfl rfl (fun a0 s0=> ?_)
 rcases hp with rfl|rfl
 ·
  have h:Holds _ _ ([(b,.cells #[.pointer none,.slice ao b_l.length cap] b_T (0,0))]::cr::F):=h.split
  refine wp_seq ?_
  refine wp_region_lit ?_
  refine ae s0 rfl (fun _ k=>bd (s0.ev rfl) k) (fun a1 s2=> ?_)
  refine ae s2 rfl (fun _ k=>oo (s2.ev rfl) rfl k) (fun a3 s4=> ?_)
  refine ae s4 rfl (fun _ k=>ax (s4.ev rfl) zt k) (fun a5 s6=> ?_)
  refine ae s6 rfl (fun _ k=>aO (s6.ev rfl) RK ((h.rowI 0 0 (cs:=[.pointer none]) (o:=0) rfl rfl rfl) 0 _ rfl) k) (fun a7 s8=> ?_)
  refine ae s8 rfl (fun _ k=>WE (s8.ev rfl) (s8.ev rfl) (z:=.bool true) (by kernel_rfl) k) (fun a9 s10=> ?_)
  refine wpList_nil ?_
  refine aj ?_
  refine nc s10 rfl rfl ?_
  refine wp_region_lit ?_
  refine ae s10 rfl (fun _ k=>bd (s10.ev rfl) k) (fun a12 s13=> ?_)
  refine ae s13 rfl (fun _ k=>bd (s13.ev rfl) k) (fun a14 s15=> ?_)
  refine ae s15 rfl (fun _ k=>QA (s15.ev rfl) Lj Su Wu rfl (h.shapeI 0 0 rfl rfl) rfl k) (fun a16 s17=> ?_)
  refine ae s17 rfl (fun _ k=>QC (s17.ev rfl) Tryz.func87 (by kernel_rfl) (by kernel_rfl) (by kernel_rfl) (by kernel_rfl) k) (fun a18 s19=> ?_)
  refine ae s19 rfl (fun _ k=>LC (s19.ev rfl) Su Lj Xu (h.shapeI 0 0 rfl rfl) h_b_T k) (fun a20 s21=> ?_)
  refine ae s21 rfl (fun _ k=>oo (s21.ev rfl) rfl k) (fun a22 s23=> ?_)
  refine ae s23 rfl (fun _ k=>ax (s23.ev rfl) zt k) (fun a24 s25=> ?_)
  refine fO s25 rfl rfl ab3 rfl h (j:=0) rfl rfl rfl (cl:=[.pointer (some ⟨b,0,none⟩),.slice ao b_l.length cap]) (by kernel_rfl) (fun a26 w28 s27 h29=> ?_)
  have h29:Holds _ _ ([(b,.cells #[.pointer (some ⟨b,0,none⟩),.slice ao b_l.length cap] b_T (0,0))]::cr::F):=h29
  refine wpList_nil ?_
  have h30:Holds _ _ (cr::[(b,.cells #[.pointer (some ⟨b,0,none⟩),.slice ao b_l.length cap] b_T (0,0))]::F):=h29.front 1 rfl
  have h31:Holds _ _ ([(b,.cells #[.pointer (some ⟨b,0,none⟩),.slice ao b_l.length cap] b_T (0,0))]::cr::F):=h30.front 1 rfl
  exact WN s27 rfl ⟨_,_,_,rfl,(GS.Le.refl _),h31.join,rfl,⟨_,_,_,_,rfl,r,rfl⟩⟩
 ·
  have h:Holds _ _ ([(b,.cells #[.pointer (some ⟨b,0,none⟩),.slice ao b_l.length cap] b_T (0,0))]::cr::F):=h.split
  refine wp_seq ?_
  refine wp_region_lit ?_
  refine ae s0 rfl (fun _ k=>bd (s0.ev rfl) k) (fun a32 s33=> ?_)
  refine ae s33 rfl (fun _ k=>oo (s33.ev rfl) rfl k) (fun a34 s35=> ?_)
  refine ae s35 rfl (fun _ k=>ax (s35.ev rfl) zt k) (fun a36 s37=> ?_)
  refine ae s37 rfl (fun _ k=>aO (s37.ev rfl) RK ((h.rowI 0 0 (cs:=[.pointer (some ⟨b,0,none⟩)]) (o:=0) rfl rfl rfl) 0 _ rfl) k) (fun a38 s39=> ?_)
  refine ae s39 rfl (fun _ k=>WE (s39.ev rfl) (s39.ev rfl) (z:=.bool false) (by kernel_rfl) k) (fun a40 s41=> ?_)
  refine wpList_nil ?_
  refine aj ?_
  refine rD s41 rfl rfl ?_
  refine wp_seq ?_
  refine wp_region_lit ?_
  refine ae s41 rfl (fun _ k=>bd (s41.ev rfl) k) (fun a43 s44=> ?_)
  refine ae s44 rfl (fun _ k=>oo (s44.ev rfl) rfl k) (fun a45 s46=> ?_)
  refine ae s46 rfl (fun _ k=>ax (s46.ev rfl) zt k) (fun a47 s48=> ?_)
  refine ae s48 rfl (fun _ k=>aO (s48.ev rfl) RK ((h.rowI 0 0 (cs:=[.pointer (some ⟨b,0,none⟩)]) (o:=0) rfl rfl rfl) 0 _ rfl) k) (fun a49 s50=> ?_)
  refine ae s50 rfl (fun _ k=>bd (s50.ev rfl) k) (fun a51 s52=> ?_)
  refine ae s52 rfl (fun _ k=>QB (s52.ev rfl) (s52.ev rfl) Lj Wu rfl k) (fun a53 s54=> ?_)
  refine wpList_nil ?_
  refine aj ?_
  refine rD s54 rfl rfl ?_
  refine wp_skip ?_
  have h56:Holds _ _ (cr::[(b,.cells #[.pointer (some ⟨b,0,none⟩),.slice ao b_l.length cap] b_T (0,0))]::F):=h.front 1 rfl
  have h57:Holds _ _ ([(b,.cells #[.pointer (some ⟨b,0,none⟩),.slice ao b_l.length cap] b_T (0,0))]::cr::F):=h56.front 1 rfl
  exact WN s54 rfl ⟨_,_,_,rfl,(GS.Le.refl _),h57.join,rfl,⟨_,_,_,_,rfl,r,rfl⟩⟩
theorem Ud {b_T b:Nat} {b_l:List UInt8} {b_k:aH} (t:List UInt8) {G:GS} {w:World} {F:List aH} (h_b_T:Jk b_T) (h_b:yr b_T b b_l b_k) (hl:b_l.length+t.length≤140737488355328) (h:Holds G w (b_k::F)):
  Calls Tryz.prog 63 #[.pointer (some ⟨b,0,none⟩),S t] w (IV G F fun G v c1=>v= .tuple #[.int .i64 (t.length:Int),.nilIface]∧BuildS b_T b (b_l++t) c1):=by
 refine enter (N:=19) (L:=[(0,.pointer (some ⟨b,0,none⟩)),(1,S t)]) rfl Tryz.func63 rfl rfl rfl (fun a0 s0=> ?_)
 refine wp_seq ?_
 refine wp_region_lit ?_
 refine ae s0 rfl (fun _ k=>aZ (s0.ev rfl) k) (fun a1 s2=> ?_)
 refine ae s2 rfl (fun _ k=>aZ (s2.ev rfl) k) (fun a3 s4=> ?_)
 refine wpList_nil ?_
 refine aj ?_
 refine wp_seq ?_
 refine wp_region_lit ?_
 refine ae s4 rfl (fun _ k=>bd (s4.ev rfl) k) (fun a5 s6=> ?_)
 refine OS s6 rfl aaT rfl (Hw h_b_T h_b h) (fun a7 w9 v14 G11 c16 hs15 h10 hv13 s8=> ?_)
 obtain⟨v14e,hb17⟩:=hv13
 subst v14e
 have hG12:=(GS.Le.refl _).trans hs15
 refine wpList_nil ?_
 refine aj ?_
 refine wp_seq ?_
 refine wp_region_lit ?_
 obtain⟨p18,ao19,cap20,cr21,hp22,r23,rfl⟩:=hb17
 have h25:Holds _ _ ([(b,.cells #[p18,.slice ao19 b_l.length cap20] b_T (0,0))]::cr21::F):=h10.split
 refine ae s8 rfl (fun _ k=>bd (s8.ev rfl) k) (fun a26 s27=> ?_)
 refine ae s27 rfl (fun _ k=>bd (s27.ev rfl) k) (fun a28 s29=> ?_)
 refine ae s29 rfl (fun _ k=>oo (s29.ev rfl) rfl k) (fun a30 s31=> ?_)
 refine ae s31 rfl (fun _ k=>ax (s31.ev rfl) mh k) (fun a32 s33=> ?_)
 refine ae s33 rfl (fun _ k=>aO (s33.ev rfl) DF ((h25.rowI 0 0 (cs:=[.slice ao19 b_l.length cap20]) (o:=1) rfl rfl rfl) 0 _ rfl) k) (fun a34 s35=> ?_)
 refine ae s35 rfl (fun _ k=>bd (s35.ev rfl) k) (fun a36 s37=> ?_)
 have h38:Holds _ _ (cr21::[(b,.cells #[p18,.slice ao19 b_l.length cap20] b_T (0,0))]::F):=h25.front 1 rfl
 refine SH s37 rfl r23 h38 rfl rfl AY UG WS zv5 (by omega) (fun a39 w41 ao43 cap44 c45 s40 r46 h42 hn47=> ?_)
 refine ae s40 rfl (fun _ k=>oo (s40.ev rfl) rfl k) (fun a48 s49=> ?_)
 refine ae s49 rfl (fun _ k=>ax (s49.ev rfl) mh k) (fun a50 s51=> ?_)
 have h52:Holds _ _ ([(b,.cells #[p18,.slice ao19 b_l.length cap20] b_T (0,0))]::c45::F):=h42.front 1 rfl
 refine fO s51 rfl rfl Wv rfl h52 (j:=0) rfl rfl rfl (cl:=[p18,.slice ao43 (b_l.length+t.length) cap44]) (by kernel_rfl) (fun a53 w55 s54 h56=> ?_)
 have h56:Holds _ _ ([(b,.cells #[p18,.slice ao43 (b_l.length+t.length) cap44] b_T (0,0))]::c45::F):=h56
 refine wpList_nil ?_
 refine aj ?_
 refine wp_seq ?_
 refine wp_region_lit ?_
 refine ae s54 rfl (fun _ k=>bd (s54.ev rfl) k) (fun a57 s58=> ?_)
 refine ae s58 rfl (fun _ k=>aaV (s58.ev rfl) UG k) (fun a59 s60=> ?_)
 refine ae s60 rfl (fun _ k=>aZ (s60.ev rfl) k) (fun a61 s62=> ?_)
 refine ae s62 rfl (fun _ k=>aZ (s62.ev rfl) k) (fun a63 s64=> ?_)
 refine wpList_nil ?_
 refine aj ?_
 refine wp_ret ?_
 have h65:Holds _ _ (c45::[(b,.cells #[p18,.slice ao43 (b_l.length+t.length) cap44] b_T (0,0))]::F):=h56.front 1 rfl
 have h66:Holds _ _ ([(b,.cells #[p18,.slice ao43 (b_l.length+t.length) cap44] b_T (0,0))]::c45::F):=h65.front 1 rfl
 rw[show b_l.length+t.length=(b_l++t).length from(acC ..).symm]at h66 r46
 rw[←acR]at r46
 exact act s64 rfl rfl rfl ⟨_,_,_,rfl,hG12,h66.join,rfl,⟨_,_,_,_,hp22,r46,rfl⟩⟩
theorem RI {b_T b:Nat} {b_l:List UInt8} {b_k:aH} (c:Int) {G:GS} {w:World} {F:List aH} (h_b_T:Jk b_T) (h_b:yr b_T b b_l b_k) (h_c:0≤c∧c≤255) (hl:b_l.length+1≤140737488355328) (h:Holds G w (b_k::F)):
  Calls Tryz.prog 65 #[.pointer (some ⟨b,0,none⟩),.int .u8 c] w (IV G F fun G v c1=>v= .nilIface∧BuildS b_T b (b_l++[ac0 c.toNat]) c1):=by
 refine enter (N:=17) (L:=[(0,.pointer (some ⟨b,0,none⟩)),(1,.int .u8 c)]) rfl Tryz.func65 rfl rfl rfl (fun a0 s0=> ?_)
 refine wp_seq ?_
 refine wp_region_lit ?_
 refine ae s0 rfl (fun _ k=>aZ (s0.ev rfl) k) (fun a1 s2=> ?_)
 refine wpList_nil ?_
 refine aj ?_
 refine wp_seq ?_
 refine wp_region_lit ?_
 refine ae s2 rfl (fun _ k=>bd (s2.ev rfl) k) (fun a3 s4=> ?_)
 refine OS s4 rfl aaT rfl (Hw h_b_T h_b h) (fun a5 w7 v12 G9 c14 hs13 h8 hv11 s6=> ?_)
 obtain⟨v12e,hb15⟩:=hv11
 subst v12e
 have hG10:=(GS.Le.refl _).trans hs13
 refine wpList_nil ?_
 refine aj ?_
 refine wp_seq ?_
 refine wp_region_lit ?_
 obtain⟨p16,ao17,cap18,cr19,hp20,r21,rfl⟩:=hb15
 have h23:Holds _ _ ([(b,.cells #[p16,.slice ao17 b_l.length cap18] b_T (0,0))]::cr19::F):=h8.split
 refine ae s6 rfl (fun _ k=>bd (s6.ev rfl) k) (fun a24 s25=> ?_)
 refine ae s25 rfl (fun _ k=>bd (s25.ev rfl) k) (fun a26 s27=> ?_)
 refine ae s27 rfl (fun _ k=>oo (s27.ev rfl) rfl k) (fun a28 s29=> ?_)
 refine ae s29 rfl (fun _ k=>ax (s29.ev rfl) mh k) (fun a30 s31=> ?_)
 refine ae s31 rfl (fun _ k=>aO (s31.ev rfl) DF ((h23.rowI 0 0 (cs:=[.slice ao17 b_l.length cap18]) (o:=1) rfl rfl rfl) 0 _ rfl) k) (fun a32 s33=> ?_)
 refine ae s33 rfl (fun _ k=>bd (s33.ev rfl) k) (fun a34 s35=> ?_)
 refine dK s35 rfl h23 (vs:=[(0,.int .u8 c)]) (cl:=[.int .u8 c]) (E:=5) rfl (fun w=>by kernel_rfl) (fun a37 w39 b36 s38 h40=> ?_)
 have h40:Holds _ _ ([(b36,.cells #[.int .u8 c] 5 (0,0))]::[(b,.cells #[p16,.slice ao17 b_l.length cap18] b_T (0,0))]::cr19::F):=h40
 have h41:Holds _ _ (cr19::[(b36,.cells #[.int .u8 c] 5 (0,0))]::[(b,.cells #[p16,.slice ao17 b_l.length cap18] b_T (0,0))]::F):=h40.front 2 rfl
 refine ox s38 rfl r21 h41 rfl rfl AY WS (news:=[.int .u8 c]) rfl (h41.rowI 1 0 (o:=0) rfl rfl rfl) rfl (by omega) (by omega) (fun a42 w44 ao46 cap47 c48 s43 r49 h45=> ?_)
 have h50:Holds _ _ ([(b36,.cells #[.int .u8 c] 5 (0,0))]::c48::[(b,.cells #[p16,.slice ao17 b_l.length cap18] b_T (0,0))]::F):=h45.front 1 rfl
 have h51:Holds _ _ (c48::[(b,.cells #[p16,.slice ao17 b_l.length cap18] b_T (0,0))]::F):=h50.drop
 refine ae s43 rfl (fun _ k=>oo (s43.ev rfl) rfl k) (fun a52 s53=> ?_)
 refine ae s53 rfl (fun _ k=>ax (s53.ev rfl) mh k) (fun a54 s55=> ?_)
 have h56:Holds _ _ ([(b,.cells #[p16,.slice ao17 b_l.length cap18] b_T (0,0))]::c48::F):=h51.front 1 rfl
 refine fO s55 rfl rfl Wv rfl h56 (j:=0) rfl rfl rfl (cl:=[p16,.slice ao46 (b_l.length+1) cap47]) (by kernel_rfl) (fun a57 w59 s58 h60=> ?_)
 have h60:Holds _ _ ([(b,.cells #[p16,.slice ao46 (b_l.length+1) cap47] b_T (0,0))]::c48::F):=h60
 refine wpList_nil ?_
 refine aj ?_
 refine wp_seq ?_
 refine wp_region_lit ?_
 refine ae s58 rfl (fun _ k=>aZ (s58.ev rfl) k) (fun a61 s62=> ?_)
 refine wpList_nil ?_
 refine aj ?_
 refine wp_ret ?_
 have h63:Holds _ _ (c48::[(b,.cells #[p16,.slice ao46 (b_l.length+1) cap47] b_T (0,0))]::F):=h60.front 1 rfl
 have h64:Holds _ _ ([(b,.cells #[p16,.slice ao46 (b_l.length+1) cap47] b_T (0,0))]::c48::F):=h63.front 1 rfl
 have r49:=r49.cast (n':=(b_l++[ac0 c.toNat]).length) (xs':=(b_l++[ac0 c.toNat]).map u8) (by simp) (by rw[ab1 h_c,acR];rfl)
 rw[show b_l.length+1=(b_l++[ac0 c.toNat]).length by simp]at h64
 exact lG s62 rfl rfl ⟨_,_,_,rfl,hG10,h64.join,rfl,⟨_,_,_,_,hp20,r49,rfl⟩⟩
theorem Ue {b_T b:Nat} {b_l:List UInt8} {b_k:aH} {G:GS} {w:World} {F:List aH} (h_b_T:Jk b_T) (h_b:BuildC b_T b b_l b_k) (h:Holds G w (b_k::F)):
  Calls Tryz.prog 34 #[.pointer (some ⟨b,0,none⟩)] w (Ret G F fun G v=>v=S b_l):=by
 obtain⟨p,ao,cap,cr,hp,r,hao,rfl⟩:=h_b
 refine enter (N:=14) (L:=[(0,.pointer (some ⟨b,0,none⟩))]) rfl Tryz.func34 rfl rfl rfl (fun a0 s0=> ?_)
 rcases abT b_l r hao with⟨rfl,rfl,rfl⟩|⟨g0,rfl,hc,hne⟩
 ·
  have h:Holds _ _ ([(b,.cells #[p,.slice none 0 0] b_T (0,0))]::cr::F):=h.split
  refine wp_seq ?_
  refine wp_region_lit ?_
  refine ae s0 rfl (fun _ k=>aZ (s0.ev rfl) k) (fun a1 s2=> ?_)
  refine wpList_nil ?_
  refine aj ?_
  refine wp_seq ?_
  have hok:vP 14 [(0,.pointer (some ⟨b,0,none⟩))] [(some 3,Fact.eq (.pointer (some ⟨b,0,none⟩))),(some 4,Fact.eq (.pointer (some ⟨b,0,none⟩))),(some 5,Fact.eq (.pointer (some ⟨b,1,none⟩))),(some 6,Fact.eq (.slice none 0 0)),(some 7,Fact.eq (.pointer none)),(some 8,Fact.eq (.pointer (some ⟨b,0,none⟩))),(some 9,Fact.eq (.pointer (some ⟨b,0,none⟩))),(some 10,Fact.eq (.pointer (some ⟨b,1,none⟩))),(some 11,Fact.eq (.slice none 0 0)),(some 12,Fact.eq (.int .i64 0)),(some 13,Fact.eq (S [])),(some 2,Fact.eq (S []))] []=true:=rfl
  refine lu (N:=14) (L0:=[(0,.pointer (some ⟨b,0,none⟩))]) (X:=[(some 3,Fact.eq (.pointer (some ⟨b,0,none⟩))),(some 4,Fact.eq (.pointer (some ⟨b,0,none⟩))),(some 5,Fact.eq (.pointer (some ⟨b,1,none⟩))),(some 6,Fact.eq (.slice none 0 0)),(some 7,Fact.eq (.pointer none)),(some 8,Fact.eq (.pointer (some ⟨b,0,none⟩))),(some 9,Fact.eq (.pointer (some ⟨b,0,none⟩))),(some 10,Fact.eq (.pointer (some ⟨b,1,none⟩))),(some 11,Fact.eq (.slice none 0 0)),(some 12,Fact.eq (.int .i64 0)),(some 13,Fact.eq (S [])),(some 2,Fact.eq (S []))]) (O:=[]) (HR:=fun D a _ H=>H=([(b,.cells #[p,.slice none 0 0] b_T (0,0))]::cr::F)) mixed rfl h rfl (s2.sub (all_cons rfl (lA))) (fun i k t v hi=>by simp at hi) ⟨?_,?_,?_,?_,?_,?_,?_,?_,?_,?_,?_,?_,trivial⟩ (fun D a w G H hall j=> ?_)
  ·exact ay rfl (fun D a w G H hR j=>by(have s:=j.sf;exact bd (s.ev rfl) (j.did hok rfl (GS.Le.refl _) j.holds j.hr rfl)))
  ·exact ay rfl (fun D a w G H hR j=>by(have s:=(j.sf.know _ _ (j.gotE 0 rfl (hR.was rfl 0 rfl)));exact oo (s.ev rfl) rfl (j.did hok rfl (GS.Le.refl _) j.holds j.hr rfl)))
  ·exact ay rfl (fun D a w G H hR j=>by(have s:=(j.sf.know _ _ (j.gotE 1 rfl (hR.was rfl 1 rfl)));exact ax (s.ev rfl) mh (j.did hok rfl (GS.Le.refl _) j.holds j.hr rfl)))
  ·exact ay rfl (fun D a w G H hR j=>by(have hH:=j.hr;subst H;have s:=(j.sf.know _ _ (j.gotE 2 rfl (hR.was rfl 2 rfl)));exact aO (s.ev rfl) DF ((j.holds.rowI 0 0 (cs:=[.slice none 0 0]) (o:=1) rfl rfl rfl) 0 _ rfl) (j.did hok rfl (GS.Le.refl _) j.holds j.hr rfl)))
  ·exact ay rfl (fun D a w G H hR j=>by(have s:=(j.sf.know _ _ (j.gotE 3 rfl (hR.was rfl 3 rfl)));exact LB (s.ev rfl) (j.did hok rfl (GS.Le.refl _) j.holds j.hr rfl)))
  ·exact ay rfl (fun D a w G H hR j=>by(have s:=j.sf;exact bd (s.ev rfl) (j.did hok rfl (GS.Le.refl _) j.holds j.hr rfl)))
  ·exact ay rfl (fun D a w G H hR j=>by(have s:=(j.sf.know _ _ (j.gotE 5 rfl (hR.was rfl 5 rfl)));exact oo (s.ev rfl) rfl (j.did hok rfl (GS.Le.refl _) j.holds j.hr rfl)))
  ·exact ay rfl (fun D a w G H hR j=>by(have s:=(j.sf.know _ _ (j.gotE 6 rfl (hR.was rfl 6 rfl)));exact ax (s.ev rfl) mh (j.did hok rfl (GS.Le.refl _) j.holds j.hr rfl)))
  ·exact ay rfl (fun D a w G H hR j=>by(have hH:=j.hr;subst H;have s:=(j.sf.know _ _ (j.gotE 7 rfl (hR.was rfl 7 rfl)));exact aO (s.ev rfl) DF ((j.holds.rowI 0 0 (cs:=[.slice none 0 0]) (o:=1) rfl rfl rfl) 0 _ rfl) (j.did hok rfl (GS.Le.refl _) j.holds j.hr rfl)))
  ·exact ay rfl (fun D a w G H hR j=>by(have s:=(j.sf.know _ _ (j.gotE 8 rfl (hR.was rfl 8 rfl)));exact rJ (s.ev rfl) AY (j.did hok rfl (GS.Le.refl _) j.holds j.hr rfl)))
  ·exact ay rfl (fun D a w G H hR j=>by(have s:=((j.sf.know _ _ (j.gotE 4 rfl (hR.was rfl 4 rfl))).know _ _ (j.gotE 9 rfl (hR.was rfl 9 rfl)));exact GC (s.ev rfl) (s.ev rfl) (j.did hok rfl (GS.Le.refl _) j.holds j.hr rfl)))
  ·exact ay rfl (fun D a w G H hR j=>by(have s:=(j.sf.know _ _ (j.gotE 10 rfl (hR.was rfl 10 rfl)));exact aZ (s.ev rfl) (j.did hok rfl (GS.Le.refl _) j.holds j.hr rfl)))
  have s4:=(j.sf.know _ _ (j.gotE 11 rfl (hall 11 (by decide))))
  have hH:=j.hr
  subst H
  have hle10:=j.le
  have hG8:=(GS.Le.refl _).trans hle10
  have h9:Holds _ _ ([(b,.cells #[p,.slice none 0 0] b_T (0,0))]::cr::F):=j.holds
  clear j hall hok
  refine aj ?_
  refine wp_ret ?_
  refine lG s4 rfl rfl ⟨_,_,rfl,hG8,h9.drop.drop,?_⟩
  rfl
 ·
  have h:Holds _ _ ([(b,.cells #[p,.slice (some ⟨g0,0,none⟩) b_l.length cap] b_T (0,0))]::cr::F):=h.split
  refine wp_seq ?_
  refine wp_region_lit ?_
  refine ae s0 rfl (fun _ k=>aZ (s0.ev rfl) k) (fun a11 s12=> ?_)
  refine wpList_nil ?_
  refine aj ?_
  refine wp_seq ?_
  have hok:vP 14 [(0,.pointer (some ⟨b,0,none⟩))] [(some 3,Fact.eq (.pointer (some ⟨b,0,none⟩))),(some 4,Fact.eq (.pointer (some ⟨b,0,none⟩))),(some 5,Fact.eq (.pointer (some ⟨b,1,none⟩))),(some 6,Fact.eq (.slice (some ⟨g0,0,none⟩) b_l.length cap)),(some 7,Fact.eq (.pointer (some ⟨g0,0,none⟩))),(some 8,Fact.eq (.pointer (some ⟨b,0,none⟩))),(some 9,Fact.eq (.pointer (some ⟨b,0,none⟩))),(some 10,Fact.eq (.pointer (some ⟨b,1,none⟩))),(some 11,Fact.eq (.slice (some ⟨g0,0,none⟩) b_l.length cap)),(some 12,Fact.eq (.int .i64 (b_l.length:Int))),(some 13,Fact.eq (S b_l)),(some 2,Fact.eq (S b_l))] []=true:=rfl
  refine lu (N:=14) (L0:=[(0,.pointer (some ⟨b,0,none⟩))]) (X:=[(some 3,Fact.eq (.pointer (some ⟨b,0,none⟩))),(some 4,Fact.eq (.pointer (some ⟨b,0,none⟩))),(some 5,Fact.eq (.pointer (some ⟨b,1,none⟩))),(some 6,Fact.eq (.slice (some ⟨g0,0,none⟩) b_l.length cap)),(some 7,Fact.eq (.pointer (some ⟨g0,0,none⟩))),(some 8,Fact.eq (.pointer (some ⟨b,0,none⟩))),(some 9,Fact.eq (.pointer (some ⟨b,0,none⟩))),(some 10,Fact.eq (.pointer (some ⟨b,1,none⟩))),(some 11,Fact.eq (.slice (some ⟨g0,0,none⟩) b_l.length cap)),(some 12,Fact.eq (.int .i64 (b_l.length:Int))),(some 13,Fact.eq (S b_l)),(some 2,Fact.eq (S b_l))]) (O:=[]) (HR:=fun D a _ H=>H=((bif D 10 then F else ([(b,.cells #[p,.slice (some ⟨g0,0,none⟩) b_l.length cap] b_T (0,0))]::cr::F)))) mixed rfl h rfl (s12.sub (all_cons rfl (lA))) (fun i k t v hi=>by simp at hi) ⟨?_,?_,?_,?_,?_,?_,?_,?_,?_,?_,?_,?_,trivial⟩ (fun D a w G H hall j=> ?_)
  ·exact ay rfl (fun D a w G H hR j=>by(have s:=j.sf;exact bd (s.ev rfl) (j.did hok rfl (GS.Le.refl _) j.holds j.hr rfl)))
  ·exact ay rfl (fun D a w G H hR j=>by(have s:=(j.sf.know _ _ (j.gotE 0 rfl (hR.was rfl 0 rfl)));exact oo (s.ev rfl) rfl (j.did hok rfl (GS.Le.refl _) j.holds j.hr rfl)))
  ·exact ay rfl (fun D a w G H hR j=>by(have s:=(j.sf.know _ _ (j.gotE 1 rfl (hR.was rfl 1 rfl)));exact ax (s.ev rfl) mh (j.did hok rfl (GS.Le.refl _) j.holds j.hr rfl)))
  ·exact ay rfl (fun D a w G H hR j=>by(have he10:D 10=false:=(hR.not (k:=10) (j:=4) rfl rfl (hR.not (k:=4) (j:=3) rfl rfl hR.todo));have hH:=j.hr;simp only[he10,cond_true,cond_false]at hH;subst H;have s:=(j.sf.know _ _ (j.gotE 2 rfl (hR.was rfl 2 rfl)));exact aO (s.ev rfl) DF ((j.holds.rowI 0 0 (cs:=[.slice (some ⟨g0,0,none⟩) b_l.length cap]) (o:=1) rfl rfl rfl) 0 _ rfl) (j.did hok rfl (GS.Le.refl _) j.holds j.hr rfl)))
  ·exact ay rfl (fun D a w G H hR j=>by(have s:=(j.sf.know _ _ (j.gotE 3 rfl (hR.was rfl 3 rfl)));exact NY (s.ev rfl) (by omega) (j.did hok rfl (GS.Le.refl _) j.holds j.hr rfl)))
  ·exact ay rfl (fun D a w G H hR j=>by(have s:=j.sf;exact bd (s.ev rfl) (j.did hok rfl (GS.Le.refl _) j.holds j.hr rfl)))
  ·exact ay rfl (fun D a w G H hR j=>by(have s:=(j.sf.know _ _ (j.gotE 5 rfl (hR.was rfl 5 rfl)));exact oo (s.ev rfl) rfl (j.did hok rfl (GS.Le.refl _) j.holds j.hr rfl)))
  ·exact ay rfl (fun D a w G H hR j=>by(have s:=(j.sf.know _ _ (j.gotE 6 rfl (hR.was rfl 6 rfl)));exact ax (s.ev rfl) mh (j.did hok rfl (GS.Le.refl _) j.holds j.hr rfl)))
  ·exact ay rfl (fun D a w G H hR j=>by(have he10:D 10=false:=(hR.not (k:=10) (j:=9) rfl rfl (hR.not (k:=9) (j:=8) rfl rfl hR.todo));have hH:=j.hr;simp only[he10,cond_true,cond_false]at hH;subst H;have s:=(j.sf.know _ _ (j.gotE 7 rfl (hR.was rfl 7 rfl)));exact aO (s.ev rfl) DF ((j.holds.rowI 0 0 (cs:=[.slice (some ⟨g0,0,none⟩) b_l.length cap]) (o:=1) rfl rfl rfl) 0 _ rfl) (j.did hok rfl (GS.Le.refl _) j.holds j.hr rfl)))
  ·exact ay rfl (fun D a w G H hR j=>by(have s:=(j.sf.know _ _ (j.gotE 8 rfl (hR.was rfl 8 rfl)));exact rJ (s.ev rfl) AY (j.did hok rfl (GS.Le.refl _) j.holds j.hr rfl)))
  ·exact ay rfl (fun D a w G H hR j=>by(have hH:=j.hr;simp only[cond_true,cond_false,hR.todo]at hH;subst H;have s:=((j.sf.know _ _ (j.gotE 4 rfl (hR.was rfl 4 rfl))).know _ _ (j.gotE 9 rfl (hR.was rfl 9 rfl)));exact Ip (j.holds.front 1 rfl).dropsnd r (s.ev rfl) (s.ev rfl) rfl Zc (by kernel_rfl) hne (fun w' hh=>j.did hok rfl (GS.Le.refl _) (show Holds _ _ F from hh) (by simp only[vJ,cond_true,cond_false,Uu,PW,Vb,AS (show 13<a.tmps.size by rw[j.sf.size];decide)]) rfl)))
  ·exact ay rfl (fun D a w G H hR j=>by(have s:=(j.sf.know _ _ (j.gotE 10 rfl (hR.was rfl 10 rfl)));exact aZ (s.ev rfl) (j.did hok rfl (GS.Le.refl _) j.holds j.hr rfl)))
  have s14:=(j.sf.know _ _ (j.gotE 11 rfl (hall 11 (by decide))))
  have hH:=j.hr
  simp only[hall 10 (by decide),cond_true]at hH
  subst H
  have hle20:=j.le
  have hG18:=(GS.Le.refl _).trans hle20
  have h19:Holds _ _ (F):=j.holds
  clear j hall hok
  refine aj ?_
  refine wp_ret ?_
  refine lG s14 rfl rfl ⟨_,_,rfl,hG18,h19,?_⟩
  rfl
theorem Nj:∀Ty∈[129,131],Jk Ty:=by
 intro Ty h
 simp only[List.mem_cons,List.not_mem_nil,or_false]at h
 rcases h with rfl|rfl<;>(unfold Jk;kernel_rfl)
theorem uK:cY Tryz.prog 63 1 (CR [129,131]):=QH Nj fun Ty b l c t G w F hT hb hl hh=>Ud t hT hb hl hh
theorem xW:cY Tryz.prog 65 1 (Gp [129,131]):=SV Nj fun Ty b l c z G w F hT hb hz hl hh=>RI z hT hb hz hl hh
theorem BL:cY Tryz.prog 34 0 (KL [129,131]):=Vl Nj fun Ty b l c G w F hT hb hh=>Ue hT hb hh
theorem Qf:Tryz.prog.globalNamed "internal/strconv.uint64pow10" =some 0:=by kernel_rfl
theorem LT (z:Int) (G:GS) (w:World) (F:List aH) (hz:aL 0 z) (t:Tied G.M) (h:Holds G w F):Calls Tryz.prog 32 #[.int .i64 z] w (Ret G F fun _ v=>v=S (Lib.itoa z)):=
 (Tryz.strconv_Itoa z hz.1 hz.2 w ((Tied.gvar Qf t).var h)).mono fun _ _ ⟨he,k,os,hw⟩=>⟨_,G,he,GS.Le.refl G,h.ext (hw▸xj w k os),rfl⟩
theorem xU:cY Tryz.prog 32 0 (Bb 0 Lib.itoa):=Ix fun z G w F hz t h=>LT z G w F hz t h
theorem uM:cY Tryz.prog 32 0 (Ia 0 100000000000000000000 ON):=Pd (by decide) (ts:=[]) Sx fun n G w F _ hz t h=>by
 rw[←VC]
 exact LT n G w F hz t h
theorem uL:cY Tryz.prog 89 0 (Ia 0 100 ON):=Pd (by decide) (ts:=[]) Sx fun n G w F hn hz t h=>(Tryz.internal_strconv_small n hn w).mono fun _ _ ⟨he,hw⟩=>⟨_,G,he,GS.Le.refl G,hw▸h,rfl⟩
theorem BM:cY Tryz.prog 85 0 (Qm 0 10 Lib.itoa):=XV fun z G w F hz t h=>
 (Tryz.strconv_FormatInt_10 z hz.1 hz.2 w ((Tied.gvar Qf t).var h)).mono fun _ _ ⟨he,k,os,hw⟩=>⟨_,G,he,GS.Le.refl G,h.ext (hw▸xj w k os),rfl⟩
theorem xT:cY Tryz.prog 64 0 Gn:=SU (fun bk o c ws sep w hc hb h1 h2 h3=>by
  have e1:(ws.map fun x=>(⟨x.toArray⟩:ByteArray)).map (fun b=>b.data.toList)=ws:=by simp[Function.comp_def]
  have hj:=Tryz.strings_Join bk o c (ws.map fun x=>(⟨x.toArray⟩:ByteArray)) ⟨sep.toArray⟩ w (fun j x hx=>by
   rw[List.getElem?_map,acN]at hx
   obtain⟨y,hy,rfl⟩:=hx
   exact hc j y hy) hb (by simpa using h1) (by simpa using h2) (by rw[e1];exact h3)
  rw[e1,acE]at hj
  exact hj.mono fun _ _ ⟨he,hw⟩=>⟨he,hw⟩) (fun a c sep w=>(Tryz.strings_Join_none a c ⟨sep.toArray⟩ w).mono fun _ _ ⟨he,hw⟩=>⟨he,hw▸Below.refl w.heap.size w⟩)
end Go.Proofs.YtdangmomddpegaaGreatDoor
